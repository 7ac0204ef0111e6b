-- printed by myprint.py (this session's own program, over the kit's print.py and hand contracts)
import Derived.Test.YtfdioplenkcahaaPShellBackx0
import Derived.Test.YtfdioplenkcahaaPShellBackx1
import Derived.Test.YtfdioplenkcahaaPShellBackx2
namespace Go.Proofs.Ytfdioplenkcahaa.PShellBack
open Go.RowKit Go.Proofs.YtfdioplenkcahaaW.PrintWords Go.Proofs.YtfdioplenkcahaaW.PrintLast Go.Proofs.YtfdioplenkcahaaW.PrintMore
attribute [local go_sem] max2_int min2_int max_two min_two max_three min_three max_four min_four   -- for this text's walks alone
set_option linter.unusedVariables false
set_option linter.unusedSimpArgs false

end Go.Proofs.Ytfdioplenkcahaa.PShellBack
