-- printed by myprint.py (this session's own program, over the kit's print.py and hand contracts)
import Derived.Test.YtfdioplenkcahaaProg
import Derived.Below
import Derived.Deep.Draws
import Derived.Deep.AppendLies
import Derived.Maps.AppendAt
import Derived.OwnWalk
import Derived.Laws.BytesArg
import Derived.Laws.MakeOwn
import Derived.Laws.OwnMore
import Derived.Deep.OwnRows
import Derived.Tactics
import Derived.Lib.ConvBytes
import Derived.Laws.Slices
import Derived.WalkKit
import Derived.KernelRfl
import Derived.RowKit3
import Derived.Deep.LoopGhost
import Derived.Deep.QuietTactic
import Derived.BigQuiet
import Derived.WideLaws
import Derived.Deep.DeepCutAuto
import Derived.Deep.CutBlock
import Derived.Deep.RegionHeld3
import Derived.Laws.Rows
import Derived.Lib.AppendStr
import Derived.ArgAppend
import Derived.Laws.IdiomCopy
import Derived.OrdersHeld
import Derived.Laws.BitsLemmas
import Derived.RowKit
import Derived.Test.YtfdioplenkcahaaShQt
import Derived.Test.YtfdioplenkcahaaWWords
import Derived.Test.YtfdioplenkcahaaWLast
import Derived.Test.YtfdioplenkcahaaWTab
import Derived.Test.YtfdioplenkcahaaWFour
import Derived.Test.YtfdioplenkcahaaWQPut
import Derived.Test.YtfdioplenkcahaaWApart
import Derived.Test.YtfdioplenkcahaaWArr
import Derived.Test.YtfdioplenkcahaaWZeros
import Derived.Test.YtfdioplenkcahaaWFoot
import Derived.Test.YtfdioplenkcahaaWKept
import Derived.Test.YtfdioplenkcahaaWShare
import Derived.Test.YtfdioplenkcahaaWN
import Derived.Test.YtfdioplenkcahaaWFootNe
import Derived.Test.YtfdioplenkcahaaWAt
import Derived.Test.YtfdioplenkcahaaWEqStruct
import Derived.Test.YtfdioplenkcahaaWRepsOne
import Derived.Test.YtfdioplenkcahaaWInv
import Derived.Test.YtfdioplenkcahaaWInvWords
import Derived.Test.YtfdioplenkcahaaWGuard
import Derived.Test.YtfdioplenkcahaaWNEv
import Derived.Test.YtfdioplenkcahaaWMore
namespace Go.Proofs.Ytfdioplenkcahaa.PShellBack
open Go.RowKit Go.Proofs.YtfdioplenkcahaaW.PrintWords Go.Proofs.YtfdioplenkcahaaW.PrintLast Go.Proofs.YtfdioplenkcahaaW.PrintMore
attribute [local go_sem] max2_int min2_int max_two min_two max_three min_three max_four min_four   -- for this text's walks alone
set_option linter.unusedVariables false
set_option linter.unusedSimpArgs false



def errW : Option Int → Value
  | none => .nilIface
  | some c => .iface 0 (.int .i64 c)
theorem errW_none : errW none = .nilIface := rfl
theorem errW_some (c : Int) : errW (some c) = .iface 0 (.int .i64 c) := rfl

theorem info5 : (Try.prog.info? 5).map (fun i => (i.zero, i.size, i.bytes)) = some (some (.int .u8 0), 1, 1) := by kernel_rfl
theorem info9 : (Try.prog.info? 9).map (fun i => (i.zero, i.size, i.bytes)) = some (some (.string ⟨#[]⟩), 1, 16) := by kernel_rfl
-- the values' own types

end Go.Proofs.Ytfdioplenkcahaa.PShellBack
