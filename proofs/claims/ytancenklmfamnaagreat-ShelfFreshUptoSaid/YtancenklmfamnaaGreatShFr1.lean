/- ShelfFresh: number, most, over. -/
import Derived.Test.YtancenklmfamnaaGreatShPl5
set_option linter.unusedVariables false
set_option linter.unusedSimpArgs false
namespace Go.Proofs.YtancenklmfamnaaGreat.Sh
open Go.RowKit Go.Maps Go.Sort Go.Shelf
open Go.Proofs Go.MuLone
open Go.Proofs.YtancenklmfamnaaGreatW.PrintWords (Reps OwnRow Kd ReadsRow)
open PShelfPlays (S70 S104 S115 k70 k104 k115)

set_option maxHeartbeats 2000000 in
set_option maxRecDepth 100000 in
theorem most_any (n c : Nat) (hn : n ≤ 4611686018427387904) (w : World) : Calls Tryz.prog 41 #[.int .i64 (n : Int), .int .i64 (c : Int)] w fun e w' => ∃ m : Nat, e = .returned (.int .i64 (m : Int)) ∧ m = min c (n + 70000) ∧ w' = w := by
  have e1 : IntKind.i64.wrap ((n : Int) + 70000) = ((n + 70000 : Nat) : Int) := by rw [Go.IntWalk.i64_in _ (by omega)]; omega
  by_cases h : n + 70000 < c
  · have hd : decide (((n + 70000 : Nat) : Int) < (c : Int)) = true := decide_eq_true (by omega)
    go_enter Tryz.func41, Tryz.ntmps41
    go_wp2
    go_ret
    exact ⟨n + 70000, rfl, by omega, rfl⟩
  · have hd : decide (((n + 70000 : Nat) : Int) < (c : Int)) = false := decide_eq_false (by omega)
    go_enter Tryz.func41, Tryz.ntmps41
    go_wp2
    go_ret
    exact ⟨c, rfl, by omega, rfl⟩
/-- the marks of the bytes -/
def nv (m j : Nat) : Int := (1 + (m : Int)) / 2 ^ (8 * (j % 3)) % 256
set_option maxHeartbeats 2000000 in
set_option maxRecDepth 100000 in
theorem number_any (i j : Nat) (hi : i ≤ 1099511627776) (hj : j ≤ 4611686018427387904) (w : World) : Calls Tryz.prog 43 #[.int .i64 (i : Int), .int .i64 (j : Int)] w fun e w' => e = .returned (.int .u8 (nv (i / 2) j)) ∧ w' = w := by
  go_enter Tryz.func43, Tryz.ntmps43
  go_wp2
  go_ret
  refine ⟨?_, rfl⟩
  unfold nv
  rw [show ((i / 2 : Nat) : Int) = (i : Int) / 2 by omega]
  rfl
set_option maxHeartbeats 1000000 in
theorem over_any (g : Nat) (v1 v2 : Value) (much n : Int) (w : World) (hg : w.heap[g]? = some (.cells #[v1, v2, .int .i64 much] 55 (0, 0))) :
    Calls Tryz.prog 42 #[.pointer (some ⟨g, 0, none⟩), .int .i64 n] w fun e w' => ∃ q, e = .returned (.bool (decide (33554432 < q))) ∧ w' = w.setCell ⟨g, 2, none⟩ (.int .i64 q) := by
  have c1 : w.cell? ⟨g, 2, none⟩ = some (.int .i64 much) := by rw [Lib.cell_of_heap hg]; rfl
  have f1 : w.frozen? ⟨g, 2, none⟩ = false := Lib.frozen_of_heap hg _
  go_enter Tryz.func42, Tryz.ntmps42
  go_wp2
  go_ret
  exact ⟨_, rfl, rfl⟩
set_option maxHeartbeats 1000000 in
theorem qover_any (g : Nat) (v1 v2 : Value) (much n : Int) (w : World) (hg : w.heap[g]? = some (.cells #[v1, v2, .int .i64 much] 60 (0, 0))) :
    Calls Tryz.prog 44 #[.pointer (some ⟨g, 0, none⟩), .int .i64 n] w fun e w' => ∃ q, e = .returned (.bool (decide (33554432 < q))) ∧ w' = w.setCell ⟨g, 2, none⟩ (.int .i64 q) := by
  have c1 : w.cell? ⟨g, 2, none⟩ = some (.int .i64 much) := by rw [Lib.cell_of_heap hg]; rfl
  have f1 : w.frozen? ⟨g, 2, none⟩ = false := Lib.frozen_of_heap hg _
  go_enter Tryz.func44, Tryz.ntmps44
  go_wp2
  go_ret
  exact ⟨_, rfl, rfl⟩
end Go.Proofs.YtancenklmfamnaaGreat.Sh
