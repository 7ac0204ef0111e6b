/- The document's shelf: Take. -/
import Derived.Test.YtancenklmfamnaaGreatShRef11
import Derived.OwnWalk
set_option linter.unusedVariables false
set_option linter.unusedSimpArgs false
namespace Go.Proofs.YtancenklmfamnaaGreat.Sh
open Go.RowKit Go.Maps Go.Sort Go.Shelf
open Go.Proofs Go.MuLone
open Go.Proofs.YtancenklmfamnaaGreatW.PrintWords (Reps OwnRow Kd ReadsRow)
open PShelfPlays (S70 S104 S115 k70 k104 k115)

section
variable {B g : Nat} {w : World} {F : Nat → Prop} {L : Lay}
theorem touched_map (hb : (L.ms.map (·.blk)).Nodup) {i : Nat} {m : LM} (hm : L.ms[i]? = some m) (u v : Int) : ((L.ms.map (setUsed m.blk u)).map (setTouched m.blk v)).map m104 = ((L.ms.map m104).set i { m104 m with f3 := u }).set i { m104 m with f3 := u, f4 := v } := by
  have h1 : (L.ms.map (setUsed m.blk u)).map (setTouched m.blk v) = L.ms.map fun x => if x.blk = m.blk then { x with used := u, touched := v } else x := by
    rw [List.map_map]
    refine List.map_congr_left fun x _ => ?_
    simp only [Function.comp_apply, setUsed, setTouched]
    by_cases e : x.blk = m.blk
    · simp [e]
    · simp [e]
  rw [h1, set_blk hb hm fun x => { x with used := u, touched := v }, List.map_set, List.set_set]
  rfl
def RTakeP (B g : Nat) (F : Nat → Prop) (L : Lay) (nm : ByteArray) (v : Int) (w : World) (e : Ending) (w' : World) : Prop := RStep w w' F F ∧ RefL B w' g F (L.take nm v).1 ∧ match (L.take nm v).2.1 with
      | none => e = .returned (.tuple #[.slice none 0 0, .int .i64 0, .int .i64 (L.take nm v).2.2])
      | some m => ∃ v', e = .returned (.tuple #[v', .int .i64 m.ver, .int .i64 0]) ∧ w'.ownsRow w.heap.size 5 1 v' m.dat.length (m.dat.map encB)
set_option maxHeartbeats 4000000 in
set_option maxRecDepth 1000000 in
theorem ref_take (h : RefL B w g F L) (r : LRest L) (htc : L.touch < 4611686018427387904) (nm : ByteArray) (v : Int) :
    Calls Tryz.prog 30 #[.pointer (some ⟨g, 0, none⟩), .string nm, .int .i64 v] w (RTakeP B g F L nm v w) := by
  obtain ⟨A1, n1, c1, A2, n2, c2, t⟩ := h
  have hn1 : n1 ≤ 256 := by have := t.len1.1; simp at this; have := r.few; omega
  have HP := Lib.hid (ref_place t (by omega) nm v true)
  have T := Lib.hid t
  have R := Lib.hid r
  clear t r
  go_enter Tryz.func30, Tryz.ntmps30
  go_wp2_with fail
  refine HP.out.mono ?_
  rintro e w1 ⟨q, err, rfl, hq, a, rfl⟩
  rcases place_match R.out.good R.out.keys hq with ⟨hne, rfl, hf⟩ | ⟨rfl, i, m, rfl, hm, hf⟩
  · have e1 : (err != 0) = true := by simpa using hne
    have HR : Hid (L.take nm v = (L, none, err)) := Lib.hid (by unfold Lay.take; rw [hf])
    clear hq hne hf
    go_wp2
    go_ret3
    unfold RTakeP
    rw [HR.out]
    show RStep _ _ _ _ ∧ RefL _ _ _ _ _ ∧ _ = _
    exact ⟨RStep.drewN w F a, ⟨_, _, _, _, _, _, T.out.below (below_drewN (Below.refl _ _) a)⟩, rfl⟩
  · have hx : (L.ms.map m104)[i]? = some (m104 m) := by rw [List.getElem?_map, hm]; rfl
    have T2 := T.out.below (below_drewN (Below.refl w.heap.size w) a)
    obtain ⟨hi, gm, rfl, hDS, y0, y1, y3, y4, fz, _⟩ := T2.mod hx
    obtain ⟨x0, x1, x2, x3, fzg⟩ := T2.cells
    have y3' : (w.drewN a).cell? ⟨gm, i * 5 + 3, none⟩ = some (.int .i64 m.used) := y3
    have hus := R.out.good.used m (List.mem_of_getElem? hm)
    have htch := R.out.good.touch
    have HT2 := Lib.hid (And.intro T2 (And.intro hx hDS))
    have HM := Lib.hid (And.intro hm hf)
    have fzg3 := fzg 3
    clear hq hf y0 y1 y4 y3 fz fzg hx hm T2
    by_cases hu : m.used = 2147483647
    · have HR : Hid (L.take nm v = (L, none, 4)) := Lib.hid (by unfold Lay.take; rw [HM.out.2]; simp [hu])
      have e1 : decide (2147483647 ≤ m.used) = true := decide_eq_true (by omega)
      clear hu
      go_wp2
      go_ret3
      unfold RTakeP
      rw [HR.out]
      show RStep _ _ _ _ ∧ RefL _ _ _ _ _ ∧ _ = _
      exact ⟨RStep.drewN w F a, ⟨_, _, _, _, _, _, T.out.below (below_drewN (Below.refl _ _) a)⟩, rfl⟩
    · have HR : Hid (L.take nm v = ({ L with touch := L.touch + 1, ms := (L.ms.map (setUsed m.blk (m.used + 1))).map (setTouched m.blk (L.touch + 1)) }, some m, 0)) := Lib.hid (by unfold Lay.take; rw [HM.out.2]; simp [hu])
      have e1 : decide (2147483647 ≤ m.used) = false := decide_eq_false (by omega)
      have e2 : IntKind.i64.wrap (m.used + 1) = m.used + 1 := Go.IntWalk.i64_in _ (by omega)
      have e3 : IntKind.i64.wrap (L.touch + 1) = L.touch + 1 := Go.IntWalk.i64_in _ (by omega)
      clear hu
      obtain ⟨T2, hx, hDS⟩ := HT2.out
      -- the clock
      have T3 := T2.clk (L.touch + 1)
      generalize hW3 : (w.drewN a).setCell ⟨g, 3, none⟩ (.int .i64 (L.touch + 1)) = W3 at T3
      obtain ⟨_, gm3, e3a, _, _, p1, p3, p4, pz, _⟩ := T3.mod hx
      obtain rfl : gm = gm3 := by injection e3a with e3a; injection e3a
      -- used
      have T4 := (T3.modSet hx (m.used + 1)).1
      generalize hW4 : W3.setCell ⟨gm, i * 5 + 3, none⟩ (.int .i64 (m.used + 1)) = W4 at T4
      have hx4 : ((L.ms.map m104).set i { m104 m with f3 := m.used + 1 })[i]? = some { m104 m with f3 := m.used + 1 } := by
        rw [List.getElem?_set_self (List.getElem?_eq_some_iff.1 hx).1]
      obtain ⟨_, gm4, e4a, _, _, q1, q3, q4, qz, _⟩ := T4.mod hx4
      obtain rfl : gm = gm4 := by injection e4a with e4a; injection e4a
      -- touched
      have T5 := (T4.modSet hx4 (L.touch + 1)).2
      generalize hW5 : W4.setCell ⟨gm, i * 5 + 4, none⟩ (.int .i64 (L.touch + 1)) = W5 at T5
      have hx5 : (((L.ms.map m104).set i { m104 m with f3 := m.used + 1 }).set i { m104 m with f3 := m.used + 1, f4 := L.touch + 1 })[i]? = some { m104 m with f3 := m.used + 1, f4 := L.touch + 1 } := by
        rw [List.getElem?_set_self (by rw [List.length_set]; exact (List.getElem?_eq_some_iff.1 hx).1)]
      obtain ⟨_, gm5, e5a, _, _, s1, _, _, _, Ad, cd, s2, hcd, hF5⟩ := T5.mod hx5
      obtain rfl : gm = gm5 := by injection e5a with e5a; injection e5a
      have hS5 : Same F (w.drewN a) W5 := by
        rw [← hW5, ← hW4, ← hW3]
        exact ((Same.set _ _ _ T2.self).trans (Same.set _ _ _ hDS.1)).trans (Same.set _ _ _ hDS.1)
      have hml : m.dat.length ≤ 140737488355328 := by have := R.out.good.size_le (List.mem_of_getElem? HM.out.1); have := R.out.good.fits; have := R.out.good.room; omega
      have p3' : W3.cell? ⟨gm, i * 5 + 3, none⟩ = some (.int .i64 m.used) := p3
      have pz3 := pz 3
      have qz4 := qz 4
      obtain ⟨_, px1, _, px3, _⟩ := T3.cells
      obtain ⟨_, qx1, _, qx3, _⟩ := T4.cells
      have q4' : W4.cell? ⟨gm, i * 5 + 4, none⟩ = some (.int .i64 m.touched) := q4
      have H5 := Lib.hid (And.intro T5 (And.intro hx5 (And.intro hS5 (And.intro hF5 (And.intro hcd hml)))))
      clear T2 hx hDS T3 T4 hx4 T5 hx5 hS5 p1 p3 p4 pz q1 q3 q4 qz s1 s2 hF5 hcd hml e3a e4a e5a
      go_upto_region 8 with (fail)
      go_cut [] from 48 to 58 (fun wc => ∃ q, wc = W5.drewN q)
      case first =>
        go_region_law (fail)
        all_goals go_wp2
        all_goals go_meet
        all_goals (case rel => exact ⟨1, by rw [World.drew_is_drewN]⟩)
      case rest =>
      obtain ⟨q, rfl⟩ := hcut
      clear px1 px3 qx1 qx3 p3' q4' pz3 qz4 hW3 hW4 hW5 x0 x1 x2 x3 y3' fzg3
      obtain ⟨T5, hx5, hS5, hF5, hcd, hml⟩ := H5.out
      have hF1 := Kd.F_now (Kd.F_drewN hF5 (q + 1))
      have hC := Lib.hid (copy_bytes (B0 := w.heap.size) hF1 hcd hml (by have := hS5.2.2.2.1; simpa using this) 25)
      have T5r := T5.below (below_drewN (Below.refl W5.heap.size W5) (q + 1))
      obtain ⟨_, x1, _, _, _⟩ := T5.cells
      obtain ⟨_, gm5, e5a, _, _, s1, _, _, _, Ad2, cd2, s2, _, _⟩ := T5.mod hx5
      obtain rfl : gm = gm5 := by injection e5a with e5a; injection e5a
      obtain ⟨_, gm6, e6a, _, _, _, _, _, _, Ad3, cd3, s3, hcd3, hF3⟩ := T5r.mod hx5
      obtain rfl : gm = gm6 := by injection e6a with e6a; injection e6a
      obtain ⟨rfl, rfl⟩ : Ad3 = Ad2 ∧ cd3 = cd2 := by
        have s3' : W5.cell? ⟨gm, i * 5 + 2, none⟩ = some (.slice Ad3 m.dat.length cd3) := s3
        rw [s2] at s3'
        injection s3' with s3'
        injection s3' with h1 _ h2
        exact ⟨h1.symm, h2.symm⟩
      obtain ⟨v6, W6, r6, o6, hb6, _⟩ := copy_bytes (B0 := w.heap.size) (Kd.F_now hF3) hcd3 hml (by have := hS5.2.2.2.1; simpa using this) 25
      have T6 := T5r.below hb6
      obtain ⟨_, u0, _, _, _⟩ := T6.cells
      obtain ⟨_, gm7, e7a, _, _, u1, _⟩ := T6.mod hx5
      obtain rfl : gm = gm7 := by injection e7a with e7a; injection e7a
      have s2' : W5.cell? ⟨gm, i * 5 + 2, none⟩ = some (.slice Ad3 m.dat.length cd3) := s2
      have s1' : W5.cell? ⟨gm, i * 5 + 1, none⟩ = some (.int .i64 m.ver) := s1
      have u1' : W6.cell? ⟨gm, i * 5 + 1, none⟩ = some (.int .i64 m.ver) := u1
      replace r6 : (Builtin.append_ #[25, 25] 25 #[.slice none 0 0, .slice Ad3 m.dat.length cd3]).run Tryz.prog (W5.drewN (q + 1)) = .ok v6 W6 := r6
      have HW6 : Hid (RTakeP B g F L nm v w (.returned (.tuple #[v6, .int .i64 m.ver, .int .i64 0])) W6) := Lib.hid (by
        unfold RTakeP
        rw [HR.out]
        refine ⟨((RStep.drewN w F a).trans ⟨hS5, fun k hk => .inl hk⟩).trans ((RStep.drewN W5 F (q + 1)).trans (RStep.below hb6)), ⟨some ⟨gm, 0, none⟩, n1, c1, A2, n2, c2, ?_⟩, v6, rfl, o6⟩
        show RefAt _ _ _ _ L.room (L.touch + 1) (((L.ms.map (setUsed m.blk (m.used + 1))).map (setTouched m.blk (L.touch + 1))).map m104) (L.last.map l115) _ _ _ _ _ _
        rw [touched_map R.out.blks HM.out.1]
        exact T6)
      clear T5 hx5 hS5 hF5 hcd hml T5r s1 s2 s3 hcd3 hF3 o6 hb6 T6 u1 e5a e6a e7a
      go_upto_region 9 with (fail)
      go_cut [6, 7, 8] from 59 to 75 (fun a6 a7 a8 wc => a6 = v6 ∧ a7 = .int .i64 m.ver ∧ a8 = .int .i64 0 ∧ wc = W6)
      case first =>
        go_region_law ((first | refine step_append_run (by rfl) _ _ 25 (by rfl) (.slice none 0 0) (.slice Ad3 m.dat.length cd3) (by rfl) (by rfl) v6 W6 (by with_reducible exact r6) ?_ | fail))
        all_goals go_wp2
        all_goals go_meet
        all_goals (case rel => exact ⟨rfl, rfl, rfl, rfl⟩)
      case rest =>
      obtain ⟨rfl, rfl, rfl, rfl⟩ := hcut
      go_wp2
      go_ret3
      exact HW6.out
end
end Go.Proofs.YtancenklmfamnaaGreat.Sh
