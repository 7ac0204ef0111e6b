/- heddlelaw31's book of lists that are written over: marks, over, whole, walked. -/
import Derived.Test.YtfdioplenkcahaaPShellFreshx3
import Derived.Lib.Hide
set_option linter.unusedVariables false
set_option linter.unusedSimpArgs false
namespace Go.Proofs.Ytfdioplenkcahaa.Fresh
open Go.RowKit Go.Proofs.Ytfdioplenkcahaa.PShellFresh Go.Proofs.YtfdioplenkcahaaW.PrintWords Go.Proofs.YtfdioplenkcahaaW.PrintLast Go.Proofs.YtfdioplenkcahaaW.PrintMore

theorem word_l0 (n : Nat) : ∀ (s : ByteArray) (m : Nat), m ≤ n → s.size + m ≤ 4611686018427387904 → ∃ r, Ev (fun k => heddlelaw31_word.l0 k (m : Int) s) r := by
  induction n with
  | zero =>
    intro s m hm hs
    refine ⟨s, Ev.step (fun k => by rw [heddlelaw31_word.l0]) ?_⟩
    simp only [show ¬ ((m : Nat) : Int) > 0 by omega, if_false]
    exact Ev.now _
  | succ n ih =>
    intro s m hm hs
    by_cases h0 : m = 0
    · refine ⟨s, Ev.step (fun k => by rw [heddlelaw31_word.l0]) ?_⟩
      simp only [show ¬ ((m : Nat) : Int) > 0 by omega, if_false]
      exact Ev.now _
    · have hz : (strOfNums [(wrap64 (48 + (Int.tmod (m : Int) 10))) % 256]).size = 1 := by simp [strOfNums, ByteArray.size]
      have hd : wrap64 (Int.tdiv (m : Int) 10) = ((m / 10 : Nat) : Int) := by
        rw [Int.tdiv_eq_ediv_of_nonneg (by omega)]
        unfold wrap64
        omega
      obtain ⟨r, hr⟩ := ih (s ++ strOfNums [(wrap64 (48 + (Int.tmod (m : Int) 10))) % 256]) (m / 10) (by omega) (by rw [ByteArray.size_append, hz]; omega)
      refine ⟨r, Ev.step (fun k => by rw [heddlelaw31_word.l0]) ?_⟩
      simp only [show ((m : Nat) : Int) > 0 by omega, if_true, Option.bind_some, hz, hd]
      have : s.size + 1 ≤ 9223372036854775807 := by omega
      simp only [this, if_true]
      exact hr

/-- the marks -/
theorem word_ex : ∃ wd : Nat → ByteArray, ∀ n : Nat, n ≤ 1099511627776 → ∃ k, heddlelaw31_word.f k (n : Int) = some (wd n) := by
  have h : ∀ n : Nat, ∃ r : ByteArray, n ≤ 1099511627776 → ∃ k : Nat, heddlelaw31_word.f k (n : Int) = some r := by
    intro n
    by_cases hn : n ≤ 1099511627776
    · obtain ⟨r, hr⟩ := word_l0 n ⟨#[109]⟩ n (Nat.le_refl _) (by show 1 + n ≤ _; omega)
      exact ⟨r, fun _ => hr.rounds⟩
    · exact ⟨⟨#[]⟩, fun h => absurd h hn⟩
  exact ⟨fun n => Classical.choose (h n), fun n hn => Classical.choose_spec (h n) hn⟩

/-- x is a row whose elements are all m -/
def Row (W : World) (x : Value) (m : ByteArray) : Prop :=
  x = .slice none 0 0 ∨ ∃ b n c cur, x = .slice (some ⟨b, 0, none⟩) n c ∧ n ≤ c ∧ c ≤ maxLen ∧ W.heap[b]? = some (.cells cur 9 (0, 0)) ∧ ∀ j, j < n → cur[j]? = some (.string m)
/-- all rows hold their marks -/
def Good (wd : Nat → ByteArray) (W : World) (xs : List Value) : Prop := ∀ i x, xs[i]? = some x → Row W x (wd (i / 2))
/-- a book at g -/
def BookIs (B : Nat) (W : World) (g : Nat) (xs : List Value) (much : Int) : Prop :=
  B ≤ g ∧ ∃ v, W.heap[g]? = some (.cells #[v, .int .i64 much] 35 (0, 0)) ∧ W.ownsRow B 22 1 v xs.length xs

set_option maxHeartbeats 1000000 in
theorem over_any (g : Nat) (v : Value) (much n : Int) (w : World) (hg : w.heap[g]? = some (.cells #[v, .int .i64 much] 35 (0, 0))) :
    Calls Try.prog 24 #[.pointer (some ⟨g, 0, none⟩), .int .i64 n] w fun e w' => e = .returned (.bool (decide (33554432 < wrap64 (wrap64 (much + 400) + n)))) ∧ w' = w.setCell ⟨g, 1, none⟩ (.int .i64 (wrap64 (wrap64 (much + 400) + n))) := by
  have c1 : w.cell? ⟨g, 1, none⟩ = some (.int .i64 much) := by rw [Lib.cell_of_heap hg]; rfl
  have f1 : w.frozen? ⟨g, 1, none⟩ = false := Lib.frozen_of_heap hg 1
  go_enter Try.func24, Try.ntmps24
  go_wp2
  go_ret
  exact ⟨rfl, rfl⟩

theorem half (i : Nat) (h : i ≤ 1099511627776) : Int.tdiv (i : Int) 2 = ((i / 2 : Nat) : Int) := by
  rw [Int.tdiv_eq_ediv_of_nonneg (by omega)]
  omega

theorem str_ne_self (m : ByteArray) : (m.toList != m.toList) = false := by simp

set_option maxHeartbeats 4000000 in
set_option maxRecDepth 1000000 in
theorem whole_any (wd : Nat → ByteArray) (hwd : ∀ n : Nat, n ≤ 1099511627776 → ∃ k : Nat, heddlelaw31_word.f k (n : Int) = some (wd n)) (B g : Nat) (xs : List Value) (much : Int) (w : World)
    (hb : BookIs B w g xs much) (hgood : Good wd w xs) (hl : xs.length ≤ 1099511627776) :
    Calls Try.prog 14 #[.pointer (some ⟨g, 0, none⟩)] w fun e w' => e = .returned (.bool true) ∧ Below w.heap.size w w' := by
  obtain ⟨_, v, hg, hown⟩ := hb
  have hgl : g < w.heap.size := (Array.getElem?_eq_some_iff.1 hg).1
  obtain ⟨A, c, rfl⟩ : ∃ A c, v = .slice A xs.length c := by
    rcases hown.2 with ⟨rfl, h0⟩ | ⟨b, cap, cur, rfl, _⟩
    · exact ⟨none, 0, by rw [h0]⟩
    · exact ⟨_, _, rfl⟩
  -- what an index reads
  have rd : ∀ i, i < xs.length → ∃ Bk, A = some ⟨Bk, 0, none⟩ ∧ Bk < w.heap.size ∧ ∀ x, xs[i]? = some x → w.cell? ⟨Bk, i, none⟩ = some x := by
    intro i hi
    rcases hown.2 with ⟨h1, h0⟩ | ⟨b, cap, cur, h1, _, h2, h3, h4, h5, h6⟩
    · omega
    · simp only [Value.slice.injEq] at h1
      obtain ⟨rfl, _, rfl⟩ := h1
      refine ⟨b, rfl, (Array.getElem?_eq_some_iff.1 h2).1, fun x hx => ?_⟩
      rw [Lib.cell_of_heap h2]
      rw [← h6] at hx
      rw [List.getElem?_take_of_lt (by omega)] at hx
      simpa using hx
  have HW := Lib.hid hwd
  have HRD := Lib.hid rd
  have HG := Lib.hid hgood
  have HGH := Lib.hid hg
  clear hwd rd hgood hown hg
  go_enter Try.func14, Try.ntmps14
  go_wp2
  go_loopw [3] (fun v3 wr => ∃ i : Nat, i ≤ xs.length ∧ v3 = .int .i64 i ∧ Below w.heap.size w wr) (fun v3 wr => xs.length - (intOf v3).toNat)
  case atStart => exact ⟨0, Nat.zero_le _, rfl, Below.refl _ _⟩
  case round =>
    obtain ⟨i, hi, rfl, hbl⟩ := hrel
    obtain ⟨wo, rfl⟩ : ∃ wo : World, wo = wr := ⟨_, rfl⟩
    have hsz := hbl.size
    have hgw : wo.heap[g]? = some (.cells #[.slice A xs.length c, .int .i64 much] 35 (0, 0)) := (hbl.block g hgl).trans HGH.out
    have c0 : wo.cell? ⟨g, 0, none⟩ = some (.slice A xs.length c) := by rw [Lib.cell_of_heap hgw]; rfl
    have HBL := Lib.hid hbl
    have HGW := Lib.hid hgw
    clear hgw
    by_cases hlt : i < xs.length
    · obtain ⟨k, hk⟩ := HW.out (i / 2) (by omega)
      rw [show ((i / 2 : Nat) : Int) = (i : Int) / 2 by omega] at hk
      have HK := Lib.hid hk
      obtain ⟨Bk, rfl, hBk, hcx⟩ := HRD.out i hlt
      obtain ⟨x, hx⟩ : ∃ x, xs[i]? = some x := ⟨xs[i], List.getElem?_eq_getElem hlt⟩
      have cx := hcx x hx
      have ROW := Lib.hid (HG.out i x hx)
      have CX := Lib.hid cx
      generalize wd (i / 2) = m at *
      clear hk hbl hcx hx cx HG HRD HW
      go_wp2_with (go_at_call 25; ((with_reducible refine (heddlelaw31_word.calls k ((i : Int) / 2) m wo HK.out).mono ?_); rintro e w1 ⟨rfl, hb1⟩; have bw1 := HBL.out.trans (hb1.mono hsz); have HB1 := Lib.hid bw1; clear hb1 bw1))
      have hs1 := HB1.out.size
      -- x is a row of marks
      obtain ⟨a, n, cc, rfl, hn, hcell⟩ : ∃ (a : Option Addr) (n cc : Nat), x = .slice a n cc ∧ n ≤ maxLen ∧ ∀ j, j < n → ∃ bb, a = some ⟨bb, 0, none⟩ ∧ bb < w.heap.size ∧ w.cell? ⟨bb, j, none⟩ = some (.string m) := by
        rcases ROW.out with rfl | ⟨bb, n, cc, cur, rfl, h1, h2, h3, h4⟩
        · exact ⟨none, 0, 0, rfl, Nat.zero_le _, fun j hj => by omega⟩
        · refine ⟨_, n, cc, rfl, by omega, fun j hj => ⟨bb, rfl, (Array.getElem?_eq_some_iff.1 h3).1, ?_⟩⟩
          rw [Lib.cell_of_heap h3]
          exact h4 j hj
      unfold maxLen at hn
      have HCELL := Lib.hid hcell
      clear hcell ROW
      -- the inner loop
      go_loopw [5] (fun v5 wj => ∃ j : Nat, j ≤ n ∧ v5 = .int .i64 j ∧ Below w.heap.size w wj) (fun v5 wj => n - (intOf v5).toNat)
      case atStart => exact ⟨0, Nat.zero_le _, rfl, HB1.out⟩
      case round =>
        obtain ⟨j, hj, rfl, hbj⟩ := hrel
        have hgj : wr.heap[g]? = some (.cells #[.slice (some ⟨Bk, 0, none⟩) xs.length c, .int .i64 much] 35 (0, 0)) := (hbj.block g hgl).trans HGH.out
        have d0 : wr.cell? ⟨g, 0, none⟩ = some (.slice (some ⟨Bk, 0, none⟩) xs.length c) := by rw [Lib.cell_of_heap hgj]; rfl
        have d1 : wr.cell? ⟨Bk, i, none⟩ = some (.slice a n cc) := (hbj.cell (p := ⟨Bk, i, none⟩) hBk).trans CX.out
        have HBJ := Lib.hid hbj
        clear hgj
        by_cases hjn : j < n
        · obtain ⟨bb, rfl, hbb, hc2⟩ := HCELL.out j hjn
          have d2 : wr.cell? ⟨bb, j, none⟩ = some (.string m) := (hbj.cell (p := ⟨bb, j, none⟩) hbb).trans hc2
          clear hc2 hbj
          have eq1 := str_ne_self m
          go_wp2
          go_roundw
          case rel => exact ⟨j + 1, by omega, by go_num, HBJ.out⟩
          case measure => simp [intOf]; omega
        · clear hbj
          go_wp2
          go_roundw
          case rel => exact ⟨i + 1, by omega, by go_num, HBJ.out⟩
          case measure => simp [intOf]; omega
    · go_wp2
      go_ret
      exact ⟨rfl, HBL.out⟩
end Go.Proofs.Ytfdioplenkcahaa.Fresh
