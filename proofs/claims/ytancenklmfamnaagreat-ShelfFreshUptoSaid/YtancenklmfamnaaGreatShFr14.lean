/- ShelfFresh: a call of asked in the second loop. -/
import Derived.Test.YtancenklmfamnaaGreatShFr8
import Derived.Test.YtancenklmfamnaaGreatShFr13
set_option linter.unusedVariables false
set_option linter.unusedSimpArgs false
namespace Go.Proofs.YtancenklmfamnaaGreat.Sh
open Go.RowKit Go.Maps Go.Sort Go.Shelf
open Go.Proofs Go.MuLone
open Go.Proofs.YtancenklmfamnaaGreatW.PrintWords (Reps OwnRow Kd ReadsRow)
open PShelfPlays (S70 S104 S115 k70 k104 k115)
section
variable {w0 w w' : World} {p g h n0 n' b1 b2 gb p' g' gq i m j nb cb nb2 cb2 : Nat} {L L' L0 : Lay} {F F' F0 : Nat → Prop} {A A' Ab Ab2 : Option Addr} {xs ls : List Value} {v1 v2 u1 u2 : Value} {much mq : Int} {gots wants : List An} {ts : List Tx} {o o2 : Op1} {ad : Addr}
/-- the cells that the second loop's region reads -/
def SW2 (b2 p' g' : Nat) (ad : Addr) (o : Op1) (Ab : Option Addr) (nb cb : Nat) (w : World) : Prop :=
  w.cell? ⟨b2, 0, none⟩ = some (.pointer (some ⟨p', 0, none⟩)) ∧ w.cell? ⟨b2, 1, none⟩ = some (.pointer (some ⟨g', 0, none⟩)) ∧
  w.cell? ad = some (.int .i64 o.kind) ∧ w.cell? ⟨ad.block, ad.off + 1, none⟩ = some (.int .i64 o.which) ∧ w.cell? ⟨ad.block, ad.off + 2, none⟩ = some (.string o.nm) ∧ w.cell? ⟨ad.block, ad.off + 3, none⟩ = some (.int .i64 o.ver) ∧ w.cell? ⟨ad.block, ad.off + 4, none⟩ = some (.slice Ab nb cb)
/-- the second loop's head, the rest hidden -/
def P3 (w0 w : World) (p g h b1 b2 gb p' g' : Nat) (L : Lay) (F : Nat → Prop) (xs ls : List Value) (v1 v2 : Value) (much : Int) (gq m j : Nat) : Prop :=
  ∃ L0 F0 A n0 gots wants ts u1 u2 mq, P2 w0 w p g h L F A n0 b1 b2 gb p' g' L0 F0 xs ls v1 v2 much gq gots wants ts u1 u2 mq m j
theorem P3.sw (t : P3 w0 w p g h b1 b2 gb p' g' L F xs ls v1 v2 much gq m j) (ho : OpAt w0 ad Ab nb cb o) : SW2 b2 p' g' ad o Ab nb cb w := by
  obtain ⟨L0, F0, A, n0, gots, wants, ts, u1, u2, mq, t⟩ := t
  have h1 := ho.below t.core.below
  refine ⟨?_, ?_, h1.c0, h1.c1, h1.c2, h1.c3, h1.c4⟩
  · rw [Lib.cell_of_heap t.c2]; rfl
  · rw [Lib.cell_of_heap t.c2]; rfl
theorem P3.below_ (t : P3 w0 w p g h b1 b2 gb p' g' L F xs ls v1 v2 much gq m j) (hb : Below w.heap.size w w') : P3 w0 w' p g h b1 b2 gb p' g' L F xs ls v1 v2 much gq m j := by
  obtain ⟨L0, F0, A, n0, gots, wants, ts, u1, u2, mq, t⟩ := t
  exact ⟨L0, F0, A, n0, gots, wants, ts, u1, u2, mq, t.below_ hb⟩
theorem ask3 (t : P3 w0 w p g h b1 b2 gb p' g' L F xs ls v1 v2 much gq m j) (hj : j ≤ 1000000000) (ho : OpAt w0 ad Ab nb cb o) (ho2 : OpV w0 Ab2 nb2 cb2 o2) :
    Calls Tryz.prog 16 #[.pointer (some ⟨gq, 0, none⟩), .pointer (some ⟨h, 0, none⟩), .agg #[.pointer (some ⟨p', 0, none⟩), .pointer (some ⟨g', 0, none⟩)], .agg (opC o2.kind o2.which o2.nm o2.ver (.slice Ab2 nb2 cb2))] w fun e w' =>
      e = .returned (.bool true) ∧ Hid (P3 w0 w' p g h b1 b2 gb p' g' L F xs ls v1 v2 much gq m (j + 1)) ∧ SW2 b2 p' g' ad o Ab nb cb w' := by
  obtain ⟨L0, F0, A, n0, gots, wants, ts, u1, u2, mq, t⟩ := t
  have h1 := t.touch
  have h2 := t.qlen
  refine (asked_any t.core (by omega) t.qk t.qc (by omega) o2 Ab2 nb2 cb2 ho2).mono fun e w' ⟨he, hE⟩ => ?_
  obtain ⟨L0', F0', A', n', gots', wants', ts', u1', u2', mq', t'⟩ := t.asked hE
  have t3 : P3 w0 w' p g h b1 b2 gb p' g' L F xs ls v1 v2 much gq m (j + 1) := ⟨L0', F0', A', n', gots', wants', ts', u1', u2', mq', t'⟩
  exact ⟨he, Lib.hid t3, t3.sw ho⟩
def listOp : Op1 := ⟨6, 0, "".toUTF8, 0, []⟩
theorem listOp.v (w : World) : OpV w none 0 0 listOp := ⟨.inl ⟨rfl, rfl⟩, rfl, by simp [listOp], by show "".toUTF8.size ≤ _; decide, rfl, rfl⟩
/-- the first pair's cells -/
def SW1 (b1 p g : Nat) (w : World) : Prop := w.cell? ⟨b1, 0, none⟩ = some (.pointer (some ⟨p, 0, none⟩)) ∧ w.cell? ⟨b1, 1, none⟩ = some (.pointer (some ⟨g, 0, none⟩))
theorem P3.sw1 (t : P3 w0 w p g h b1 b2 gb p' g' L F xs ls v1 v2 much gq m j) : SW1 b1 p g w := by
  obtain ⟨L0, F0, A, n0, gots, wants, ts, u1, u2, mq, t⟩ := t
  exact ⟨by rw [Lib.cell_of_heap t.c1]; rfl, by rw [Lib.cell_of_heap t.c1]; rfl⟩
theorem list28 (t : P3 w0 w p g h b1 b2 gb p' g' L F xs ls v1 v2 much gq m j) : Calls Tryz.prog 12 #[.pointer (some ⟨p, 0, none⟩)] w fun e w' => ∃ Al nl cl, e = .returned (.slice Al nl cl) ∧ Hid (P3 w0 w' p g h b1 b2 gb p' g' L F xs ls v1 v2 much gq m j ∧ OwnRow RL 70 4 w' w0.heap.size (.slice Al nl cl) (sortedN L)) ∧ SW1 b1 p g w' := by
  obtain ⟨L0, F0, A, n0, gots, wants, ts, u1, u2, mq, t⟩ := t
  refine (list_yes t.side.rest).mono fun e w' ⟨v, he, hrow, st, hr⟩ => ?_
  have t' := t.listed st hr
  have hw0 := t.core.below.size
  obtain ⟨inner, h1, h2⟩ := hrow
  obtain ⟨Al, cl, rfl⟩ := own_slice' h1
  have t3 : P3 w0 w' p g h b1 b2 gb p' g' L F xs ls v1 v2 much gq m j := ⟨L0, F0, A, n0, gots, wants, ts, u1, u2, mq, t'⟩
  exact ⟨Al, _, cl, he, Lib.hid ⟨t3, inner, World.ownsRow.mono h1 hw0, h2⟩, t3.sw1⟩
theorem rlist28 {Al : Option Addr} {nl cl : Nat} (t : P3 w0 w p g h b1 b2 gb p' g' L F xs ls v1 v2 much gq m j) (hr : OwnRow RL 70 4 w w0.heap.size (.slice Al nl cl) (sortedN L)) : Calls Tryz.prog 13 #[.pointer (some ⟨g, 0, none⟩)] w fun e w' => ∃ A2 n2 c2, e = .returned (.slice A2 n2 c2) ∧ Hid ((P3 w0 w' p g h b1 b2 gb p' g' L F xs ls v1 v2 much gq m j ∧ OwnRow RL 70 4 w' w0.heap.size (.slice Al nl cl) (sortedN L)) ∧ HeldAt w' A2 n2 c2 (sortedN L)) ∧ SW1 b1 p g w' := by
  have t0 := t
  obtain ⟨L0, F0, A, n0, gots, wants, ts, u1, u2, mq, t⟩ := t
  obtain ⟨inner, h1, h2⟩ := hr
  refine (ref_list t.side.rl (LRest.of t.side.rest)).mono fun e w' ⟨A2, n2, c2, he, hb, hN⟩ => ?_
  have t3 := t0.below_ hb
  exact ⟨A2, n2, c2, he, Lib.hid ⟨⟨t3, inner, row_farN h1 (Same.below (S := fun _ => False) hb) fun _ _ => id, h2⟩, HeldAt.row hN⟩, t3.sw1⟩
theorem eqs28 {Al A2 : Option Addr} {nl cl n2 c2 : Nat} (t : P3 w0 w p g h b1 b2 gb p' g' L F xs ls v1 v2 much gq m j) (hr : OwnRow RL 70 4 w w0.heap.size (.slice Al nl cl) (sortedN L)) (h2 : HeldAt w A2 n2 c2 (sortedN L)) : Calls Tryz.prog 11 #[.slice Al nl cl, .slice A2 n2 c2] w fun e w' => e = .returned (.bool true) ∧ Hid (P3 w0 w' p g h b1 b2 gb p' g' L F xs ls v1 v2 much gq m j) ∧ SW1 b1 p g w' := by
  have t0 := t
  obtain ⟨L0, F0, A, n0, gots, wants, ts, u1, u2, mq, t⟩ := t
  have hf := (LRest.of t.side.rest).few
  exact (Eq_c (by rw [sorted_len]; omega) (HeldAt.own hr) h2).mono fun e w' ⟨he, hb⟩ => ⟨he, Lib.hid (t0.below_ hb), (t0.below_ hb).sw1⟩
theorem whole28 (t : P3 w0 w p g h b1 b2 gb p' g' L F xs ls v1 v2 much gq m j) (hm : m ≤ 1000000000) : Calls Tryz.prog 15 #[.pointer (some ⟨gb, 0, none⟩)] w fun e w' => e = .returned (.bool true) ∧ Hid (P3 w0 w' p g h b1 b2 gb p' g' L F xs ls v1 v2 much gq m j) ∧ SW1 b1 p g w' := by
  have t0 := t
  obtain ⟨L0, F0, A, n0, gots, wants, ts, u1, u2, mq, t⟩ := t
  exact (whole_any t.bk (by have := t.len.1; omega) (by have := t.len.2; omega)).mono fun e w' ⟨he, hb⟩ => ⟨he, Lib.hid (t0.below_ hb), (t0.below_ hb).sw1⟩
theorem quiet28 (t : P3 w0 w p g h b1 b2 gb p' g' L F xs ls v1 v2 much gq m j) (hj : j ≤ 1000000000) : Calls Tryz.prog 17 #[.pointer (some ⟨gq, 0, none⟩)] w fun e w' => e = .returned (.bool true) ∧ Hid (Below w0.heap.size w0 w') := by
  obtain ⟨L0, F0, A, n0, gots, wants, ts, u1, u2, mq, t⟩ := t
  have hz := t.core.below.size
  exact (untouched_any t.qk (by have := t.qlen; omega) hz).mono fun e w' ⟨he, hb⟩ => ⟨he, Lib.hid (t.core.below.trans hb)⟩
end
end Go.Proofs.YtancenklmfamnaaGreat.Sh
