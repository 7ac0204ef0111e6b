/- ShelfFresh: a shelf, the document's and the hand: what stands beside them; answers that are left untouched. -/
import Derived.Test.YtancenklmfamnaaGreatShFr5
set_option linter.unusedVariables false
set_option linter.unusedSimpArgs false
namespace Go.Proofs.YtancenklmfamnaaGreat.Sh
open Go.RowKit Go.Maps Go.Sort Go.Shelf
open Go.Proofs Go.MuLone
open Go.Proofs.YtancenklmfamnaaGreatW.PrintWords (Reps OwnRow Kd ReadsRow)
open PShelfPlays (S70 S104 S115 k70 k104 k115)

def CF (p : Nat) (L : Lay) (h : Nat) (A : Option Addr) (F : Nat → Prop) (k : Nat) : Prop := Foot2 p L h A k ∨ F k
structure Core (w0 w : World) (p g : Nat) (L : Lay) (F : Nat → Prop) (h : Nat) (A : Option Addr) (n0 : Nat) : Prop where
  below : Below w0.heap.size w0 w
  at_ : At w0.heap.size w p L h A n0
  rl : RefL w0.heap.size w g F L
  off : ∀ x, F x → ¬ Foot2 p L h A x
section
variable {w0 w w' w3 w4 w5 : World} {h n0 n' p g : Nat} {A A' : Option Addr} {L L' : Lay} {F : Nat → Prop}
theorem Core.lr (t : Core w0 w p g L F h A n0) : LRest L := LRest.of t.at_.rest
theorem Core.range (t : Core w0 w p g L F h A n0) {k : Nat} (hk : CF p L h A F k) : w0.heap.size ≤ k ∧ k < w.heap.size := by
  rcases hk with (hk | rfl | hk) | hk
  · exact ⟨foot_low t.at_.rest hk, t.at_.rest.is.foot_lt hk⟩
  · exact ⟨t.at_.hand.low, at_lt t.at_.hand.blk⟩
  · exact t.at_.hand.lt2 hk
  · exact RefIs.foot t.rl k hk
theorem Core.off_ (t : Core w0 w p g L F h A n0) {P : Nat → Prop} (hs : Same P w w') (hP : ∀ k, P k → w0.heap.size ≤ k ∧ ¬ CF p L h A F k) : Core w0 w' p g L F h A n0 :=
  ⟨same_below t.below hs fun k hk => (hP k hk).1, t.at_.far3 hs fun k hk e => (hP k e).2 (.inl hk), RefIs.off t.rl hs fun k hk e => (hP k e).2 (.inr hk), t.off⟩
theorem Core.below_ (t : Core w0 w p g L F h A n0) (hb : Below w.heap.size w w') : Core w0 w' p g L F h A n0 := t.off_ (P := fun _ => False) (Same.below hb) fun _ h => h.elim
theorem Core.round (t : Core w0 w p g L F h A n0) (hat : At w0.heap.size w3 p L' h A' n') (mv : Move w w3 p L L' h A A') (hb : Below w3.heap.size w3 w4) (hr : RefTo w0.heap.size g F w4 w5 L') :
    ∃ F', Core w0 w5 p g L' F' h A' n' ∧ (∀ k, CF p L' h A' F' k → CF p L h A F k ∨ w.heap.size ≤ k) ∧ Same (CF p L h A F) w w5 ∧ Same F w3 w5 ∧ ∀ k, F' k → F k ∨ w4.heap.size ≤ k := by
  obtain ⟨F', ⟨sr, fr⟩, rl⟩ := hr
  have s3 : Same (fun x => CF p L h A F x) w w3 := mv.1.imp fun x hx => by
    rcases hx with hx | hx
    · exact .inl (.inl (.inl hx))
    · exact .inl (.inr hx)
  have sF : Same F w3 w5 := (Same.below hb).trans sr
  have s5 : Same (fun x => CF p L h A F x) w w5 := s3.trans (sF.imp fun _ => .inr)
  have sz3 := s3.2.2.2.1
  have sz4 := hb.size
  have Frng : ∀ x, F x → w0.heap.size ≤ x ∧ x < w.heap.size := fun x hx => t.range (.inr hx)
  have n2F : ∀ x, Foot2 p L' h A' x → ¬ F x := fun x hx e => by
    rcases mv.2 x hx with h1 | h1
    · exact t.off x e h1
    · have := (Frng x e).2; omega
  refine ⟨F', ⟨same_below t.below s5 fun x hx => (t.range hx).1, hat.far3 sF n2F, rl, fun x hx e => ?_⟩, fun x hx => ?_, s5, sF, fr⟩
  · rcases fr x hx with h1 | h1
    · exact n2F x e h1
    · have := hat.lt3 e; omega
  · rcases hx with hx | hx
    · rcases mv.2 x hx with h1 | h1
      · exact .inl (.inl h1)
      · exact .inr h1
    · rcases fr x hx with h1 | h1
      · exact .inl (.inr h1)
      · right; omega
theorem Core.step (t : Core w0 w p g L F h A n0) (st : Step w0.heap.size w w' p L L) (hr : Rest w0.heap.size w' p L) : Core w0 w' p g L F h A n0 ∧ Same (CF p L h A F) w w' := by
  have s : Same (CF p L h A F) w w' := st.1.imp fun k hk => .inl (.inl (.inl hk))
  refine ⟨⟨same_below t.below s fun x hx => (t.range hx).1, ⟨hr, t.at_.hand.far2 st.1 (fun e => t.at_.off.1 (.inl e)) (fun k hk e => t.at_.off.2 k hk (.inl e)), t.at_.off⟩, RefIs.off t.rl st.1 fun k hk e => t.off k hk (.inl (.inl e)), t.off⟩, s⟩
end
/-- an answer: where it lies, and what it is -/
structure An where
  a1 : Option Addr
  n1 : Nat
  c1 : Nat
  a2 : Option Addr
  n2 : Nat
  c2 : Nat
structure Tx where
  dat : List Int
  v : Int
  ls : List LM
  e : Int
def An.cells (a : An) (t : Tx) : List Value := [.slice a.a1 a.n1 a.c1, .int .i64 t.v, .slice a.a2 a.n2 a.c2, .int .i64 t.e]
def An.blk (a : An) (k : Nat) : Prop := a.a1.map (·.block) = some k ∨ a.a2.map (·.block) = some k
def ansC (az : List An) (ts : List Tx) : List Value := (List.zipWith An.cells az ts).flatten
theorem ansC_snoc {az : List An} {ts : List Tx} (h : az.length = ts.length) (a : An) (t : Tx) : ansC (az ++ [a]) (ts ++ [t]) = ansC az ts ++ a.cells t := by
  unfold ansC
  rw [List.zipWith_append h, List.flatten_append]
  simp
theorem ansC_at : ∀ {az : List An} {ts : List Tx} {i : Nat} {a : An} {t : Tx} {r : Nat}, az[i]? = some a → ts[i]? = some t → r < 4 → (ansC az ts)[i * 4 + r]? = (a.cells t)[r]?
  | a' :: az, t' :: ts, 0, a, t, r, ha, ht, hr => by
    simp at ha ht
    subst ha; subst ht
    unfold ansC
    rw [List.zipWith_cons_cons, List.flatten_cons, Nat.zero_mul, Nat.zero_add, List.getElem?_append_left (by simpa [An.cells] using hr)]
  | a' :: az, t' :: ts, i + 1, a, t, r, ha, ht, hr => by
    have := ansC_at (az := az) (ts := ts) (i := i) (by simpa using ha) (by simpa using ht) hr
    unfold ansC at *
    rw [List.zipWith_cons_cons, List.flatten_cons, List.getElem?_append_right (by simp [An.cells]; omega), ← this]
    congr 1
    simp [An.cells]
    omega
/-- an answer of one's own -/
def OwnAn (B : Nat) (w : World) (a : An) (t : Tx) : Prop := a.n1 = t.dat.length ∧ w.ownsRow B 5 1 (.slice a.a1 a.n1 a.c1) a.n1 (t.dat.map encB) ∧ OwnRow RL 70 4 w B (.slice a.a2 a.n2 a.c2) t.ls ∧ t.dat.length ≤ 2000000000000 ∧ t.ls.length ≤ 256
structure QK (B : Nat) (w : World) (gq : Nat) (gots wants : List An) (ts : List Tx) (v1 v2 : Value) (much : Int) : Prop where
  low : B ≤ gq
  blk : w.heap[gq]? = some (.cells #[v1, v2, .int .i64 much] 60 (0, 0))
  l1 : gots.length = ts.length
  l2 : wants.length = ts.length
  o1 : w.ownsRow B 43 4 v1 gots.length (ansC gots ts)
  o2 : w.ownsRow B 43 4 v2 wants.length (ansC wants ts)
  apart : ∀ k, v1.ownBlock = some k → v2.ownBlock ≠ some k
  g1 : ∀ (i : Nat) (a : An) (t : Tx), gots[i]? = some a → ts[i]? = some t → OwnAn B w a t
  g2 : ∀ (i : Nat) (a : An) (t : Tx), wants[i]? = some a → ts[i]? = some t → OwnAn B w a t
  dist : ∀ (i j : Nat) (a b : An), gots[i]? = some a → gots[j]? = some b → i ≠ j → ∀ k, a.blk k → ¬ b.blk k
def QF (gq : Nat) (gots wants : List An) (v1 v2 : Value) (k : Nat) : Prop := k = gq ∨ v1.ownBlock = some k ∨ v2.ownBlock = some k ∨ (∃ a ∈ gots, a.blk k) ∨ ∃ a ∈ wants, a.blk k
theorem OwnAn.typed {B : Nat} {w : World} {a : An} {t : Tx} (h : OwnAn B w a t) {k : Nat} (hk : a.blk k) : B ≤ k ∧ ∃ c ty, w.heap[k]? = some (.cells c ty (0, 0)) ∧ (ty = 5 ∨ ty = 70) := by
  rcases hk with hk | hk
  · obtain ⟨h1, c, h2⟩ := row_tyN h.2.1 (j := k) (by rw [block_map]; exact hk)
    exact ⟨h1, c, 5, h2, .inl rfl⟩
  · obtain ⟨inner, h3, _⟩ := h.2.2.1
    obtain ⟨h1, c, h2⟩ := row_tyN h3 (j := k) (by rw [block_map]; exact hk)
    exact ⟨h1, c, 70, h2, .inr rfl⟩
theorem OwnAn.far {B : Nat} {w w' : World} {a : An} {t : Tx} {S : Nat → Prop} (h : OwnAn B w a t) (hs : Same S w w') (hS : ∀ k, a.blk k → ¬ S k) : OwnAn B w' a t := by
  obtain ⟨inner, h3, h4⟩ := h.2.2.1
  exact ⟨h.1, row_farN h.2.1 hs fun k hk => hS k (.inl (by rw [← block_map]; exact hk)), ⟨inner, row_farN h3 hs fun k hk => hS k (.inr (by rw [← block_map]; exact hk)), h4⟩, h.2.2.2⟩
theorem OwnAn.reads {B : Nat} {w : World} {a : An} {t : Tx} (h : OwnAn B w a t) : BytesAt w a.a1 a.n1 a.c1 t.dat ∧ HeldAt w a.a2 a.n2 a.c2 t.ls := by
  refine ⟨bytes_C ?_ (by have := h.2.2.2.1; omega), HeldAt.own h.2.2.1⟩
  have h1 := h.2.1
  rw [h.1] at h1 ⊢
  exact (RdB.of_row h1).toA
section
variable {B gq : Nat} {w w' : World} {gots wants : List An} {ts : List Tx} {v1 v2 : Value} {much : Int}
theorem QK.ga (q : QK B w gq gots wants ts v1 v2 much) {a : An} (ha : a ∈ gots) : ∃ t, OwnAn B w a t := by
  obtain ⟨i, hi⟩ := List.getElem?_of_mem ha
  have hl := (List.getElem?_eq_some_iff.1 hi).1
  have := q.l1
  exact ⟨ts[i]'(by omega), q.g1 i a _ hi (List.getElem?_eq_getElem (by omega))⟩
theorem QK.gw (q : QK B w gq gots wants ts v1 v2 much) {a : An} (ha : a ∈ wants) : ∃ t, OwnAn B w a t := by
  obtain ⟨i, hi⟩ := List.getElem?_of_mem ha
  have hl := (List.getElem?_eq_some_iff.1 hi).1
  have := q.l2
  exact ⟨ts[i]'(by omega), q.g2 i a _ hi (List.getElem?_eq_getElem (by omega))⟩
theorem QK.range (q : QK B w gq gots wants ts v1 v2 much) {k : Nat} (hk : QF gq gots wants v1 v2 k) : B ≤ k ∧ k < w.heap.size := by
  rcases hk with rfl | hk | hk | ⟨a, ha, hk⟩ | ⟨a, ha, hk⟩
  · exact ⟨q.low, at_lt q.blk⟩
  · obtain ⟨h1, c, h2⟩ := row_tyN q.o1 hk; exact ⟨h1, at_lt h2⟩
  · obtain ⟨h1, c, h2⟩ := row_tyN q.o2 hk; exact ⟨h1, at_lt h2⟩
  · obtain ⟨t, h⟩ := q.ga ha
    obtain ⟨h1, c, ty, h2, _⟩ := h.typed hk; exact ⟨h1, at_lt h2⟩
  · obtain ⟨t, h⟩ := q.gw ha
    obtain ⟨h1, c, ty, h2, _⟩ := h.typed hk; exact ⟨h1, at_lt h2⟩
theorem QK.off (q : QK B w gq gots wants ts v1 v2 much) {S : Nat → Prop} (hs : Same S w w') (hS : ∀ k, QF gq gots wants v1 v2 k → ¬ S k) : QK B w' gq gots wants ts v1 v2 much :=
  ⟨q.low, hs.at q.blk (hS gq (.inl rfl)), q.l1, q.l2, row_farN q.o1 hs fun k hk => hS k (.inr (.inl hk)), row_farN q.o2 hs fun k hk => hS k (.inr (.inr (.inl hk))), q.apart,
    fun i a t ha ht => (q.g1 i a t ha ht).far hs fun k hk => hS k (.inr (.inr (.inr (.inl ⟨a, List.mem_of_getElem? ha, hk⟩)))),
    fun i a t ha ht => (q.g2 i a t ha ht).far hs fun k hk => hS k (.inr (.inr (.inr (.inr ⟨a, List.mem_of_getElem? ha, hk⟩)))), q.dist⟩
theorem QK.below_ (q : QK B w gq gots wants ts v1 v2 much) (hb : Below w.heap.size w w') : QK B w' gq gots wants ts v1 v2 much := q.off (S := fun _ => False) (Same.below hb) fun _ _ => id
end
end Go.Proofs.YtancenklmfamnaaGreat.Sh
