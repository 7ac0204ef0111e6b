/- The document's Quote and shell's, over numbers and lists. -/
import Derived.Test.YtfdioplenkcahaaPShellWordsx
namespace Go.Proofs.Ytfdioplenkcahaa.Pure
open Go.RowKit Go.Proofs.Ytfdioplenkcahaa.PShellWords Go.Proofs.YtfdioplenkcahaaW.PrintWords Go.Proofs.YtfdioplenkcahaaW.PrintLast Hand

def toI (l : List UInt8) : List Int := l.map fun b => (b.toNat : Int)
theorem strOf_toI (l : List UInt8) : strOfNums (toI l) = ⟨l.toArray⟩ := by
  unfold strOfNums toI
  congr 2
  rw [List.map_map]
  conv => rhs; rw [← List.map_id l]
  apply List.map_congr_left
  intro b _
  simp
theorem Ev.pos {α : Type} {c : Prop} [Decidable c] {g f : Nat → Option α} {r : α} (hc : c) (h : Ev g r) : Ev (fun k => if c then g k else f k) r := by
  simp only [if_pos hc]
  exact h
theorem Ev.neg {α : Type} {c : Prop} [Decidable c] {g f : Nat → Option α} {r : α} (hc : ¬ c) (h : Ev f r) : Ev (fun k => if c then g k else f k) r := by
  simp only [if_neg hc]
  exact h
theorem toI_append (a b : List UInt8) : toI (a ++ b) = toI a ++ toI b := by simp [toI]
theorem toI_length (a : List UInt8) : (toI a).length = a.length := by simp [toI]
theorem u8_int (c : Int) (h0 : 0 ≤ c) (h1 : c ≤ 255) : ((u8 c).toNat : Int) = c := by
  unfold u8
  simp
  omega
theorem w64 {i : Nat} (j : Nat) (h : i ≤ 1099511627776) (hj : j ≤ 1099511627776) : wrap64 ((i : Int) + (j : Int)) = ((i + j : Nat) : Int) := by
  unfold wrap64
  omega
theorem w64_1 {i : Nat} (h : i ≤ 1099511627776) : wrap64 ((i : Int) + 1) = ((i + 1 : Nat) : Int) := w64 1 h (by decide)
theorem w64_2 {i : Nat} (h : i ≤ 1099511627776) : wrap64 ((i : Int) + 2) = ((i + 2 : Nat) : Int) := w64 2 h (by decide)

theorem tdiv16 (c : Int) (h0 : 0 ≤ c) (h1 : c ≤ 255) : (Int.tdiv c 16) % 256 = c / 16 := by
  rw [Int.tdiv_eq_ediv_of_nonneg h0]
  omega
theorem tmod16 (c : Int) (h0 : 0 ≤ c) : Int.tmod c 16 = c % 16 := Int.tmod_eq_emod_of_nonneg h0

/-- the document's loop, one byte -/
theorem refQ_j2 (s : ByteArray) (b : Bool) (acc : List UInt8) (i : Nat) (r : ByteArray) (hi : i < s.size) (hs : s.size ≤ 1048576) (hl : acc.length ≤ 1 + 4 * i)
    (h : Ev (fun k => heddleref31_Quote.l0 k s b (toI (acc ++ qb (bt s i))) digs ((i + 1 : Nat) : Int)) r) :
    Ev (fun k => heddleref31_Quote.j2 k s b (toI acc) digs i (bt s i)) r := by
  have hc := bt_range s i
  generalize bt s i = c at *
  have w := w64_1 (i := i) (by omega)
  have d0 : (digs.size : Int) = 16 := rfl
  have e1 := tdiv16 c hc.1 hc.2
  have e2 := tmod16 c hc.1
  rw [toI_append] at h
  have hln := toI_length acc
  by_cases hq : c = 34 ∨ c = 92
  · have hv : toI (qb c) = [92, c] := by simp only [qb, if_pos hq]; simp [toI, u8_int c hc.1 hc.2]
    rw [hv] at h
    refine Ev.step (fun k => by rw [heddleref31_Quote.j2]) ?_
    have key : Ev (fun k => heddleref31_Quote.j3 k s b (toI acc) digs i c true) r := by
      refine Ev.step (fun k => by rw [heddleref31_Quote.j3]) ?_
      simp only [if_true, Option.bind_some, List.length_cons, List.length_nil, w]
      refine Ev.pos (by omega) ?_
      exact h
    by_cases h34 : c = 34
    · simp only [if_pos h34]; exact key
    · simp only [if_neg h34, show (c == 92) = true from beq_iff_eq.mpr (by omega)]; exact key
  · have h34 : ¬ c = 34 := fun e => hq (.inl e)
    refine Ev.step (fun k => by rw [heddleref31_Quote.j2]) ?_
    simp only [if_neg h34, show (c == 92) = false from beq_eq_false_iff_ne.mpr (fun e => hq (.inr e))]
    refine Ev.step (fun k => by rw [heddleref31_Quote.j3]) ?_
    simp only [Bool.false_eq_true, if_false]
    by_cases h10 : c = 10
    · have hv : toI (qb c) = [92, 110] := by simp only [qb, if_neg hq, if_pos h10]; rfl
      rw [hv] at h
      simp only [if_pos h10, Option.bind_some, List.length_cons, List.length_nil, w]
      refine Ev.pos (by omega) ?_
      exact h
    · by_cases h9 : c = 9
      · have hv : toI (qb c) = [92, 116] := by simp only [qb, if_neg hq, if_neg h10, if_pos h9]; rfl
        rw [hv] at h
        simp only [if_neg h10, if_pos h9, Option.bind_some, List.length_cons, List.length_nil, w]
        refine Ev.pos (by omega) ?_
        exact h
      · by_cases hx : c < 32 ∨ 126 < c
        · have hv : toI (qb c) = [92, 120, bt digs (c / 16), bt digs (c % 16)] := by
            have r1 := bt_range digs (c / 16)
            have r2 := bt_range digs (c % 16)
            simp only [qb, if_neg hq, if_neg h10, if_neg h9, if_pos hx]
            simp [toI, u8_int _ r1.1 r1.2, u8_int _ r2.1 r2.2]
          rw [hv] at h
          by_cases h32 : c < 32
          · simp only [if_neg h10, if_neg h9, if_pos h32, e1, e2, d0, Option.bind_some, List.length_cons, List.length_nil, w]
            refine Ev.pos (by omega) ?_
            refine Ev.pos (by omega) ?_
            refine Ev.pos (by omega) ?_
            refine Ev.pos (by omega) ?_
            refine Ev.pos (by omega) ?_
            exact h
          · have h126 : c > 126 := by omega
            simp only [if_neg h10, if_neg h9, if_neg h32, if_pos h126, e1, e2, d0, Option.bind_some, List.length_cons, List.length_nil, w]
            refine Ev.pos (by omega) ?_
            refine Ev.pos (by omega) ?_
            refine Ev.pos (by omega) ?_
            refine Ev.pos (by omega) ?_
            refine Ev.pos (by omega) ?_
            exact h
        · have h32 : ¬ c < 32 := fun e => hx (.inl e)
          have h126 : ¬ c > 126 := fun e => hx (.inr e)
          have hv : toI (qb c) = [c] := by simp only [qb, if_neg hq, if_neg h10, if_neg h9, if_neg hx]; simp [toI, u8_int c hc.1 hc.2]
          rw [hv] at h
          simp only [if_neg h10, if_neg h9, if_neg h32, if_neg h126, w]
          refine Ev.pos (by omega) ?_
          exact h

theorem refQ_l0 (s : ByteArray) (b : Bool) (hs : s.size ≤ 1048576) (d : Nat) : ∀ i, s.size - i = d → i ≤ s.size →
    Ev (fun k => heddleref31_Quote.l0 k s (bareTo s b i) (toI (qTo s i)) digs i) (if bareTo s b s.size = true then s else ⟨(qTo s s.size ++ [34]).toArray⟩) := by
  induction d with
  | zero =>
    intro i hd hi
    obtain rfl : i = s.size := by omega
    have hl := qTo_len s s.size
    have hln := toI_length (qTo s s.size)
    refine Ev.step (fun k => by rw [heddleref31_Quote.l0]) ?_
    refine Ev.neg (by omega) ?_
    by_cases hb : bareTo s b s.size = true
    · simp only [if_pos hb]
      exact Ev.now _
    · simp only [if_neg hb]
      refine Ev.pos (by omega) ?_
      have : toI (qTo s s.size) ++ [34] = toI (qTo s s.size ++ [34]) := by rw [toI_append]; rfl
      rw [this, strOf_toI]
      exact Ev.now _
  | succ d ih =>
    intro i hd hi
    have hlt : i < s.size := by omega
    have hl := qTo_len s i
    have hnext := refQ_j2 s (bareTo s b (i + 1)) (qTo s i) i _ hlt hs hl (ih (i + 1) (by omega) (by omega))
    have e : bareTo s b (i + 1) = (bareTo s b i && okc (bt s i)) := rfl
    rw [e] at hnext
    refine Ev.step (fun k => by rw [heddleref31_Quote.l0]) ?_
    refine Ev.pos (by omega) ?_
    refine Ev.pos (by omega) ?_
    cases hB : bareTo s b i
    · rw [hB] at hnext
      simpa using hnext
    · rw [hB] at hnext
      simp only [if_true]
      by_cases h33 : bt s i ≥ 33
      · by_cases h126 : bt s i ≤ 126
        · simp only [if_pos h33, if_pos h126]
          have : okc (bt s i) = (bt s i != 34) := by
            have h33' : 33 ≤ bt s i := h33
            simp [okc, h33', h126, bne]
            rfl
          rw [this] at hnext
          simpa using hnext
        · have : okc (bt s i) = false := by simp [okc, h126]
          rw [this] at hnext
          simp only [if_pos h33, if_neg h126]
          simpa using hnext
      · have : okc (bt s i) = false := by
          have h33' : ¬ 33 ≤ bt s i := h33
          simp [okc, h33']
        rw [this] at hnext
        simp only [if_neg h33]
        simpa using hnext

theorem refQuote (s : ByteArray) (hs : s.size ≤ 1048576) : Ev (fun k => heddleref31_Quote.f k s) (quoteB s) := by
  have key : Ev (fun k => heddleref31_Quote.j0 k s (bare0 s)) (quoteB s) := by
    refine Ev.step (fun k => by rw [heddleref31_Quote.j0]) ?_
    exact refQ_l0 s (bare0 s) hs s.size 0 (by omega) (by omega)
  unfold heddleref31_Quote.f
  by_cases h0 : s.size = 0
  · have hb : bare0 s = false := by simp [bare0, h0]
    rw [hb] at key
    refine Ev.neg (by omega) ?_
    exact key
  · have hb : bare0 s = (bt s 0 != 35) := by simp [bare0, h0, bne]; rfl
    rw [hb] at key
    refine Ev.pos (by omega) ?_
    refine Ev.pos (by omega) ?_
    exact key
end Go.Proofs.Ytfdioplenkcahaa.Pure
