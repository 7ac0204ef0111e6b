/- ShellBack over numbers and lists: quoted words are read back. -/
import Derived.Test.YtfdioplenkcahaaPShellBackx
import Derived.Lib.Strings
namespace Go.Proofs.Ytfdioplenkcahaa.PureBack
open Go.RowKit Go.Proofs.Ytfdioplenkcahaa.PShellBack Go.Proofs.YtfdioplenkcahaaW.PrintWords Go.Proofs.YtfdioplenkcahaaW.PrintLast Hand

def toI (l : List UInt8) : List Int := l.map fun b => (b.toNat : Int)
theorem strOf_toI (l : List UInt8) : strOfNums (toI l) = ⟨l.toArray⟩ := by
  unfold strOfNums toI
  congr 2
  rw [List.map_map]
  conv => rhs; rw [← List.map_id l]
  apply List.map_congr_left
  intro b _
  simp
theorem Ev.pos {α : Type} {c : Prop} [Decidable c] {g f : Nat → Option α} {r : α} (hc : c) (h : Ev g r) : Ev (fun k => if c then g k else f k) r := by
  simp only [if_pos hc]
  exact h
theorem Ev.neg {α : Type} {c : Prop} [Decidable c] {g f : Nat → Option α} {r : α} (hc : ¬ c) (h : Ev f r) : Ev (fun k => if c then g k else f k) r := by
  simp only [if_neg hc]
  exact h
theorem toI_append (a b : List UInt8) : toI (a ++ b) = toI a ++ toI b := by simp [toI]
theorem toI_length (a : List UInt8) : (toI a).length = a.length := by simp [toI]
theorem u8_int (c : Int) (h0 : 0 ≤ c) (h1 : c ≤ 255) : ((u8 c).toNat : Int) = c := by
  unfold u8
  simp
  omega
theorem w64 {i : Nat} (j : Nat) (h : i ≤ 1099511627776) (hj : j ≤ 1099511627776) : wrap64 ((i : Int) + (j : Int)) = ((i + j : Nat) : Int) := by
  unfold wrap64
  omega
theorem w64_1 {i : Nat} (h : i ≤ 1099511627776) : wrap64 ((i : Int) + 1) = ((i + 1 : Nat) : Int) := w64 1 h (by decide)
theorem w64_2 {i : Nat} (h : i ≤ 1099511627776) : wrap64 ((i : Int) + 2) = ((i + 2 : Nat) : Int) := w64 2 h (by decide)

theorem bt_extract (s : ByteArray) (a : Nat) (j : Nat) (h : a + j < s.size) : bt (s.extract a s.size) (j : Nat) = bt s ((a + j : Nat) : Int) := by
  unfold bt
  have h1 : ((j : Nat) : Int).toNat < (s.extract a s.size).size := by simp; omega
  have h2 : (((a + j : Nat) : Int)).toNat < s.size := by simp; omega
  rw [dif_pos h1, dif_pos h2]
  simp only [Int.toNat_natCast]
  simp [ByteArray.getElem_extract]

theorem index_mem (l : List UInt8) (c : UInt8) : 0 ≤ Lib.indexByte l c ↔ c ∈ l := by
  have low : ∀ l : List UInt8, -1 ≤ Lib.indexByte l c := by
    intro l
    induction l with
    | nil => simp [Lib.indexByte]
    | cons b l ih => simp only [Lib.indexByte]; split <;> (try split) <;> omega
  induction l with
  | nil => simp [Lib.indexByte]
  | cons b l ih =>
    have hl := low l
    simp only [Lib.indexByte]
    by_cases hb : b = c
    · simp [hb]
    · have : (b == c) = false := by simp [hb]
      simp only [this, Bool.false_eq_true, if_false]
      by_cases h1 : Lib.indexByte l c = -1
      · have h2 : ¬ c ∈ l := fun h => by have := ih.2 h; omega
        simp [h1, h2]
        exact fun e => hb e.symm
      · have h2 : c ∈ l := ih.1 (by omega)
        have h3 : (Lib.indexByte l c == -1) = false := by simp [h1]
        simp only [h3, Bool.false_eq_true, if_false, List.mem_cons, h2, or_true, iff_true]
        omega

theorem bt_list (s : ByteArray) (j : Nat) (h : j < s.size) : bt s j = ((s.data.toList[j]'(by simpa using h)).toNat : Int) := by
  unfold bt
  rw [dif_pos (by simpa using h)]
  simp
  rfl

theorem texts_refl (l : List ByteArray) (hl : l.length ≤ 1099511627776) : Ev (fun k => heddlelaw31_texts.f k l l) true := by
  have key : ∀ d i, l.length - i = d → i ≤ l.length → Ev (fun k => heddlelaw31_texts.l0 k l l (i : Int)) true := by
    intro d
    induction d with
    | zero =>
      intro i hd hi
      refine Ev.step (fun k => by rw [heddlelaw31_texts.l0]) ?_
      refine Ev.neg (by omega) ?_
      exact Ev.now _
    | succ d ih =>
      intro i hd hi
      refine Ev.step (fun k => by rw [heddlelaw31_texts.l0]) ?_
      refine Ev.pos (by omega) ?_
      refine Ev.pos (by omega) ?_
      refine Ev.pos (by omega) ?_
      refine Ev.pos rfl ?_
      rw [w64_1 (i := i) (by omega)]
      exact ih (i + 1) (by omega) (by omega)
  unfold heddlelaw31_texts.f
  refine Ev.pos rfl ?_
  exact key _ 0 rfl (Nat.zero_le _)

theorem worded : Ev (fun k => heddlelaw31_worded.f k) true := by
  have h : heddlelaw31_worded.f 60 = some true := by decide +kernel
  exact Ev.of heddlelaw31_worded.mono h

theorem sum_mem (l : List ByteArray) (i : Nat) (hi : i < l.length) : (l[i]'hi).size + 1 ≤ (l.map fun s => s.size + 1).sum := by
  induction l generalizing i with
  | nil => simp at hi
  | cons a l ih =>
    cases i with
    | zero => simp
    | succ i =>
      have := ih i (by simpa using hi)
      simp at this ⊢
      omega
theorem len_sum (l : List ByteArray) : l.length ≤ (l.map fun s => s.size + 1).sum := by
  induction l with
  | nil => simp
  | cons a l ih => simp at ih ⊢; omega


theorem bytes_eta' (s : ByteArray) : (⟨s.data.toList.toArray⟩ : ByteArray) = s := by cases s; simp
/-- the bytes X stand in s from i on -/
def At (s : ByteArray) (i : Nat) (X : List UInt8) : Prop := i + X.length ≤ s.size ∧ ∀ j (h : j < X.length), bt s ((i + j : Nat) : Int) = ((X[j]'h).toNat : Int)
theorem At.left {s : ByteArray} {i : Nat} {X Y : List UInt8} (h : At s i (X ++ Y)) : At s i X := by
  obtain ⟨h1, h2⟩ := h
  simp only [List.length_append] at h1
  refine ⟨by omega, fun j hj => ?_⟩
  rw [h2 j (by simp; omega), List.getElem_append_left hj]
theorem At.right {s : ByteArray} {i : Nat} {X Y : List UInt8} (h : At s i (X ++ Y)) : At s (i + X.length) Y := by
  obtain ⟨h1, h2⟩ := h
  simp only [List.length_append] at h1
  refine ⟨by omega, fun j hj => ?_⟩
  have := h2 (X.length + j) (by simp; omega)
  rw [show i + X.length + j = i + (X.length + j) by omega, this, List.getElem_append_right (by omega)]
  congr 2
  simp
theorem At.head {s : ByteArray} {i : Nat} {x : UInt8} {Y : List UInt8} (h : At s i (x :: Y)) : bt s i = (x.toNat : Int) ∧ i < s.size := by
  obtain ⟨h1, h2⟩ := h
  simp only [List.length_cons] at h1
  exact ⟨h2 0 (by simp), by omega⟩
theorem At.tail {s : ByteArray} {i : Nat} {x : UInt8} {Y : List UInt8} (h : At s i (x :: Y)) : At s (i + 1) Y := by
  have : At s i ([x] ++ Y) := h
  simpa using this.right
theorem At.whole (s : ByteArray) : At s 0 s.data.toList := by
  refine ⟨by rw [data_length]; omega, fun j hj => ?_⟩
  have hj' : j < s.size := by simpa using hj
  simpa using bt_list s j hj'
theorem At.ext {s : ByteArray} {i : Nat} {X : List UInt8} (h : At s i X) : s.extract i (i + X.length) = ⟨X.toArray⟩ := by
  obtain ⟨h1, h2⟩ := h
  have hd : (s.extract i (i + X.length)).data.toList = X := by
    rw [Lib.extract_data]
    have hlen : s.data.toList.length = s.size := data_length s
    apply List.ext_getElem
    · simp only [List.length_take, List.length_drop, hlen]
      omega
    · intro n a b
      have e := h2 n b
      rw [bt_list s (i + n) (by omega)] at e
      rw [List.getElem_take, List.getElem_drop]
      apply UInt8.toNat_inj.1
      exact Int.ofNat_inj.1 e
  rw [← bytes_eta' (s.extract i (i + X.length)), hd]

def body (l : List UInt8) : List UInt8 := l.flatMap fun b => qb (b.toNat : Int)
theorem body_cons (b : UInt8) (l : List UInt8) : body (b :: l) = qb (b.toNat : Int) ++ body l := rfl
theorem u8_nat (b : UInt8) : u8 (b.toNat : Int) = b := by simp [u8]
theorem ix_digs (c : Int) (h0 : 0 ≤ c) (h1 : c < 16) : ix (bt digs c) = c := by
  have h : ∀ a : Fin 16, ix (bt digs (a.val : Int)) = (a.val : Int) := by decide +kernel
  have := h ⟨c.toNat, by omega⟩
  rwa [show ((⟨c.toNat, by omega⟩ : Fin 16).val : Int) = c by simp; omega] at this

/-- one written byte is read back -/
theorem quo_one (s : ByteArray) (n i : Nat) (acc : List UInt8) (b : UInt8) (h : At s i (qb (b.toNat : Int))) :
    quo s (n + 1) i acc = quo s n (i + (qb (b.toNat : Int)).length) (acc ++ [b]) := by
  have hb : b.toNat < 256 := b.toNat_lt
  have hu := u8_nat b
  generalize hc : ((b.toNat : Nat) : Int) = c at *
  have two : ∀ x : UInt8, At s i [92, x] → ∀ y : Int, u8 y = b → esc (s.extract (i + 1) s.size) = (y, 1) → quo s (n + 1) i acc = quo s n (i + 2) (acc ++ [b]) := by
    intro x hx y hy he
    have h0 := hx.head
    have e92 : bt s i = 92 := h0.1
    simp [quo, h0.2, e92, he]
    rw [show UInt8.ofNat y.toNat = b from hy]
  by_cases hq : c = 34 ∨ c = 92
  · have hv : qb c = [92, b] := by simp only [qb, if_pos hq, hu]
    rw [hv] at h ⊢
    refine two b h c hu ?_
    have h1 := h.tail.head
    have x0 : bt (s.extract (i + 1) s.size) 0 = bt s ((i + 1 : Nat) : Int) := bt_extract s (i + 1) 0 (by omega)
    have hz : (s.extract (i + 1) s.size).size = s.size - (i + 1) := by simp
    unfold esc
    rw [if_neg (by omega), x0, h1.1, hc, if_pos hq]
  · by_cases h10 : c = 10
    · have hv : qb c = [92, 110] := by simp only [qb, if_neg hq, if_pos h10]
      rw [hv] at h ⊢
      refine two 110 h 10 (by rw [← hu, h10]) ?_
      have h1 := h.tail.head
      have x0 : bt (s.extract (i + 1) s.size) 0 = bt s ((i + 1 : Nat) : Int) := bt_extract s (i + 1) 0 (by omega)
      have hz : (s.extract (i + 1) s.size).size = s.size - (i + 1) := by simp
      have e : bt s ((i + 1 : Nat) : Int) = 110 := h1.1
      unfold esc
      rw [if_neg (by omega), x0, e]
      rfl
    · by_cases h9 : c = 9
      · have hv : qb c = [92, 116] := by simp only [qb, if_neg hq, if_neg h10, if_pos h9]
        rw [hv] at h ⊢
        refine two 116 h 9 (by rw [← hu, h9]) ?_
        have h1 := h.tail.head
        have x0 : bt (s.extract (i + 1) s.size) 0 = bt s ((i + 1 : Nat) : Int) := bt_extract s (i + 1) 0 (by omega)
        have hz : (s.extract (i + 1) s.size).size = s.size - (i + 1) := by simp
        have e : bt s ((i + 1 : Nat) : Int) = 116 := h1.1
        unfold esc
        rw [if_neg (by omega), x0, e]
        rfl
      · by_cases hx : c < 32 ∨ 126 < c
        · have hv : qb c = [92, 120, u8 (bt digs (c / 16)), u8 (bt digs (c % 16))] := by simp only [qb, if_neg hq, if_neg h10, if_neg h9, if_pos hx]
          rw [hv] at h ⊢
          have h0 := h.head
          have h1 := h.tail.head
          have h2 := h.tail.tail.head
          have h3 := h.tail.tail.tail.head
          have r1 := bt_range digs (c / 16)
          have r2 := bt_range digs (c % 16)
          rw [u8_int _ r1.1 r1.2] at h2
          rw [u8_int _ r2.1 r2.2] at h3
          have x0 : bt (s.extract (i + 1) s.size) 0 = bt s ((i + 1 : Nat) : Int) := bt_extract s (i + 1) 0 (by omega)
          have x1 : bt (s.extract (i + 1) s.size) 1 = bt s ((i + 1 + 1 : Nat) : Int) := bt_extract s (i + 1) 1 (by omega)
          have x2 : bt (s.extract (i + 1) s.size) 2 = bt s ((i + 1 + 1 + 1 : Nat) : Int) := bt_extract s (i + 1) 2 (by omega)
          have hz : (s.extract (i + 1) s.size).size = s.size - (i + 1) := by simp
          have e0 : bt s i = 92 := h0.1
          have e1 : bt s ((i + 1 : Nat) : Int) = 120 := h1.1
          have he : esc (s.extract (i + 1) s.size) = (c, 3) := by
            unfold esc
            rw [if_neg (by omega), x0, x1, x2, e1, h2.1, h3.1, ix_digs _ (by omega) (by omega), ix_digs _ (by omega) (by omega), if_neg (by omega), if_neg (by omega), if_neg (by omega), if_pos (by omega)]
            congr 1
            omega
          simp [quo, h0.2, e0, he]
          rw [show UInt8.ofNat c.toNat = b from hu]
        · have hv : qb c = [b] := by simp only [qb, if_neg hq, if_neg h10, if_neg h9, if_neg hx, hu]
          rw [hv] at h ⊢
          have h0 := h.head
          have e : bt s i = c := by rw [h0.1, hc]
          have n34 : ¬ c = 34 := fun e => hq (.inl e)
          have n92 : ¬ c = 92 := fun e => hq (.inr e)
          simp [quo, h0.2, e, n34, n92]
          rw [show UInt8.ofNat c.toNat = b from hu]

theorem qb_pos (c : Int) : 1 ≤ (qb c).length := by
  unfold qb
  split
  · simp
  · split
    · simp
    · split
      · simp
      · split <;> simp

theorem quo_body (s : ByteArray) (l : List UInt8) : ∀ (n i : Nat) (acc : List UInt8), s.size < i + n → At s i (body l ++ [34]) →
    quo s n i acc = (⟨(acc ++ l).toArray⟩, ((i + (body l).length + 1 : Nat) : Int), decide (i + (body l).length + 1 = s.size ∨ bt s ((i + (body l).length + 1 : Nat) : Int) = 32)) := by
  induction l with
  | nil =>
    intro n i acc hn h
    have h0 := h.head
    obtain ⟨n, rfl⟩ : ∃ m, n = m + 1 := ⟨n - 1, by omega⟩
    have e : bt s i = 34 := h0.1
    simp [quo, h0.2, e, body]
  | cons b l ih =>
    intro n i acc hn h
    rw [body_cons, List.append_assoc] at h
    have hp := qb_pos (b.toNat : Int)
    have hle := h.1
    simp only [List.length_append, List.length_cons, List.length_nil] at hle
    obtain ⟨n, rfl⟩ : ∃ m, n = m + 1 := ⟨n - 1, by omega⟩
    rw [quo_one s n i acc b h.left, ih n _ _ (by omega) h.right]
    simp only [body_cons, List.length_append, List.append_assoc, List.singleton_append, Nat.add_assoc]

theorem qTo_eq (s : ByteArray) (n : Nat) (h : n ≤ s.size) : qTo s n = 34 :: body (s.data.toList.take n) := by
  induction n with
  | zero => rfl
  | succ n ih =>
    have hlt : n < s.data.toList.length := by rw [data_length]; exact h
    rw [qTo, ih (by omega), List.take_succ_eq_append_getElem hlt, bt_list s n h]
    simp [body]

theorem bareTo_all (s : ByteArray) (b : Bool) (n : Nat) (h : bareTo s b n = true) : b = true ∧ ∀ j, j < n → okc (bt s j) = true := by
  induction n with
  | zero => exact ⟨h, fun j hj => by omega⟩
  | succ n ih =>
    simp only [bareTo, Bool.and_eq_true] at h
    obtain ⟨h1, h2⟩ := ih h.1
    refine ⟨h1, fun j hj => ?_⟩
    by_cases e : j = n
    · rw [e]; exact h.2
    · exact h2 j (by omega)
theorem okc_iff (c : Int) : okc c = true ↔ 33 ≤ c ∧ c ≤ 126 ∧ ¬ c = 34 := by simp [okc]

/-- a quoted word at i is read -/
theorem parse_one (s : ByteArray) (hs : s.size ≤ 65536) (w : ByteArray) (i : Nat) (acc : List ByteArray) (hl : acc.length ≤ i) (h : At s i (quoteB w).data.toList)
    (he : i + (quoteB w).size = s.size ∨ bt s ((i + (quoteB w).size : Nat) : Int) = 32) (R : List ByteArray × Int)
    (hR : Ev (fun k => shell_Words.l0 k s (acc ++ [w]) ((i + (quoteB w).size : Nat) : Int)) R) : Ev (fun k => shell_Words.l0 k s acc i) R := by
  have hqs : (quoteB w).data.toList.length = (quoteB w).size := data_length _
  have hle := h.1
  rw [hqs] at hle
  by_cases hb : isBare w = true
  · have hq : quoteB w = w := if_pos hb
    rw [hq] at h he hR hle
    obtain ⟨b0, hall⟩ := bareTo_all w (bare0 w) w.size hb
    have hw0 : 0 < w.size := by
      simp only [bare0, Bool.and_eq_true] at b0
      have := of_decide_eq_true b0.1
      omega
    have each : ∀ j, j < w.size → 33 ≤ bt s ((i + j : Nat) : Int) ∧ ¬ bt s ((i + j : Nat) : Int) = 34 := by
      intro j hj
      have e := h.2 j (by simpa using hj)
      have e2 := bt_list w j hj
      have := (okc_iff _).1 (hall j hj)
      rw [e, ← e2]
      exact ⟨this.1, this.2.2⟩
    have f0 := each 0 hw0
    simp only [Nat.add_zero] at f0
    refine Ev.step (fun k => by rw [shell_Words.l0]) ?_
    refine Ev.pos (by omega) ?_
    refine Ev.pos (by omega) ?_
    refine Ev.neg (by omega) ?_
    refine Ev.neg f0.2 ?_
    have scan : ∀ d j, w.size - j = d → j ≤ w.size → Ev (fun k => shell_Words.l1 k s acc i ((i + j : Nat) : Int)) R := by
      intro d
      induction d with
      | zero =>
        intro j hd hj
        obtain rfl : j = w.size := by omega
        have hx : s.extract i (i + w.size) = w := by
          have := h.ext
          rw [data_length] at this
          rw [this, bytes_eta' w]
        have fin : Ev (fun k => shell_Words.j2 k s acc i ((i + w.size : Nat) : Int) false) R := by
          refine Ev.step (fun k => by rw [shell_Words.j2]) ?_
          refine Ev.neg (by decide) ?_
          refine Ev.pos (by omega) ?_
          refine Ev.pos (by omega) ?_
          refine Ev.pos (by omega) ?_
          refine Ev.pos (by omega) ?_
          rw [show ((i : Nat) : Int).toNat = i from rfl, show (((i + w.size : Nat)) : Int).toNat = i + w.size from rfl, hx]
          exact hR
        refine Ev.step (fun k => by rw [shell_Words.l1]) ?_
        by_cases hend : i + w.size = s.size
        · refine Ev.neg (by omega) ?_
          exact fin
        · refine Ev.pos (by omega) ?_
          refine Ev.pos (by omega) ?_
          rcases he with he | he
          · exact absurd he hend
          · simp only [show (bt s ((i + w.size : Nat) : Int) != 32) = false from bne_eq_false_iff_eq.mpr he]
            exact fin
      | succ d ih =>
        intro j hd hj
        have hj' : j < w.size := by omega
        have f := each j hj'
        refine Ev.step (fun k => by rw [shell_Words.l1]) ?_
        refine Ev.pos (by omega) ?_
        refine Ev.pos (by omega) ?_
        simp only [show (bt s ((i + j : Nat) : Int) != 32) = true from bne_iff_ne.mpr (by omega)]
        refine Ev.step (fun k => by rw [shell_Words.j2]) ?_
        refine Ev.pos rfl ?_
        refine Ev.pos (by omega) ?_
        refine Ev.pos (by omega) ?_
        refine Ev.neg f.2 ?_
        rw [w64_1 (i := i + j) (by omega)]
        exact ih (j + 1) (by omega) (by omega)
    exact scan _ 0 rfl (Nat.zero_le _)
  · have hq : quoteB w = ⟨(qTo w w.size ++ [34]).toArray⟩ := if_neg hb
    have hd : (quoteB w).data.toList = 34 :: (body w.data.toList ++ [34]) := by
      rw [hq, qTo_eq w w.size (Nat.le_refl _), List.take_of_length_le (by exact Nat.le_refl _)]
      simp
    have hz : (quoteB w).size = (body w.data.toList).length + 2 := by rw [← hqs, hd]; simp
    rw [hd] at h
    have h0 := h.head
    have e34 : bt s i = 34 := h0.1
    have hqf : shell_quoted.f s ((i + 1 : Nat) : Int) = some (quo s (s.size - (i + 1) + 1) (i + 1) []) := by
      unfold shell_quoted.f
      rw [if_pos (by omega)]
      rfl
    have hbody := quo_body s w.data.toList (s.size - (i + 1) + 1) (i + 1) [] (by omega) h.tail
    have hpos : i + 1 + (body w.data.toList).length + 1 = i + (quoteB w).size := by omega
    rw [hpos] at hbody
    have hok : decide (i + (quoteB w).size = s.size ∨ bt s ((i + (quoteB w).size : Nat) : Int) = 32) = true := decide_eq_true he
    rw [hok, List.nil_append, bytes_eta' w] at hbody
    refine Ev.step (fun k => by rw [shell_Words.l0]) ?_
    refine Ev.pos (by omega) ?_
    refine Ev.pos (by omega) ?_
    refine Ev.neg (by omega) ?_
    refine Ev.pos e34 ?_
    rw [w64_1 (i := i) (by omega), hqf, hbody]
    simp only [Option.bind_some, if_true]
    refine Ev.pos (by omega) ?_
    exact hR

theorem digs_ge (c : Int) (h0 : 0 ≤ c) (h1 : c < 16) : 48 ≤ bt digs c := by
  have h : ∀ a : Fin 16, 48 ≤ bt digs (a.val : Int) := by decide +kernel
  have := h ⟨c.toNat, by omega⟩
  rwa [show ((⟨c.toNat, by omega⟩ : Fin 16).val : Int) = c by simp; omega] at this
theorem u8_ne10 (c : Int) (h0 : 0 ≤ c) (h1 : c ≤ 255) (h : c ≠ 10) : u8 c ≠ 10 := by
  intro e
  have := u8_int c h0 h1
  rw [e] at this
  exact h this.symm
theorem qb_no10 (c : Int) (h0 : 0 ≤ c) (h1 : c ≤ 255) : (10 : UInt8) ∉ qb c := by
  unfold qb
  split
  · have := u8_ne10 c h0 h1 (by omega)
    simp
    exact fun e => this e.symm
  · split
    · simp
    · split
      · simp
      · split
        · have r1 := bt_range digs (c / 16)
          have r2 := bt_range digs (c % 16)
          have g1 := digs_ge (c / 16) (by omega) (by omega)
          have g2 := digs_ge (c % 16) (by omega) (by omega)
          have a := u8_ne10 _ r1.1 r1.2 (by omega)
          have b := u8_ne10 _ r2.1 r2.2 (by omega)
          simp
          exact ⟨fun e => a e.symm, fun e => b e.symm⟩
        · have := u8_ne10 c h0 h1 (by omega)
          simp
          exact fun e => this e.symm
theorem quote_no10 (w : ByteArray) : (10 : UInt8) ∉ (quoteB w).data.toList := by
  by_cases hb : isBare w = true
  · have hq : quoteB w = w := if_pos hb
    rw [hq]
    obtain ⟨_, hall⟩ := bareTo_all w (bare0 w) w.size hb
    intro hm
    obtain ⟨j, hj, e⟩ := List.getElem_of_mem hm
    have hj' : j < w.size := by rw [← data_length]; exact hj
    have := (okc_iff _).1 (hall j hj')
    rw [bt_list w j hj', e] at this
    have h10 : ((10 : UInt8).toNat : Int) = 10 := rfl
    omega
  · have hq : quoteB w = ⟨(qTo w w.size ++ [34]).toArray⟩ := if_neg hb
    rw [hq]
    have : ∀ n, (10 : UInt8) ∉ qTo w n := by
      intro n
      induction n with
      | zero => simp [qTo]
      | succ n ih =>
        have r := bt_range w n
        have := qb_no10 _ r.1 r.2
        simp [qTo, ih, this]
    simp [this]
theorem quote_len (w : ByteArray) : 1 ≤ (quoteB w).size ∧ (quoteB w).size ≤ 4 * w.size + 2 := by
  by_cases hb : isBare w = true
  · have hq : quoteB w = w := if_pos hb
    rw [hq]
    obtain ⟨b0, _⟩ := bareTo_all w (bare0 w) w.size hb
    simp only [bare0, Bool.and_eq_true] at b0
    have := of_decide_eq_true b0.1
    omega
  · have hq : quoteB w = ⟨(qTo w w.size ++ [34]).toArray⟩ := if_neg hb
    have hl := qTo_len w w.size
    have : (quoteB w).size = (qTo w w.size).length + 1 := by rw [← data_length, hq]; simp
    omega

def joinTo (ws : List ByteArray) : Nat → List UInt8
  | 0 => []
  | n + 1 => joinTo ws n ++ ((if n = 0 then [] else [32]) ++ (quoteB (ws.getD n ByteArray.empty)).data.toList)
theorem join_len (ws : List ByteArray) (n : Nat) : n ≤ (joinTo ws n).length := by
  induction n with
  | zero => simp
  | succ n ih =>
    have := (quote_len (ws.getD n ByteArray.empty)).1
    rw [joinTo, List.length_append, List.length_append, data_length]
    omega
theorem join_no10 (ws : List ByteArray) (n : Nat) : (10 : UInt8) ∉ joinTo ws n := by
  induction n with
  | zero => simp [joinTo]
  | succ n ih =>
    have := quote_no10 (ws.getD n ByteArray.empty)
    rw [joinTo]
    simp only [List.mem_append, not_or]
    refine ⟨ih, ?_, this⟩
    split <;> simp
theorem join_more (ws : List ByteArray) (m k : Nat) : ∃ Y, joinTo ws (m + k) = joinTo ws m ++ Y ∧ (0 < m → 0 < k → ∃ Z, Y = 32 :: Z) := by
  induction k with
  | zero => exact ⟨[], by simp, fun _ h => absurd h (by decide)⟩
  | succ k ih =>
    obtain ⟨Y, e, hy⟩ := ih
    refine ⟨Y ++ ((if m + k = 0 then [] else [32]) ++ (quoteB (ws.getD (m + k) ByteArray.empty)).data.toList), by rw [← List.append_assoc, ← e]; rfl, fun h0 _ => ?_⟩
    rcases Nat.eq_zero_or_pos k with rfl | hk
    · have : Y = [] := by
        have := congrArg List.length e
        simp at this
        exact this
      rw [this, if_neg (by omega)]
      exact ⟨_, rfl⟩
    · obtain ⟨Z, rfl⟩ := hy h0 hk
      exact ⟨_, rfl⟩

theorem parse_all (ws : List ByteArray) (s : ByteArray) (hsj : s.data.toList = joinTo ws ws.length) (hs : s.size ≤ 65536) (d : Nat) : ∀ m, ws.length - m = d → m ≤ ws.length →
    Ev (fun k => shell_Words.l0 k s (ws.take m) (((joinTo ws m).length : Nat) : Int)) (ws, 0) := by
  have hsz : s.size = (joinTo ws ws.length).length := by rw [← hsj, data_length]
  have hw := At.whole s
  rw [hsj] at hw
  induction d with
  | zero =>
    intro m hd hm
    obtain rfl : m = ws.length := by omega
    rw [List.take_length]
    refine Ev.step (fun k => by rw [shell_Words.l0]) ?_
    refine Ev.neg (by omega) ?_
    exact Ev.now _
  | succ d ih =>
    intro m hd hm
    have hlt : m < ws.length := by omega
    obtain ⟨Y, eY, hY⟩ := join_more ws (m + 1) (ws.length - (m + 1))
    rw [show m + 1 + (ws.length - (m + 1)) = ws.length by omega] at eY
    have hj1 : joinTo ws (m + 1) = joinTo ws m ++ ((if m = 0 then [] else [32]) ++ (quoteB (ws.getD m ByteArray.empty)).data.toList) := rfl
    have hat : At s (joinTo ws m).length ((if m = 0 then [] else [32]) ++ (quoteB (ws.getD m ByteArray.empty)).data.toList) := by
      have := hw
      rw [eY, hj1, List.append_assoc] at this
      have := this.right.left
      simpa using this
    have hy : At s (joinTo ws (m + 1)).length Y := by
      have := hw
      rw [eY] at this
      have := this.right
      simpa using this
    have hend : (joinTo ws (m + 1)).length = s.size ∨ bt s (((joinTo ws (m + 1)).length : Nat) : Int) = 32 := by
      by_cases hl : m + 1 = ws.length
      · left
        rw [hsz, hl]
      · right
        obtain ⟨Z, rfl⟩ := hY (by omega) (by omega)
        exact hy.head.1
    have hgo := ih (m + 1) (by omega) (by omega)
    have hw' : ws.getD m ByteArray.empty = ws[m]'hlt := by simp [List.getD, hlt]
    have htk : ws.take (m + 1) = ws.take m ++ [ws.getD m ByteArray.empty] := by rw [hw', List.take_succ_eq_append_getElem hlt]
    rw [htk] at hgo
    have hjl := join_len ws m
    have hlen : (joinTo ws (m + 1)).length = (joinTo ws m).length + ((if m = 0 then 0 else 1) + (quoteB (ws.getD m ByteArray.empty)).size) := by
      rw [hj1, List.length_append, List.length_append, data_length]
      split <;> rfl
    by_cases h0 : m = 0
    · rw [if_pos h0, List.nil_append] at hat
      rw [if_pos h0, Nat.zero_add] at hlen
      rw [hlen] at hend hgo
      exact parse_one s hs _ _ _ (by rw [List.length_take]; omega) hat hend _ hgo
    · rw [if_neg h0] at hat
      rw [if_neg h0] at hlen
      have hh : At s (joinTo ws m).length (32 :: (quoteB (ws.getD m ByteArray.empty)).data.toList) := hat
      have e32 : bt s (((joinTo ws m).length : Nat) : Int) = 32 := hh.head.1
      have hsm := hh.head.2
      rw [show (joinTo ws m).length + (1 + (quoteB (ws.getD m ByteArray.empty)).size) = (joinTo ws m).length + 1 + (quoteB (ws.getD m ByteArray.empty)).size by omega] at hlen
      rw [hlen] at hend hgo
      refine Ev.step (fun k => by rw [shell_Words.l0]) ?_
      refine Ev.pos (by omega) ?_
      refine Ev.pos (by omega) ?_
      refine Ev.pos e32 ?_
      rw [w64_1 (i := (joinTo ws m).length) (by omega)]
      exact parse_one s hs _ _ _ (by rw [List.length_take]; omega) hh.tail hend _ hgo

theorem words_of (ws : List ByteArray) (s : ByteArray) (hsj : s.data.toList = joinTo ws ws.length) (hs : s.size ≤ 65536) : Ev (fun k => shell_Words.f k s) (ws, 0) := by
  unfold shell_Words.f
  have hc : strings_Contains.f s ⟨#[10]⟩ = some (decide (0 ≤ Lib.indexByte s.data.toList 10)) := rfl
  refine Ev.neg (by omega) ?_
  rw [hc]
  have : ¬ 0 ≤ Lib.indexByte s.data.toList 10 := fun h => join_no10 ws ws.length (hsj ▸ (index_mem _ _).1 h)
  simp only [this, decide_false, Option.bind_some, Bool.false_eq_true, if_false]
  simpa [joinTo] using parse_all ws s hsj hs ws.length 0 rfl (Nat.zero_le _)

theorem word_of (w : ByteArray) (hs : (quoteB w).size ≤ 65536) : Ev (fun k => shell_Words.f k (quoteB w)) ([w], 0) :=
  words_of [w] (quoteB w) (by simp [joinTo]) hs

theorem strOf_size (xs : List Int) : (strOfNums xs).size = xs.length := by
  unfold strOfNums
  simp [ByteArray.size]

set_option maxRecDepth 100000 in
theorem ShellBack (l : List ByteArray) (_ : ∀ x ∈ l, True) (h : (l.map fun s => s.size + 1).sum + 1 ≤ 1048576) : ∃ k, heddlelaw31_ShellBack.f k l = some true := by
  have hln := len_sum l
  have key : ∀ d i x3, l.length - i = d → i ≤ l.length → x3.length ≤ 5000000 → (x3 = toI (joinTo l i) ∨ 100000 ≤ x3.length) → Ev (fun k => heddlelaw31_ShellBack.l0 k l x3 (i : Int)) true := by
    intro d
    induction d with
    | zero =>
      intro i x3 hd hi hx hj
      obtain rfl : i = l.length := by omega
      refine Ev.step (fun k => by rw [heddlelaw31_ShellBack.l0]) ?_
      refine Ev.neg (by omega) ?_
      have hsz := strOf_size x3
      by_cases hl : ((strOfNums x3).size : Int) > 65536
      · have hw : Ev (fun k => shell_Words.f k (strOfNums x3)) ([], 2) := by
          unfold shell_Words.f
          exact Ev.pos hl (Ev.now _)
        refine Ev.bind hw ?_
        refine Ev.pos hl ?_
        refine Ev.pos rfl ?_
        exact Ev.now _
      · rcases hj with hj | hj
        · have hd : (strOfNums x3).data.toList = joinTo l l.length := by rw [hj, strOf_toI]
          refine Ev.bind (words_of l _ hd (by omega)) ?_
          refine Ev.neg hl ?_
          refine Ev.pos rfl ?_
          refine Ev.bind (texts_refl l (by omega)) ?_
          exact Ev.now _
        · omega
    | succ d ih =>
      intro i x3 hd hi hx hj
      have hlt : i < l.length := by omega
      have e : rdOf ByteArray.empty l (i : Int) = l[i]'hlt := by simp [rdOf, List.getD, hlt]
      have hg : l.getD i ByteArray.empty = l[i]'hlt := by simp [List.getD, hlt]
      have hsz := sum_mem l i hlt
      have hjs : joinTo l (i + 1) = joinTo l i ++ ((if i = 0 then [] else [32]) ++ (quoteB (l[i]'hlt)).data.toList) := by rw [joinTo, hg]
      have back : ∀ x3', x3'.length ≤ 5000000 → (x3' = toI (joinTo l (i + 1)) ∨ 100000 ≤ x3'.length) → Ev (fun k => heddlelaw31_ShellBack.j1 k l x3' (i : Int) (quoteB (l[i]'hlt))) true := by
        intro x3' hx' hj'
        have hgo := ih (i + 1) x3' (by omega) (by omega) hx' hj'
        refine Ev.step (fun k => by rw [heddlelaw31_ShellBack.j1]) ?_
        by_cases hl : ((quoteB (l[i]'hlt)).size : Int) > 65536
        · refine Ev.pos hl ?_
          rw [w64_1 (i := i) (by omega)]
          exact hgo
        · refine Ev.neg hl ?_
          refine Ev.bind (word_of _ (by omega)) ?_
          refine Ev.pos rfl ?_
          refine Ev.pos rfl ?_
          refine Ev.pos (by simp) ?_
          refine Ev.pos (by omega) ?_
          refine Ev.pos (by omega) ?_
          refine Ev.pos (by rw [e]; rfl) ?_
          have hc : strings_Contains.f (quoteB (l[i]'hlt)) ⟨#[10]⟩ = some (decide (0 ≤ Lib.indexByte (quoteB (l[i]'hlt)).data.toList 10)) := rfl
          have : ¬ 0 ≤ Lib.indexByte (quoteB (l[i]'hlt)).data.toList 10 := fun h => quote_no10 _ ((index_mem _ _).1 h)
          rw [hc]
          simp only [this, decide_false, Option.bind_some, Bool.false_eq_true, if_false]
          rw [w64_1 (i := i) (by omega)]
          exact hgo
      generalize hw : l[i]'hlt = w at *
      have hq : shell_Quote.f w = some (quoteB w) := by unfold shell_Quote.f; rw [if_pos (by omega)]
      have hql := (quote_len w).2
      have hbl := bytesOf_length (quoteB w)
      have hbt : bytesOf (quoteB w) = toI (quoteB w).data.toList := rfl
      refine Ev.step (fun k => by rw [heddlelaw31_ShellBack.l0]) ?_
      refine Ev.pos (by omega) ?_
      refine Ev.pos (by omega) ?_
      rw [e, hq]
      simp only [Option.bind_some]
      by_cases hs : (x3.length : Int) < 100000
      · refine Ev.pos hs ?_
        have hj0 : x3 = toI (joinTo l i) := by
          rcases hj with hj | hj
          · exact hj
          · omega
        by_cases h0 : (i : Int) > 0
        · refine Ev.pos h0 ?_
          refine Ev.pos (by omega) ?_
          refine Ev.pos (by simp only [List.length_append, List.length_cons, List.length_nil]; omega) ?_
          refine back _ (by simp only [List.length_append, List.length_cons, List.length_nil]; omega) (.inl ?_)
          rw [hjs, if_neg (by omega), toI_append, toI_append, ← hj0, hbt, ← List.append_assoc]
          rfl
        · refine Ev.neg h0 ?_
          refine Ev.pos (by omega) ?_
          refine back _ (by simp only [List.length_append]; omega) (.inl ?_)
          rw [hjs, if_pos (by omega), List.nil_append, toI_append, ← hj0, hbt]
      · refine Ev.neg hs ?_
        exact back x3 hx (.inr (by omega))
  have : Ev (fun k => heddlelaw31_ShellBack.f k l) true := by
    unfold heddlelaw31_ShellBack.f
    refine Ev.bind worded ?_
    refine Ev.pos rfl ?_
    exact key _ 0 [] rfl (Nat.zero_le _) (Nat.zero_le _) (.inl rfl)
  exact this.rounds
end Go.Proofs.Ytfdioplenkcahaa.PureBack
