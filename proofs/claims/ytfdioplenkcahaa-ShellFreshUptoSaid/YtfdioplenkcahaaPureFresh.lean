/- The document's words are shell's, over numbers and lists (for ShellFresh). -/
import Derived.Test.YtfdioplenkcahaaPShellFreshx3
import Derived.Lib.Strings
namespace Go.Proofs.Ytfdioplenkcahaa.PureFresh
open Go.RowKit Go.Proofs.Ytfdioplenkcahaa.PShellFresh Go.Proofs.YtfdioplenkcahaaW.PrintWords Go.Proofs.YtfdioplenkcahaaW.PrintLast Hand

def toI (l : List UInt8) : List Int := l.map fun b => (b.toNat : Int)
theorem strOf_toI (l : List UInt8) : strOfNums (toI l) = ⟨l.toArray⟩ := by
  unfold strOfNums toI
  congr 2
  rw [List.map_map]
  conv => rhs; rw [← List.map_id l]
  apply List.map_congr_left
  intro b _
  simp
theorem Ev.pos {α : Type} {c : Prop} [Decidable c] {g f : Nat → Option α} {r : α} (hc : c) (h : Ev g r) : Ev (fun k => if c then g k else f k) r := by
  simp only [if_pos hc]
  exact h
theorem Ev.neg {α : Type} {c : Prop} [Decidable c] {g f : Nat → Option α} {r : α} (hc : ¬ c) (h : Ev f r) : Ev (fun k => if c then g k else f k) r := by
  simp only [if_neg hc]
  exact h
theorem toI_append (a b : List UInt8) : toI (a ++ b) = toI a ++ toI b := by simp [toI]
theorem toI_length (a : List UInt8) : (toI a).length = a.length := by simp [toI]
theorem u8_int (c : Int) (h0 : 0 ≤ c) (h1 : c ≤ 255) : ((u8 c).toNat : Int) = c := by
  unfold u8
  simp
  omega
theorem w64 {i : Nat} (j : Nat) (h : i ≤ 1099511627776) (hj : j ≤ 1099511627776) : wrap64 ((i : Int) + (j : Int)) = ((i + j : Nat) : Int) := by
  unfold wrap64
  omega
theorem w64_1 {i : Nat} (h : i ≤ 1099511627776) : wrap64 ((i : Int) + 1) = ((i + 1 : Nat) : Int) := w64 1 h (by decide)
theorem w64_2 {i : Nat} (h : i ≤ 1099511627776) : wrap64 ((i : Int) + 2) = ((i + 2 : Nat) : Int) := w64 2 h (by decide)

theorem bt_extract (s : ByteArray) (a : Nat) (j : Nat) (h : a + j < s.size) : bt (s.extract a s.size) (j : Nat) = bt s ((a + j : Nat) : Int) := by
  unfold bt
  have h1 : ((j : Nat) : Int).toNat < (s.extract a s.size).size := by simp; omega
  have h2 : (((a + j : Nat) : Int)).toNat < s.size := by simp; omega
  rw [dif_pos h1, dif_pos h2]
  simp only [Int.toNat_natCast]
  simp [ByteArray.getElem_extract]

theorem digit_ix (c : Int) (h0 : 0 ≤ c) (h1 : c ≤ 255) : Ev (fun k => heddleref31_digit.f k c) (ix c) := by
  have h : ∀ a : Fin 256, heddleref31_digit.f 20 (a.val : Int) = some (ix (a.val : Int)) := by decide +kernel
  have := h ⟨c.toNat, by omega⟩
  rw [show ((⟨c.toNat, by omega⟩ : Fin 256).val : Int) = c by simp; omega] at this
  exact Ev.of (heddleref31_digit.mono c) this

/-- what the document's reading of a quoted word comes to, out of shell's -/
def told (q : ByteArray × Int × Bool) : ByteArray × Int := if q.2.2 = true then (q.1, q.2.1) else (⟨#[]⟩, -1)

theorem refq_l0 (s : ByteArray) (hs : s.size ≤ 1048576) (n : Nat) : ∀ (i : Nat) (acc : List UInt8), s.size < i + n → acc.length ≤ i → i ≤ s.size →
    Ev (fun k => heddleref31_quoted.l0 k s i (toI acc)) (told (quo s n i acc)) := by
  induction n with
  | zero => intro i acc h _ hi; omega
  | succ n ih =>
    intro i acc hn hl hi
    have hln := toI_length acc
    have w1 := w64_1 (i := i) (by omega)
    have w2 := w64_2 (i := i) (by omega)
    have w3 : wrap64 (((i + 2 : Nat) : Int) + 1) = ((i + 3 : Nat) : Int) := w64_1 (i := i + 2) (by omega)
    have w4 : wrap64 (((i + 2 : Nat) : Int) + 2) = ((i + 4 : Nat) : Int) := w64_2 (i := i + 2) (by omega)
    by_cases hlt : i < s.size
    · have hc := bt_range s i
      refine Ev.step (fun k => by rw [heddleref31_quoted.l0]) ?_
      refine Ev.pos (by omega) ?_
      refine Ev.pos (by omega) ?_
      by_cases h34 : bt s i = 34
      · simp only [show (bt s i != 34) = false from bne_eq_false_iff_eq.mpr h34]
        refine Ev.step (fun k => by rw [heddleref31_quoted.j1]) ?_
        refine Ev.neg (by decide) ?_
        refine Ev.neg (by omega) ?_
        rw [w1]
        by_cases he : i + 1 = s.size
        · refine Ev.neg (by omega) ?_
          have : told (quo s (n + 1) i acc) = (strOfNums (toI acc), ((i + 1 : Nat) : Int)) := by simp [told, quo, hlt, h34, he, strOf_toI]; omega
          rw [this]
          exact Ev.now _
        · refine Ev.pos (by omega) ?_
          refine Ev.pos (by omega) ?_
          by_cases h32 : bt s ((i + 1 : Nat) : Int) = 32
          · refine Ev.pos h32 ?_
            have : told (quo s (n + 1) i acc) = (strOfNums (toI acc), ((i + 1 : Nat) : Int)) := by
              have h32' : bt s ((i : Int) + 1) = 32 := h32
              simp [told, quo, hlt, h34, he, h32', strOf_toI]
            rw [this]
            exact Ev.now _
          · refine Ev.neg h32 ?_
            have : told (quo s (n + 1) i acc) = (⟨#[]⟩, -1) := by
              have h32' : ¬ bt s ((i : Int) + 1) = 32 := h32
              simp [told, quo, hlt, h34, he, h32']
            rw [this]
            exact Ev.now _
      · simp only [show (bt s i != 34) = true from bne_iff_ne.mpr h34]
        refine Ev.step (fun k => by rw [heddleref31_quoted.j1]) ?_
        refine Ev.pos rfl ?_
        refine Ev.pos (by omega) ?_
        refine Ev.pos (by omega) ?_
        by_cases h92 : bt s i = 92
        · refine Ev.pos h92 ?_
          rw [w1, w2]
          have q0 : quo s (n + 1) i acc = if (esc (s.extract (i + 1) s.size)).2 = 0 then (⟨#[]⟩, 0, false) else quo s n (i + 1 + (esc (s.extract (i + 1) s.size)).2.toNat) (acc ++ [(esc (s.extract (i + 1) s.size)).1.toNat.toUInt8]) := by
            simp [quo, hlt, h92]
          have hsz : (s.extract (i + 1) s.size).size = s.size - (i + 1) := by simp
          by_cases he : s.size ≤ i + 1
          · refine Ev.pos (by omega) ?_
            have : esc (s.extract (i + 1) s.size) = (0, 0) := by unfold esc; rw [if_pos (by omega)]
            rw [q0, this]
            exact Ev.now _
          · refine Ev.neg (by omega) ?_
            refine Ev.pos (by omega) ?_
            refine Ev.pos (by omega) ?_
            have x0 : bt (s.extract (i + 1) s.size) 0 = bt s ((i + 1 : Nat) : Int) := bt_extract s (i + 1) 0 (by omega)
            have hx := bt_range s ((i + 1 : Nat) : Int)
            generalize hxe : bt s ((i + 1 : Nat) : Int) = x at *
            have goon : ∀ y : Int, 0 ≤ y → y ≤ 255 → esc (s.extract (i + 1) s.size) = (y, 1) → Ev (fun k => heddleref31_quoted.l0 k s ((i + 2 : Nat) : Int) (toI acc ++ [y])) (told (quo s (n + 1) i acc)) := by
              intro y y0 y1 hy
              rw [q0, hy, if_neg (by simp)]
              have e : toI acc ++ [y] = toI (acc ++ [y.toNat.toUInt8]) := by rw [toI_append]; congr 1; simp only [toI, List.map_cons, List.map_nil]; rw [show (y.toNat.toUInt8) = u8 y from rfl, u8_int y y0 y1]
              rw [e]
              exact ih (i + 2) _ (by omega) (by simp; omega) (by omega)
            have stop : (esc (s.extract (i + 1) s.size)).2 = 0 → told (quo s (n + 1) i acc) = (⟨#[]⟩, -1) := fun h => by rw [q0, if_pos h]; rfl
            by_cases hq : x = 34 ∨ x = 92
            · have g := goon x hx.1 hx.2 (by unfold esc; rw [if_neg (by omega), x0, if_pos hq])
              have key : Ev (fun k => heddleref31_quoted.j2 k s ((i + 2 : Nat) : Int) (toI acc) x x true) (told (quo s (n + 1) i acc)) := by
                refine Ev.step (fun k => by rw [heddleref31_quoted.j2]) ?_
                refine Ev.pos rfl ?_
                refine Ev.pos (by omega) ?_
                exact g
              by_cases h34' : x = 34
              · refine Ev.pos h34' ?_
                simp only [show (x == 34) = true from beq_iff_eq.mpr h34']
                exact key
              · refine Ev.neg h34' ?_
                simp only [show (x == 92) = true from beq_iff_eq.mpr (by omega)]
                exact key
            · refine Ev.neg (fun e => hq (.inl e)) ?_
              simp only [show (x == 92) = false from beq_eq_false_iff_ne.mpr (fun e => hq (.inr e))]
              refine Ev.step (fun k => by rw [heddleref31_quoted.j2]) ?_
              refine Ev.neg (by decide) ?_
              by_cases h110 : x = 110
              · refine Ev.pos h110 ?_
                refine Ev.pos (by omega) ?_
                exact goon 10 (by decide) (by decide) (by unfold esc; rw [if_neg (by omega), x0, if_neg hq, if_pos h110])
              · refine Ev.neg h110 ?_
                by_cases h116 : x = 116
                · refine Ev.pos h116 ?_
                  refine Ev.pos (by omega) ?_
                  exact goon 9 (by decide) (by decide) (by unfold esc; rw [if_neg (by omega), x0, if_neg hq, if_neg h110, if_pos h116])
                · refine Ev.neg h116 ?_
                  by_cases h120 : x = 120
                  · refine Ev.pos h120 ?_
                    have bad : ¬ (3 ≤ s.size - (i + 1) ∧ 0 ≤ ix (bt s ((i + 2 : Nat) : Int)) ∧ 0 ≤ ix (bt s ((i + 3 : Nat) : Int))) → Ev (fun k => heddleref31_quoted.j3 k s ((i + 2 : Nat) : Int) (toI acc) true) (told (quo s (n + 1) i acc)) := by
                      intro hb
                      refine Ev.step (fun k => by rw [heddleref31_quoted.j3]) ?_
                      refine Ev.pos rfl ?_
                      rw [stop ?_]
                      · exact Ev.now _
                      · unfold esc
                        rw [if_neg (by omega), x0, if_neg hq, if_neg h110, if_neg h116, if_neg ?_]
                        rintro ⟨_, h3, h4, h5⟩
                        rw [hsz] at h3
                        have y1 : bt (s.extract (i + 1) s.size) 1 = bt s ((i + 2 : Nat) : Int) := bt_extract s (i + 1) 1 (by omega)
                        have y2 : bt (s.extract (i + 1) s.size) 2 = bt s ((i + 3 : Nat) : Int) := bt_extract s (i + 1) 2 (by omega)
                        rw [y1] at h4
                        rw [y2] at h5
                        exact hb ⟨h3, h4, h5⟩
                    rw [w3]
                    by_cases he3 : s.size ≤ i + 3
                    · refine Ev.pos (by omega) ?_
                      exact bad (fun h => by omega)
                    · refine Ev.neg (by omega) ?_
                      refine Ev.pos (by omega) ?_
                      refine Ev.pos (by omega) ?_
                      have r1 := bt_range s ((i + 2 : Nat) : Int)
                      have r2 := bt_range s ((i + 3 : Nat) : Int)
                      have i1 := ix_range (bt s ((i + 2 : Nat) : Int))
                      have i2 := ix_range (bt s ((i + 3 : Nat) : Int))
                      have g1 := digit_ix _ r1.1 r1.2
                      have g2 := digit_ix _ r2.1 r2.2
                      refine Ev.bind g1 ?_
                      by_cases n1 : ix (bt s ((i + 2 : Nat) : Int)) < 0
                      · refine Ev.pos n1 ?_
                        exact bad (fun h => by omega)
                      · refine Ev.neg n1 ?_
                        refine Ev.pos (by omega) ?_
                        refine Ev.pos (by omega) ?_
                        refine Ev.bind g2 ?_
                        by_cases n2 : ix (bt s ((i + 3 : Nat) : Int)) < 0
                        · simp only [show decide (ix (bt s ((i + 3 : Nat) : Int)) < 0) = true from decide_eq_true n2]
                          exact bad (fun h => by omega)
                        · simp only [show decide (ix (bt s ((i + 3 : Nat) : Int)) < 0) = false from decide_eq_false n2]
                          refine Ev.step (fun k => by rw [heddleref31_quoted.j3]) ?_
                          refine Ev.neg (by decide) ?_
                          refine Ev.pos (by omega) ?_
                          refine Ev.pos (by omega) ?_
                          refine Ev.bind g1 ?_
                          rw [w3]
                          refine Ev.pos (by omega) ?_
                          refine Ev.pos (by omega) ?_
                          refine Ev.bind g2 ?_
                          refine Ev.pos (by omega) ?_
                          rw [w4]
                          have y1 : bt (s.extract (i + 1) s.size) 1 = bt s ((i + 2 : Nat) : Int) := bt_extract s (i + 1) 1 (by omega)
                          have y2 : bt (s.extract (i + 1) s.size) 2 = bt s ((i + 3 : Nat) : Int) := bt_extract s (i + 1) 2 (by omega)
                          have hE : esc (s.extract (i + 1) s.size) = (16 * ix (bt s ((i + 2 : Nat) : Int)) + ix (bt s ((i + 3 : Nat) : Int)), 3) := by
                            unfold esc
                            rw [if_neg (by omega), x0, if_neg hq, if_neg h110, if_neg h116, if_pos, y1, y2]
                            rw [y1, y2, hsz]
                            exact ⟨h120, by omega, by omega, by omega⟩
                          generalize ix (bt s ((i + 2 : Nat) : Int)) = a at *
                          generalize ix (bt s ((i + 3 : Nat) : Int)) = b at *
                          have hv : (wrap64 ((wrap64 (16 * a)) + b)) % 256 = 16 * a + b := by unfold wrap64; omega
                          rw [hv, q0, hE, if_neg (by simp)]
                          have e : toI acc ++ [16 * a + b] = toI (acc ++ [(16 * a + b).toNat.toUInt8]) := by rw [toI_append]; congr 1; simp only [toI, List.map_cons, List.map_nil]; rw [show ((16 * a + b).toNat.toUInt8) = u8 (16 * a + b) from rfl, u8_int _ (by omega) (by omega)]
                          rw [e]
                          exact ih (i + 4) _ (by omega) (by simp; omega) (by omega)
                  · refine Ev.neg h120 ?_
                    rw [stop ?_]
                    · exact Ev.now _
                    · unfold esc
                      rw [if_neg (by omega), x0, if_neg hq, if_neg h110, if_neg h116, if_neg (fun h => h120 h.1)]
        · refine Ev.neg h92 ?_
          refine Ev.pos (by omega) ?_
          rw [w1]
          have q0 : quo s (n + 1) i acc = quo s n (i + 1) (acc ++ [(bt s i).toNat.toUInt8]) := by simp [quo, hlt, h34, h92]
          rw [q0]
          have e : toI acc ++ [bt s i] = toI (acc ++ [(bt s i).toNat.toUInt8]) := by rw [toI_append]; congr 1; simp only [toI, List.map_cons, List.map_nil]; rw [show ((bt s i).toNat.toUInt8) = u8 (bt s i) from rfl, u8_int _ hc.1 hc.2]
          rw [e]
          exact ih (i + 1) _ (by omega) (by simp; omega) (by omega)
    · have q0 : quo s (n + 1) i acc = (⟨#[]⟩, 0, false) := by simp [quo, hlt]
      rw [q0]
      refine Ev.step (fun k => by rw [heddleref31_quoted.l0]) ?_
      refine Ev.neg (by omega) ?_
      refine Ev.step (fun k => by rw [heddleref31_quoted.j1]) ?_
      refine Ev.neg (by decide) ?_
      refine Ev.pos (by omega) ?_
      exact Ev.now _

theorem quo_end (s : ByteArray) (n : Nat) : ∀ (i : Nat) (acc : List UInt8), (quo s n i acc).2.2 = true → (i : Int) < (quo s n i acc).2.1 ∧ (quo s n i acc).2.1 ≤ s.size := by
  induction n with
  | zero => intro i acc h; simp [quo] at h
  | succ n ih =>
    intro i acc h
    by_cases hlt : i < s.size
    · by_cases h34 : bt s i = 34
      · have e : (quo s (n + 1) i acc).2.1 = (i : Int) + 1 := by simp [quo, hlt, h34]
        rw [e]
        omega
      · by_cases h92 : bt s i = 92
        · by_cases hz : (esc (s.extract (i + 1) s.size)).2 = 0
          · simp [quo, hlt, h92, hz] at h
          · have e : quo s (n + 1) i acc = quo s n (i + 1 + (esc (s.extract (i + 1) s.size)).2.toNat) (acc ++ [(esc (s.extract (i + 1) s.size)).1.toNat.toUInt8]) := by simp [quo, hlt, h92, hz]
            rw [e] at h ⊢
            have := ih _ _ h
            omega
        · have e : quo s (n + 1) i acc = quo s n (i + 1) (acc ++ [(bt s i).toNat.toUInt8]) := by simp [quo, hlt, h34, h92]
          rw [e] at h ⊢
          have := ih _ _ h
          omega
    · simp [quo, hlt] at h

/-- a bare word from i on, read as far as j -/
theorem bare_both (s : ByteArray) (hs : s.size ≤ 1048576) (acc : List ByteArray) (i : Nat) (hl : acc.length ≤ i) (d : Nat) : ∀ j, s.size - j = d → i ≤ j → j ≤ s.size →
    (Ev (fun k => shell_Words.l1 k s acc i j) ([], 70) ∧ Ev (fun k => heddleref31_Words.l2 k s acc j i) ([], 70)) ∨
    ∃ e, j ≤ e ∧ e ≤ s.size ∧ (bt s j ≠ 32 → j < s.size → j < e) ∧ ∀ R, Ev (fun k => shell_Words.l0 k s (acc ++ [s.extract i e]) e) R → Ev (fun k => heddleref31_Words.l1 k s (acc ++ [s.extract i e]) e) R →
      Ev (fun k => shell_Words.l1 k s acc i j) R ∧ Ev (fun k => heddleref31_Words.l2 k s acc j i) R := by
  induction d with
  | zero =>
    intro j hd hij hj
    obtain rfl : j = s.size := by omega
    refine .inr ⟨s.size, Nat.le_refl _, Nat.le_refl _, fun _ h => by omega, fun R h1 h2 => ⟨?_, ?_⟩⟩
    · refine Ev.step (fun k => by rw [shell_Words.l1]) ?_
      refine Ev.neg (by omega) ?_
      refine Ev.step (fun k => by rw [shell_Words.j2]) ?_
      refine Ev.neg (by decide) ?_
      refine Ev.pos (by omega) ?_
      refine Ev.pos (by omega) ?_
      refine Ev.pos (by omega) ?_
      refine Ev.pos (by omega) ?_
      exact h1
    · refine Ev.step (fun k => by rw [heddleref31_Words.l2]) ?_
      refine Ev.neg (by omega) ?_
      refine Ev.step (fun k => by rw [heddleref31_Words.j3]) ?_
      refine Ev.neg (by decide) ?_
      refine Ev.pos (by omega) ?_
      refine Ev.pos (by omega) ?_
      refine Ev.pos (by omega) ?_
      refine Ev.pos (by omega) ?_
      exact h2
  | succ d ih =>
    intro j hd hij hj
    have w1 := w64_1 (i := j) (by omega)
    by_cases h32 : bt s j = 32
    · refine .inr ⟨j, Nat.le_refl _, hj, fun h => absurd h32 h, fun R h1 h2 => ⟨?_, ?_⟩⟩
      · refine Ev.step (fun k => by rw [shell_Words.l1]) ?_
        refine Ev.pos (by omega) ?_
        refine Ev.pos (by omega) ?_
        simp only [show (bt s j != 32) = false from bne_eq_false_iff_eq.mpr h32]
        refine Ev.step (fun k => by rw [shell_Words.j2]) ?_
        refine Ev.neg (by decide) ?_
        refine Ev.pos (by omega) ?_
        refine Ev.pos (by omega) ?_
        refine Ev.pos (by omega) ?_
        refine Ev.pos (by omega) ?_
        exact h1
      · refine Ev.step (fun k => by rw [heddleref31_Words.l2]) ?_
        refine Ev.pos (by omega) ?_
        refine Ev.pos (by omega) ?_
        simp only [show (bt s j != 32) = false from bne_eq_false_iff_eq.mpr h32]
        refine Ev.step (fun k => by rw [heddleref31_Words.j3]) ?_
        refine Ev.neg (by decide) ?_
        refine Ev.pos (by omega) ?_
        refine Ev.pos (by omega) ?_
        refine Ev.pos (by omega) ?_
        refine Ev.pos (by omega) ?_
        exact h2
    · have pre : ∀ R, (bt s j = 34 → R = ([], 70)) → (¬ bt s j = 34 → Ev (fun k => shell_Words.l1 k s acc i ((j + 1 : Nat) : Int)) R) → Ev (fun k => shell_Words.l1 k s acc i j) R := by
        intro R hR hg
        refine Ev.step (fun k => by rw [shell_Words.l1]) ?_
        refine Ev.pos (by omega) ?_
        refine Ev.pos (by omega) ?_
        simp only [show (bt s j != 32) = true from bne_iff_ne.mpr h32]
        refine Ev.step (fun k => by rw [shell_Words.j2]) ?_
        refine Ev.pos rfl ?_
        refine Ev.pos (by omega) ?_
        refine Ev.pos (by omega) ?_
        by_cases h34 : bt s j = 34
        · refine Ev.pos h34 ?_
          rw [hR h34]
          exact Ev.now _
        · refine Ev.neg h34 ?_
          rw [w1]
          exact hg h34
      have pre2 : ∀ R, (bt s j = 34 → R = ([], 70)) → (¬ bt s j = 34 → Ev (fun k => heddleref31_Words.l2 k s acc ((j + 1 : Nat) : Int) i) R) → Ev (fun k => heddleref31_Words.l2 k s acc j i) R := by
        intro R hR hg
        refine Ev.step (fun k => by rw [heddleref31_Words.l2]) ?_
        refine Ev.pos (by omega) ?_
        refine Ev.pos (by omega) ?_
        simp only [show (bt s j != 32) = true from bne_iff_ne.mpr h32]
        refine Ev.step (fun k => by rw [heddleref31_Words.j3]) ?_
        refine Ev.pos rfl ?_
        refine Ev.pos (by omega) ?_
        refine Ev.pos (by omega) ?_
        by_cases h34 : bt s j = 34
        · refine Ev.pos h34 ?_
          rw [hR h34]
          exact Ev.now _
        · refine Ev.neg h34 ?_
          rw [w1]
          exact hg h34
      by_cases h34 : bt s j = 34
      · exact .inl ⟨pre _ (fun _ => rfl) (fun h => absurd h34 h), pre2 _ (fun _ => rfl) (fun h => absurd h34 h)⟩
      · rcases ih (j + 1) (by omega) (by omega) (by omega) with ⟨g1, g2⟩ | ⟨e, he1, he2, _, hc⟩
        · exact .inl ⟨pre _ (fun _ => rfl) (fun _ => g1), pre2 _ (fun _ => rfl) (fun _ => g2)⟩
        · refine .inr ⟨e, by omega, he2, fun _ _ => by omega, fun R h1 h2 => ?_⟩
          obtain ⟨g1, g2⟩ := hc R h1 h2
          exact ⟨pre _ (fun h => absurd h h34) (fun _ => g1), pre2 _ (fun h => absurd h h34) (fun _ => g2)⟩

theorem words_both (s : ByteArray) (hs : s.size ≤ 65536) (d : Nat) : ∀ (i : Nat) (acc : List ByteArray), s.size - i ≤ d → i ≤ s.size → acc.length ≤ i →
    ∃ R, Ev (fun k => shell_Words.l0 k s acc i) R ∧ Ev (fun k => heddleref31_Words.l1 k s acc i) R ∧ R.1.length ≤ s.size := by
  induction d with
  | zero =>
    intro i acc hd hi hl
    refine ⟨(acc, 0), ?_, ?_, by simp; omega⟩
    · refine Ev.step (fun k => by rw [shell_Words.l0]) ?_
      refine Ev.neg (by omega) ?_
      exact Ev.now _
    · refine Ev.step (fun k => by rw [heddleref31_Words.l1]) ?_
      refine Ev.neg (by omega) ?_
      exact Ev.now _
  | succ d ih =>
    intro i acc hd hi hl
    have w1 := w64_1 (i := i) (by omega)
    by_cases hlt : i < s.size
    · by_cases h32 : bt s i = 32
      · obtain ⟨R, g1, g2, g3⟩ := ih (i + 1) acc (by omega) (by omega) (by omega)
        refine ⟨R, ?_, ?_, g3⟩
        · refine Ev.step (fun k => by rw [shell_Words.l0]) ?_
          refine Ev.pos (by omega) ?_
          refine Ev.pos (by omega) ?_
          refine Ev.pos h32 ?_
          rw [w1]
          exact g1
        · refine Ev.step (fun k => by rw [heddleref31_Words.l1]) ?_
          refine Ev.pos (by omega) ?_
          refine Ev.pos (by omega) ?_
          refine Ev.pos h32 ?_
          rw [w1]
          exact g2
      · by_cases h34 : bt s i = 34
        · have hq : shell_quoted.f s ((i + 1 : Nat) : Int) = some (quo s (s.size - (i + 1) + 1) (i + 1) []) := by
            unfold shell_quoted.f
            rw [if_pos (by omega)]
            rfl
          have rq : Ev (fun k => heddleref31_quoted.f k s i) (told (quo s (s.size - (i + 1) + 1) (i + 1) [])) := by
            unfold heddleref31_quoted.f
            rw [w1]
            exact refq_l0 s (by omega) _ (i + 1) [] (by omega) (by simp) (by omega)
          have hend := quo_end s (s.size - (i + 1) + 1) (i + 1) []
          generalize quo s (s.size - (i + 1) + 1) (i + 1) [] = q at *
          obtain ⟨qw, qe, qo⟩ := q
          cases qo
          · refine ⟨([], 70), ?_, ?_, by simp⟩
            · refine Ev.step (fun k => by rw [shell_Words.l0]) ?_
              refine Ev.pos (by omega) ?_
              refine Ev.pos (by omega) ?_
              refine Ev.neg h32 ?_
              refine Ev.pos h34 ?_
              rw [w1, hq]
              exact Ev.now _
            · refine Ev.step (fun k => by rw [heddleref31_Words.l1]) ?_
              refine Ev.pos (by omega) ?_
              refine Ev.pos (by omega) ?_
              refine Ev.neg h32 ?_
              refine Ev.pos h34 ?_
              refine Ev.bind rq ?_
              refine Ev.pos (by simp [told]) ?_
              exact Ev.now _
          · have he := hend rfl
            simp only at he
            obtain ⟨e, rfl⟩ : ∃ e : Nat, qe = e := ⟨qe.toNat, by omega⟩
            obtain ⟨R, g1, g2, g3⟩ := ih e (acc ++ [qw]) (by omega) (by omega) (by simp; omega)
            refine ⟨R, ?_, ?_, g3⟩
            · refine Ev.step (fun k => by rw [shell_Words.l0]) ?_
              refine Ev.pos (by omega) ?_
              refine Ev.pos (by omega) ?_
              refine Ev.neg h32 ?_
              refine Ev.pos h34 ?_
              rw [w1, hq]
              simp only [Option.bind_some, if_true]
              refine Ev.pos (by omega) ?_
              exact g1
            · refine Ev.step (fun k => by rw [heddleref31_Words.l1]) ?_
              refine Ev.pos (by omega) ?_
              refine Ev.pos (by omega) ?_
              refine Ev.neg h32 ?_
              refine Ev.pos h34 ?_
              refine Ev.bind rq ?_
              simp only [told, if_true]
              refine Ev.neg (by omega) ?_
              refine Ev.pos (by omega) ?_
              exact g2
        · have pre : ∀ R, Ev (fun k => shell_Words.l1 k s acc i i) R → Ev (fun k => shell_Words.l0 k s acc i) R := by
            intro R h
            refine Ev.step (fun k => by rw [shell_Words.l0]) ?_
            refine Ev.pos (by omega) ?_
            refine Ev.pos (by omega) ?_
            refine Ev.neg h32 ?_
            refine Ev.neg h34 ?_
            exact h
          have pre2 : ∀ R, Ev (fun k => heddleref31_Words.l2 k s acc i i) R → Ev (fun k => heddleref31_Words.l1 k s acc i) R := by
            intro R h
            refine Ev.step (fun k => by rw [heddleref31_Words.l1]) ?_
            refine Ev.pos (by omega) ?_
            refine Ev.pos (by omega) ?_
            refine Ev.neg h32 ?_
            refine Ev.neg h34 ?_
            exact h
          rcases bare_both s (by omega) acc i hl _ i rfl (Nat.le_refl _) hi with ⟨g1, g2⟩ | ⟨e, he1, he2, he3, hc⟩
          · exact ⟨_, pre _ g1, pre2 _ g2, by simp⟩
          · have := he3 h32 hlt
            obtain ⟨R, g1, g2, g3⟩ := ih e (acc ++ [s.extract i e]) (by omega) he2 (by simp; omega)
            obtain ⟨c1, c2⟩ := hc R g1 g2
            exact ⟨R, pre _ c1, pre2 _ c2, g3⟩
    · refine ⟨(acc, 0), ?_, ?_, by simp; omega⟩
      · refine Ev.step (fun k => by rw [shell_Words.l0]) ?_
        refine Ev.neg (by omega) ?_
        exact Ev.now _
      · refine Ev.step (fun k => by rw [heddleref31_Words.l1]) ?_
        refine Ev.neg (by omega) ?_
        exact Ev.now _

theorem index_mem (l : List UInt8) (c : UInt8) : 0 ≤ Lib.indexByte l c ↔ c ∈ l := by
  have low : ∀ l : List UInt8, -1 ≤ Lib.indexByte l c := by
    intro l
    induction l with
    | nil => simp [Lib.indexByte]
    | cons b l ih => simp only [Lib.indexByte]; split <;> (try split) <;> omega
  induction l with
  | nil => simp [Lib.indexByte]
  | cons b l ih =>
    have hl := low l
    simp only [Lib.indexByte]
    by_cases hb : b = c
    · simp [hb]
    · have : (b == c) = false := by simp [hb]
      simp only [this, Bool.false_eq_true, if_false]
      by_cases h1 : Lib.indexByte l c = -1
      · have h2 : ¬ c ∈ l := fun h => by have := ih.2 h; omega
        simp [h1, h2]
        exact fun e => hb e.symm
      · have h2 : c ∈ l := ih.1 (by omega)
        have h3 : (Lib.indexByte l c == -1) = false := by simp [h1]
        simp only [h3, Bool.false_eq_true, if_false, List.mem_cons, h2, or_true, iff_true]
        omega

theorem bt_list (s : ByteArray) (j : Nat) (h : j < s.size) : bt s j = ((s.data.toList[j]'(by simpa using h)).toNat : Int) := by
  unfold bt
  rw [dif_pos (by simpa using h)]
  simp
  rfl

/-- the document looks for a line's end first -/
theorem scan (s : ByteArray) (hs : s.size ≤ 65536) (R : List ByteArray × Int) (h : Ev (fun k => heddleref31_Words.l1 k s [] 0) R) (d : Nat) : ∀ i, s.size - i = d → i ≤ s.size →
    (10 : UInt8) ∉ s.data.toList.take i →
    Ev (fun k => heddleref31_Words.l0 k s i) (if (10 : UInt8) ∈ s.data.toList then ([], 70) else R) := by
  induction d with
  | zero =>
    intro i hd hi hn
    obtain rfl : i = s.size := by omega
    have : s.data.toList.take s.size = s.data.toList := List.take_of_length_le (by exact Nat.le_refl _)
    rw [this] at hn
    rw [if_neg hn]
    refine Ev.step (fun k => by rw [heddleref31_Words.l0]) ?_
    refine Ev.neg (by omega) ?_
    exact h
  | succ d ih =>
    intro i hd hi hn
    have hlt : i < s.size := by omega
    have hb := bt_list s i hlt
    refine Ev.step (fun k => by rw [heddleref31_Words.l0]) ?_
    refine Ev.pos (by omega) ?_
    refine Ev.pos (by omega) ?_
    by_cases h10 : bt s i = 10
    · refine Ev.pos h10 ?_
      have hm : (10 : UInt8) ∈ s.data.toList := by
        have e : s.data.toList[i]'(by simpa using hlt) = 10 := by
          apply UInt8.toNat_inj.1
          rw [hb] at h10
          have : (10 : UInt8).toNat = 10 := rfl
          omega
        rw [← e]
        exact List.getElem_mem _
      rw [if_pos hm]
      exact Ev.now _
    · refine Ev.neg h10 ?_
      rw [w64_1 (i := i) (by omega)]
      refine ih (i + 1) (by omega) (by omega) ?_
      rw [List.take_succ_eq_append_getElem (by simpa using hlt)]
      intro hm
      rcases List.mem_append.1 hm with hm | hm
      · exact hn hm
      · simp at hm
        apply h10
        rw [hb]
        simp
        rw [← hm]
        rfl

theorem words_alike (s : ByteArray) (hs : s.size ≤ 1048576) : ∃ R : List ByteArray × Int, Ev (fun k => shell_Words.f k s) R ∧ Ev (fun k => heddleref31_Words.f k s) R ∧ R.1.length ≤ 65536 := by
  unfold shell_Words.f heddleref31_Words.f
  by_cases hl : (s.size : Int) > 65536
  · exact ⟨([], 2), Ev.pos hl (Ev.now _), Ev.pos hl (Ev.now _), by simp⟩
  · obtain ⟨R, g1, g2, g3⟩ := words_both s (by omega) s.size 0 [] (by omega) (by omega) (by simp)
    have hc : strings_Contains.f s ⟨#[10]⟩ = some (decide (0 ≤ Lib.indexByte s.data.toList 10)) := rfl
    have sc := scan s (by omega) R g2 s.size 0 (by omega) (by omega) (by simp)
    by_cases hm : (10 : UInt8) ∈ s.data.toList
    · rw [if_pos hm] at sc
      refine ⟨([], 70), Ev.neg hl ?_, Ev.neg hl sc, by simp⟩
      rw [hc]
      simp only [(index_mem _ _).2 hm, decide_true, Option.bind_some, if_true]
      exact Ev.now _
    · rw [if_neg hm] at sc
      refine ⟨R, Ev.neg hl ?_, Ev.neg hl sc, by omega⟩
      rw [hc]
      have : ¬ 0 ≤ Lib.indexByte s.data.toList 10 := fun h => hm ((index_mem _ _).1 h)
      simp only [this, decide_false, Option.bind_some, Bool.false_eq_true, if_false]
      exact g1

theorem texts_refl (l : List ByteArray) (hl : l.length ≤ 1099511627776) : Ev (fun k => heddlelaw31_texts.f k l l) true := by
  have key : ∀ d i, l.length - i = d → i ≤ l.length → Ev (fun k => heddlelaw31_texts.l0 k l l (i : Int)) true := by
    intro d
    induction d with
    | zero =>
      intro i hd hi
      refine Ev.step (fun k => by rw [heddlelaw31_texts.l0]) ?_
      refine Ev.neg (by omega) ?_
      exact Ev.now _
    | succ d ih =>
      intro i hd hi
      refine Ev.step (fun k => by rw [heddlelaw31_texts.l0]) ?_
      refine Ev.pos (by omega) ?_
      refine Ev.pos (by omega) ?_
      refine Ev.pos (by omega) ?_
      refine Ev.pos rfl ?_
      rw [w64_1 (i := i) (by omega)]
      exact ih (i + 1) (by omega) (by omega)
  unfold heddlelaw31_texts.f
  refine Ev.pos rfl ?_
  exact key _ 0 rfl (Nat.zero_le _)

theorem worded : Ev (fun k => heddlelaw31_worded.f k) true := by
  have h : heddlelaw31_worded.f 60 = some true := by decide +kernel
  exact Ev.of heddlelaw31_worded.mono h

theorem sum_mem (l : List ByteArray) (i : Nat) (hi : i < l.length) : (l[i]'hi).size + 1 ≤ (l.map fun s => s.size + 1).sum := by
  induction l generalizing i with
  | nil => simp at hi
  | cons a l ih =>
    cases i with
    | zero => simp
    | succ i =>
      have := ih i (by simpa using hi)
      simp at this ⊢
      omega
theorem len_sum (l : List ByteArray) : l.length ≤ (l.map fun s => s.size + 1).sum := by
  induction l with
  | nil => simp
  | cons a l ih => simp at ih ⊢; omega

end Go.Proofs.Ytfdioplenkcahaa.PureFresh
