-- fits: as printed (x4), with a law for '>' on strings. PRINTED BY print.sh 35421559b90ae4d0a3588c463048766b98c2df88dd9212a6774a882060cdf62d: not written by this session
import Derived.Test.YtancenklmfamnaaPShelfKeepsx0
import Derived.Test.YtancenklmfamnaaPShelfKeepsx3
import Derived.Sort.Walk0
namespace Go.Proofs.Ytancenklmfamnaa.PShelfKeeps
open Go.RowKit Go.Proofs.YtancenklmfamnaaW.PrintWords Go.Proofs.YtancenklmfamnaaW.PrintLast Go.Proofs.YtancenklmfamnaaW.PrintMore
attribute [local go_sem] max2_int min2_int max_two min_two max_three min_three max_four min_four   -- for this text's walks alone
set_option linter.unusedVariables false
set_option linter.unusedSimpArgs false
theorem gtr_less (a b : List UInt8) : (!(Op.bytesLess a b || a == b)) = Op.bytesLess b a := by
  rw [Go.Proofs.bytesLess_eq, Go.Proofs.bytesLess_eq]
  by_cases h1 : a < b
  · have h2 : ¬ b < a := List.lt_asymm h1
    simp [h1, h2]
  · by_cases h2 : a = b
    · subst h2
      simp [List.lt_irrefl]
    · have h3 : b < a := by
        have := List.not_lt.1 h1
        rcases List.le_iff_lt_or_eq.1 this with h | h
        · exact h
        · exact absurd h.symm h2
      simp [h1, h2, h3]
theorem binOp_gtr_str (t : TypeId) (a b : ByteArray) : binOp .gtr t (.string a) (.string b) = pure (.bool (Op.bytesLess b.toList a.toList)) := by
  rw [← gtr_less]
  simp [binOp, Op.stringOp]
attribute [local go_sem] binOp_gtr_str

/-! ### heddlelaw27_fits: function 18 -/
mutual
def heddlelaw27_fits.l0 : Nat → List (S39) → Int → List (S55) → Int → Int → Option (Bool)
  | 0, _, _, _, _, _ => none
  | k + 1, x0, x1, x2, x7, x8 => if x8 < (x0.length : Int) then (if 0 ≤ x8 then (if x8 > 0 then (if 0 ≤ (wrap64 (x8 - 1)) then (if (wrap64 (x8 - 1)) < (x0.length : Int) then (if (Op.bytesLess (((rd_T39 x0 x8).f0).toList) (((rd_T39 x0 (wrap64 (x8 - 1))).f0).toList)) = true then (heddlelaw27_fits.j1 k x0 x1 x2 (wrap64 (x7 + ((rd_T39 x0 x8).f2))) x8 true) else (if ((rd_T39 x0 (wrap64 (x8 - 1))).f0).toList = ((rd_T39 x0 x8).f0).toList then (heddlelaw27_fits.j1 k x0 x1 x2 (wrap64 (x7 + ((rd_T39 x0 x8).f2))) x8 (decide (((rd_T39 x0 (wrap64 (x8 - 1))).f1) ≥ ((rd_T39 x0 x8).f1)))) else (heddlelaw27_fits.j1 k x0 x1 x2 (wrap64 (x7 + ((rd_T39 x0 x8).f2))) x8 false))) else (none)) else (none)) else (heddlelaw27_fits.j1 k x0 x1 x2 (wrap64 (x7 + ((rd_T39 x0 x8).f2))) x8 false)) else (none)) else (heddlelaw27_fits.l1 k x0 x1 x2 x7 0)
def heddlelaw27_fits.j1 : Nat → List (S39) → Int → List (S55) → Int → Int → Bool → Option (Bool)
  | 0, _, _, _, _, _, _ => none
  | k + 1, x0, x1, x2, x7, x8, x67 => if x67 = true then (some false) else (if 0 ≤ x8 then (if x8 < (x0.length : Int) then ((heddlelaw27_at.f k x2 ((rd_T39 x0 x8).f0) ((rd_T39 x0 x8).f1)).bind fun t123 => (if t123 < 0 then (some false) else (if 0 ≤ t123 then (if t123 < (x2.length : Int) then (if ((rd_T39 x0 x8).f2) = (((rd_T55 x2 t123).f2).length : Int) then (if ((rd_T39 x0 x8).f3) = ((rd_T55 x2 t123).f3) then (heddlelaw27_fits.l0 k x0 x1 x2 x7 (wrap64 (x8 + 1))) else (some false)) else (some false)) else (none)) else (none)))) else (none)) else (none))
def heddlelaw27_fits.l1 : Nat → List (S39) → Int → List (S55) → Int → Int → Option (Bool)
  | 0, _, _, _, _, _ => none
  | k + 1, x0, x1, x2, x7, x10 => if x10 < (x2.length : Int) then (if 0 ≤ x10 then (if ((rd_T55 x2 x10).f3) > 0 then ((heddlelaw27_there.f k x0 ((rd_T55 x2 x10).f0) ((rd_T55 x2 x10).f1)).bind fun t131 => (if t131 < 0 then (some false) else (heddlelaw27_fits.l1 k x0 x1 x2 x7 (wrap64 (x10 + 1))))) else (heddlelaw27_fits.l1 k x0 x1 x2 x7 (wrap64 (x10 + 1)))) else (none)) else (if x7 ≤ x1 then (some (decide ((x0.length : Int) ≤ 256))) else (some false))
end
def heddlelaw27_fits.f (k : Nat) (l0 : List (S39)) (a1 : Int) (l2 : List (S55)) : Option (Bool) := heddlelaw27_fits.l0 k l0 a1 l2 0 0
theorem heddlelaw27_fits.mono_l : ∀ k, (∀ y0 y1 y2 y3 y4, LeO (heddlelaw27_fits.l0 k y0 y1 y2 y3 y4) (heddlelaw27_fits.l0 (k + 1) y0 y1 y2 y3 y4)) ∧ (∀ y0 y1 y2 y3 y4 y5, LeO (heddlelaw27_fits.j1 k y0 y1 y2 y3 y4 y5) (heddlelaw27_fits.j1 (k + 1) y0 y1 y2 y3 y4 y5)) ∧ (∀ y0 y1 y2 y3 y4, LeO (heddlelaw27_fits.l1 k y0 y1 y2 y3 y4) (heddlelaw27_fits.l1 (k + 1) y0 y1 y2 y3 y4))
  | 0 => ⟨fun _ _ _ _ _ r h => by simp [heddlelaw27_fits.l0] at h, fun _ _ _ _ _ _ r h => by simp [heddlelaw27_fits.j1] at h, fun _ _ _ _ _ r h => by simp [heddlelaw27_fits.l1] at h⟩
  | k + 1 => by
    obtain ⟨ih0, ih1, ih2⟩ := heddlelaw27_fits.mono_l k
    refine ⟨?_, ?_, ?_⟩
    · intro y0 y1 y2 y3 y4
      unfold heddlelaw27_fits.l0
      repeat' first
      | (with_reducible exact ih0 _ _ _ _ _)
      | (with_reducible exact ih1 _ _ _ _ _ _)
      | (with_reducible exact ih2 _ _ _ _ _)
      | (with_reducible exact heddlelaw27_at.mono _ _ _ _)
      | (with_reducible exact heddlelaw27_there.mono _ _ _ _)
      | (with_reducible exact LeO.refl _)
      | (with_reducible exact LeO.none _)
      | (with_reducible refine LeO.ite ?_ ?_)
      | (with_reducible refine LeO.bind ?_ (fun _ => ?_))
      | exact ih0 _ _ _ _ _
      | exact ih1 _ _ _ _ _ _
      | exact ih2 _ _ _ _ _
      | exact heddlelaw27_at.mono _ _ _ _
      | exact heddlelaw27_there.mono _ _ _ _
      | exact LeO.none _
      | refine LeO.ite ?_ ?_
      | refine LeO.bind ?_ (fun _ => ?_)
    · intro y0 y1 y2 y3 y4 y5
      unfold heddlelaw27_fits.j1
      repeat' first
      | (with_reducible exact ih0 _ _ _ _ _)
      | (with_reducible exact ih1 _ _ _ _ _ _)
      | (with_reducible exact ih2 _ _ _ _ _)
      | (with_reducible exact heddlelaw27_at.mono _ _ _ _)
      | (with_reducible exact heddlelaw27_there.mono _ _ _ _)
      | (with_reducible exact LeO.refl _)
      | (with_reducible exact LeO.none _)
      | (with_reducible refine LeO.ite ?_ ?_)
      | (with_reducible refine LeO.bind ?_ (fun _ => ?_))
      | exact ih0 _ _ _ _ _
      | exact ih1 _ _ _ _ _ _
      | exact ih2 _ _ _ _ _
      | exact heddlelaw27_at.mono _ _ _ _
      | exact heddlelaw27_there.mono _ _ _ _
      | exact LeO.none _
      | refine LeO.ite ?_ ?_
      | refine LeO.bind ?_ (fun _ => ?_)
    · intro y0 y1 y2 y3 y4
      unfold heddlelaw27_fits.l1
      repeat' first
      | (with_reducible exact ih0 _ _ _ _ _)
      | (with_reducible exact ih1 _ _ _ _ _ _)
      | (with_reducible exact ih2 _ _ _ _ _)
      | (with_reducible exact heddlelaw27_at.mono _ _ _ _)
      | (with_reducible exact heddlelaw27_there.mono _ _ _ _)
      | (with_reducible exact LeO.refl _)
      | (with_reducible exact LeO.none _)
      | (with_reducible refine LeO.ite ?_ ?_)
      | (with_reducible refine LeO.bind ?_ (fun _ => ?_))
      | exact ih0 _ _ _ _ _
      | exact ih1 _ _ _ _ _ _
      | exact ih2 _ _ _ _ _
      | exact heddlelaw27_at.mono _ _ _ _
      | exact heddlelaw27_there.mono _ _ _ _
      | exact LeO.none _
      | refine LeO.ite ?_ ?_
      | refine LeO.bind ?_ (fun _ => ?_)
theorem heddlelaw27_fits.mono : ∀ a0 a1 a2 k, LeO (heddlelaw27_fits.f k a0 a1 a2) (heddlelaw27_fits.f (k + 1) a0 a1 a2) := by
  intro a0 a1 a2 k
  obtain ⟨ih0, ih1, ih2⟩ := heddlelaw27_fits.mono_l k
  unfold heddlelaw27_fits.f
  repeat' first
      | (with_reducible exact ih0 _ _ _ _ _)
      | (with_reducible exact ih1 _ _ _ _ _ _)
      | (with_reducible exact ih2 _ _ _ _ _)
      | (with_reducible exact heddlelaw27_at.mono _ _ _ _)
      | (with_reducible exact heddlelaw27_there.mono _ _ _ _)
      | (with_reducible exact LeO.refl _)
      | (with_reducible exact LeO.none _)
      | (with_reducible refine LeO.ite ?_ ?_)
      | (with_reducible refine LeO.bind ?_ (fun _ => ?_))
      | exact ih0 _ _ _ _ _
      | exact ih1 _ _ _ _ _ _
      | exact ih2 _ _ _ _ _
      | exact heddlelaw27_at.mono _ _ _ _
      | exact heddlelaw27_there.mono _ _ _ _
      | exact LeO.none _
      | refine LeO.ite ?_ ?_
      | refine LeO.bind ?_ (fun _ => ?_)
set_option maxHeartbeats 8000000 in
set_option maxRecDepth 100000 in
theorem heddlelaw27_fits.calls (k : Nat) (A0 : Option Addr) (c0 : Nat) (l0 : List (S39)) (a1 : Int) (A2 : Option Addr) (c2 : Nat) (l2 : List (S55)) (r : Bool) (w : World) (hr0 : Kd.C k39 w A0 l0.length l0) (hc0 : l0.length ≤ c0) (hr2 : Kd.C k55 w A2 l2.length l2) (hc2 : l2.length ≤ c2) (h : heddlelaw27_fits.f k l0 a1 l2 = some r) :
    Calls Try.prog 18 #[.slice A0 l0.length c0, .int .i64 a1, .slice A2 l2.length c2] w fun e w' => e = .returned (.bool r) ∧ Drawn0 w w' := by
  have HR0 := Aside0.mk hr0
  have HC0 := Aside0.mk hc0
  clear hr0 hc0
  have HR2 := Aside0.mk hr2
  have HC2 := Aside0.mk hc2
  clear hr2 hc2
  have H : (heddlelaw27_fits.l0 k l0 a1 l2 0 0) = some r := h
  clear h
  have H' := Aside0.mk H
  clear H
  go_enter Try.func18, Try.ntmps18
  go_wp2
  repeat (go_quiet (fail); try go_wp2)
  go_loopg [7, 8] k (fun kq v7 v8 w' => ∃ (x7_1 : Int) (x8_1 : Int), v7 = .int .i64 x7_1 ∧ v8 = .int .i64 x8_1 ∧ Aside0 (heddlelaw27_fits.l0 kq l0 a1 l2 x7_1 x8_1 = some r) ∧ Aside0 (kq ≤ k) ∧ Drawn0 w w')
  case atStart => exact ⟨(0), (0), (by first | rfl | (simp; done) | (simp [*]; done)), (by first | rfl | (simp; done) | (simp [*]; done)), H', ⟨Nat.le_refl _⟩, by repeat (first | exact Drawn0.refl _ | apply Drawn0.step)⟩
  case round =>
    clear H'
    try clear c1
    try clear c2
    try clear p2
    obtain ⟨x7_1, x8_1, rfl, rfl, HA, HK1, ⟨m1, rfl⟩⟩ := hrel
    cases gk with
    | zero => exact absurd HA.out (by simp [heddlelaw27_fits.l0])
    | succ k1 =>
      have H := HA.out
      clear HA
      simp only [heddlelaw27_fits.l0] at H
      by_cases c4 : x8_1 < (l0.length : Int)
      · rw [if_pos c4] at H
        have c4b0 : decide (x8_1 < (l0.length : Int)) = true := decide_eq_true c4
        clear c4
        by_cases c5 : 0 ≤ x8_1
        · rw [if_pos c5] at H
          have c5b0 : decide (0 ≤ x8_1) = true := decide_eq_true c5
          clear c5
          have HC6 := Aside0.mk H
          clear H
          have p114 : 0 ≤ (x8_1 : Int) := of_decide_eq_true (by first | (with_reducible assumption) | assumption)
          have q114 : x8_1 < (l0.length : Int) := of_decide_eq_true (by first | (with_reducible assumption) | assumption)
          obtain ⟨ad114, e114, hx114_0, hx114_1, hx114_2, hx114_3⟩ := at_T39 HR0.out x8_1 p114 q114
          cases e114
          replace p114 := eq_true p114
          replace q114 := eq_true q114
          go_upto_region 6 with (fail)
          repeat (go_quiet (fail); go_upto_region 6 with (fail))
          go_cut [67] (fun v67 wc => ∃ (kq : Nat) (x67_5 : Bool), v67 = .bool x67_5 ∧ Aside0 (heddlelaw27_fits.j1 kq l0 a1 l2 (wrap64 (x7_1 + ((rd_T39 l0 x8_1).f2))) x8_1 x67_5 = some r) ∧ Aside0 (kq ≤ k1) ∧ Drawn0 w wc)
          case first =>
            have H := HC6.out
            clear HC6
            by_cases c7 : x8_1 > 0
            · rw [if_pos c7] at H
              have c7b0 : decide (0 < x8_1) = true := decide_eq_true c7
              clear c7
              (first | rw [c7b0] | (simp only [i64_w, i32_w]; rw [c7b0]) | skip)
              obtain ⟨ji8, hji8⟩ : ∃ j_ : Int, (wrap64 (x8_1 - 1)) = j_ := ⟨_, rfl⟩
              replace H : (if 0 ≤ (ji8) then (if (ji8) < (l0.length : Int) then (if (Op.bytesLess (((rd_T39 l0 x8_1).f0).toList) (((rd_T39 l0 (ji8)).f0).toList)) = true then (heddlelaw27_fits.j1 k1 l0 a1 l2 (wrap64 (x7_1 + ((rd_T39 l0 x8_1).f2))) x8_1 true) else (if ((rd_T39 l0 (ji8)).f0).toList = ((rd_T39 l0 x8_1).f0).toList then (heddlelaw27_fits.j1 k1 l0 a1 l2 (wrap64 (x7_1 + ((rd_T39 l0 x8_1).f2))) x8_1 (decide (((rd_T39 l0 (ji8)).f1) ≥ ((rd_T39 l0 x8_1).f1)))) else (heddlelaw27_fits.j1 k1 l0 a1 l2 (wrap64 (x7_1 + ((rd_T39 l0 x8_1).f2))) x8_1 false))) else (none)) else (none)) = some r := by first | (rw [hji8] at H; exact H) | (simp only [hji8] at H ⊢; exact H)
              have hji8w : (IntKind.i64.wrap (x8_1 - 1)) = ji8 := (i64_w _).trans hji8
              by_cases c9 : 0 ≤ (ji8)
              · rw [if_pos c9] at H
                have c9b0 : decide (0 ≤ (ji8)) = true := decide_eq_true c9
                clear c9
                by_cases c10 : (ji8) < (l0.length : Int)
                · rw [if_pos c10] at H
                  have c10b0 : decide ((ji8) < (l0.length : Int)) = true := decide_eq_true c10
                  clear c10
                  by_cases c11 : (Op.bytesLess (((rd_T39 l0 x8_1).f0).toList) (((rd_T39 l0 (ji8)).f0).toList)) = true
                  · rw [if_pos c11] at H
                    have c11b0 : (Op.bytesLess (((rd_T39 l0 x8_1).f0).toList) (((rd_T39 l0 (ji8)).f0).toList)) = true := c11
                    clear c11
                    have H' := Aside0.mk H
                    clear H
                    have p115 : 0 ≤ ((ji8) : Int) := of_decide_eq_true (by first | (with_reducible assumption) | assumption)
                    have q115 : (ji8) < (l0.length : Int) := of_decide_eq_true (by first | (with_reducible assumption) | assumption)
                    obtain ⟨ad115, e115, hx115_0, hx115_1, hx115_2, hx115_3⟩ := at_T39 HR0.out (ji8) p115 q115
                    obtain rfl : ad114 = ad115 := (by injection e115)
                    replace p115 := eq_true p115
                    replace q115 := eq_true q115
                    have p116 : 0 ≤ (x8_1 : Int) := of_decide_eq_true (by first | (with_reducible assumption) | assumption)
                    have q116 : x8_1 < (l0.length : Int) := of_decide_eq_true (by first | (with_reducible assumption) | assumption)
                    obtain ⟨ad116, e116, hx116_0, hx116_1, hx116_2, hx116_3⟩ := at_T39 HR0.out x8_1 p116 q116
                    obtain rfl : ad114 = ad116 := (by injection e116)
                    replace p116 := eq_true p116
                    replace q116 := eq_true q116
                    go_wp2
                    repeat (go_quiet (fail); try go_wp2)
                    go_meet
                    case rel => exact ⟨_, (true), (by first | rfl | (simp; done) | (simp [*]; done)), H', ⟨by have := HK1.out; first | omega | exact Nat.le_refl _⟩, by repeat (first | exact Drawn0.refl _ | apply Drawn0.step)⟩
                  · rw [if_neg c11] at H
                    have c11b0 : (Op.bytesLess (((rd_T39 l0 x8_1).f0).toList) (((rd_T39 l0 (ji8)).f0).toList)) = false := by simpa using c11
                    clear c11
                    by_cases c12 : ((rd_T39 l0 (ji8)).f0).toList = ((rd_T39 l0 x8_1).f0).toList
                    · rw [if_pos c12] at H
                      have c12b0 : (((rd_T39 l0 (ji8)).f0).toList == ((rd_T39 l0 x8_1).f0).toList) = true := beq_iff_eq.mpr c12
                      have c12b1 : (((rd_T39 l0 (ji8)).f0).toList != ((rd_T39 l0 x8_1).f0).toList) = false := bne_eq_false_iff_eq.mpr c12
                      clear c12
                      have H' := Aside0.mk H
                      clear H
                      have p115 : 0 ≤ ((ji8) : Int) := of_decide_eq_true (by first | (with_reducible assumption) | assumption)
                      have q115 : (ji8) < (l0.length : Int) := of_decide_eq_true (by first | (with_reducible assumption) | assumption)
                      obtain ⟨ad115, e115, hx115_0, hx115_1, hx115_2, hx115_3⟩ := at_T39 HR0.out (ji8) p115 q115
                      obtain rfl : ad114 = ad115 := (by injection e115)
                      replace p115 := eq_true p115
                      replace q115 := eq_true q115
                      have p116 : 0 ≤ (x8_1 : Int) := of_decide_eq_true (by first | (with_reducible assumption) | assumption)
                      have q116 : x8_1 < (l0.length : Int) := of_decide_eq_true (by first | (with_reducible assumption) | assumption)
                      obtain ⟨ad116, e116, hx116_0, hx116_1, hx116_2, hx116_3⟩ := at_T39 HR0.out x8_1 p116 q116
                      obtain rfl : ad114 = ad116 := (by injection e116)
                      replace p116 := eq_true p116
                      replace q116 := eq_true q116
                      have p117 : 0 ≤ ((ji8) : Int) := of_decide_eq_true (by first | (with_reducible assumption) | assumption)
                      have q117 : (ji8) < (l0.length : Int) := of_decide_eq_true (by first | (with_reducible assumption) | assumption)
                      obtain ⟨ad117, e117, hx117_0, hx117_1, hx117_2, hx117_3⟩ := at_T39 HR0.out (ji8) p117 q117
                      obtain rfl : ad114 = ad117 := (by injection e117)
                      replace p117 := eq_true p117
                      replace q117 := eq_true q117
                      have p118 : 0 ≤ (x8_1 : Int) := of_decide_eq_true (by first | (with_reducible assumption) | assumption)
                      have q118 : x8_1 < (l0.length : Int) := of_decide_eq_true (by first | (with_reducible assumption) | assumption)
                      obtain ⟨ad118, e118, hx118_0, hx118_1, hx118_2, hx118_3⟩ := at_T39 HR0.out x8_1 p118 q118
                      obtain rfl : ad114 = ad118 := (by injection e118)
                      replace p118 := eq_true p118
                      replace q118 := eq_true q118
                      have p119 : 0 ≤ ((ji8) : Int) := of_decide_eq_true (by first | (with_reducible assumption) | assumption)
                      have q119 : (ji8) < (l0.length : Int) := of_decide_eq_true (by first | (with_reducible assumption) | assumption)
                      obtain ⟨ad119, e119, hx119_0, hx119_1, hx119_2, hx119_3⟩ := at_T39 HR0.out (ji8) p119 q119
                      obtain rfl : ad114 = ad119 := (by injection e119)
                      replace p119 := eq_true p119
                      replace q119 := eq_true q119
                      have p120 : 0 ≤ (x8_1 : Int) := of_decide_eq_true (by first | (with_reducible assumption) | assumption)
                      have q120 : x8_1 < (l0.length : Int) := of_decide_eq_true (by first | (with_reducible assumption) | assumption)
                      obtain ⟨ad120, e120, hx120_0, hx120_1, hx120_2, hx120_3⟩ := at_T39 HR0.out x8_1 p120 q120
                      obtain rfl : ad114 = ad120 := (by injection e120)
                      replace p120 := eq_true p120
                      replace q120 := eq_true q120
                      go_wp2
                      repeat (go_quiet (fail); try go_wp2)
                      go_meet
                      case rel => exact ⟨_, (decide (((rd_T39 l0 (ji8)).f1) ≥ ((rd_T39 l0 x8_1).f1))), (by first | rfl | (simp; done) | (simp only [← hji8] <;> (first | rfl | simp)) | (simp [*]; done)), H', ⟨by have := HK1.out; first | omega | exact Nat.le_refl _⟩, by repeat (first | exact Drawn0.refl _ | apply Drawn0.step)⟩
                    · rw [if_neg c12] at H
                      have c12b0 : (((rd_T39 l0 (ji8)).f0).toList == ((rd_T39 l0 x8_1).f0).toList) = false := beq_eq_false_iff_ne.mpr c12
                      have c12b1 : (((rd_T39 l0 (ji8)).f0).toList != ((rd_T39 l0 x8_1).f0).toList) = true := bne_iff_ne.mpr c12
                      have H' := Aside0.mk H
                      clear H
                      have p115 : 0 ≤ ((ji8) : Int) := of_decide_eq_true (by first | (with_reducible assumption) | assumption)
                      have q115 : (ji8) < (l0.length : Int) := of_decide_eq_true (by first | (with_reducible assumption) | assumption)
                      obtain ⟨ad115, e115, hx115_0, hx115_1, hx115_2, hx115_3⟩ := at_T39 HR0.out (ji8) p115 q115
                      obtain rfl : ad114 = ad115 := (by injection e115)
                      replace p115 := eq_true p115
                      replace q115 := eq_true q115
                      have p116 : 0 ≤ (x8_1 : Int) := of_decide_eq_true (by first | (with_reducible assumption) | assumption)
                      have q116 : x8_1 < (l0.length : Int) := of_decide_eq_true (by first | (with_reducible assumption) | assumption)
                      obtain ⟨ad116, e116, hx116_0, hx116_1, hx116_2, hx116_3⟩ := at_T39 HR0.out x8_1 p116 q116
                      obtain rfl : ad114 = ad116 := (by injection e116)
                      replace p116 := eq_true p116
                      replace q116 := eq_true q116
                      have p117 : 0 ≤ ((ji8) : Int) := of_decide_eq_true (by first | (with_reducible assumption) | assumption)
                      have q117 : (ji8) < (l0.length : Int) := of_decide_eq_true (by first | (with_reducible assumption) | assumption)
                      obtain ⟨ad117, e117, hx117_0, hx117_1, hx117_2, hx117_3⟩ := at_T39 HR0.out (ji8) p117 q117
                      obtain rfl : ad114 = ad117 := (by injection e117)
                      replace p117 := eq_true p117
                      replace q117 := eq_true q117
                      have p118 : 0 ≤ (x8_1 : Int) := of_decide_eq_true (by first | (with_reducible assumption) | assumption)
                      have q118 : x8_1 < (l0.length : Int) := of_decide_eq_true (by first | (with_reducible assumption) | assumption)
                      obtain ⟨ad118, e118, hx118_0, hx118_1, hx118_2, hx118_3⟩ := at_T39 HR0.out x8_1 p118 q118
                      obtain rfl : ad114 = ad118 := (by injection e118)
                      replace p118 := eq_true p118
                      replace q118 := eq_true q118
                      go_wp2
                      repeat (go_quiet (fail); try go_wp2)
                      go_meet
                      case rel => exact ⟨_, (false), (by first | rfl | (simp; done) | (simp [*]; done)), H', ⟨by have := HK1.out; first | omega | exact Nat.le_refl _⟩, by repeat (first | exact Drawn0.refl _ | apply Drawn0.step)⟩
                · rw [if_neg c10] at H
                  exact absurd H (by simp)
              · rw [if_neg c9] at H
                exact absurd H (by simp)
            · rw [if_neg c7] at H
              have c7b0 : decide (0 < x8_1) = false := decide_eq_false c7
              clear c7
              (first | rw [c7b0] | (simp only [i64_w, i32_w]; rw [c7b0]) | skip)
              have H' := Aside0.mk H
              clear H
              go_wp2
              repeat (go_quiet (fail); try go_wp2)
              go_meet
              case rel => exact ⟨_, (false), (by first | rfl | (simp; done) | (simp [*]; done)), H', ⟨by have := HK1.out; first | omega | exact Nat.le_refl _⟩, by repeat (first | exact Drawn0.refl _ | apply Drawn0.step)⟩
          case rest =>
            clear HC6
            try clear c1
            try clear p1
            try clear q1
            try clear hx1
            try clear c2
            try clear p2
            try clear c4
            try clear c4b0
            try clear c5
            try clear c5b0
            try clear p6
            try clear c7
            try clear c7b0
            try clear c9
            try clear c9b0
            try clear c10
            try clear c10b0
            try clear c11
            try clear c11b0
            try clear p11
            try clear q11
            try clear hx11
            try clear c12
            try clear c12b0
            try clear c12b1
            try clear p12
            try clear q12
            try clear hx12
            try clear hx114_0
            try clear hx114_1
            try clear hx114_2
            try clear hx114_3
            try clear hx115_0
            try clear hx115_1
            try clear hx115_2
            try clear hx115_3
            try clear hx116_0
            try clear hx116_1
            try clear hx116_2
            try clear hx116_3
            try clear hx117_0
            try clear hx117_1
            try clear hx117_2
            try clear hx117_3
            try clear hx118_0
            try clear hx118_1
            try clear hx118_2
            try clear hx118_3
            try clear hx119_0
            try clear hx119_1
            try clear hx119_2
            try clear hx119_3
            try clear hx120_0
            try clear hx120_1
            try clear hx120_2
            try clear hx120_3
            try clear p114
            try clear p115
            try clear p116
            try clear p117
            try clear p118
            try clear p119
            try clear p120
            try clear p2
            try clear q114
            try clear q115
            try clear q116
            try clear q117
            try clear q118
            try clear q119
            try clear q120
            obtain ⟨kq, x67_5, rfl, HA, HJ5, ⟨mc5, rfl⟩⟩ := hcut
            cases kq with
            | zero => exact absurd HA.out (by simp [heddlelaw27_fits.j1])
            | succ kj5 =>
              have H := HA.out
              clear HA
              simp only [heddlelaw27_fits.j1] at H
              by_cases c13 : x67_5 = true
              · subst c13
                have H1 : (some false) = some r := by rw [if_pos rfl] at H; exact H
                clear H
                have H := H1
                clear H1
                obtain rfl := Option.some.inj H
                go_wp2
                repeat (go_quiet (fail); try go_wp2)
                go_ret
                exact ⟨by first | rfl | (simp; done) | (simp [*]; done), by repeat (first | exact Drawn0.refl _ | apply Drawn0.step)⟩
              · replace c13 := Bool.eq_false_iff.mpr c13
                subst c13
                have H1 : (if 0 ≤ x8_1 then (if x8_1 < (l0.length : Int) then ((heddlelaw27_at.f kj5 l2 ((rd_T39 l0 x8_1).f0) ((rd_T39 l0 x8_1).f1)).bind fun t123 => (if t123 < 0 then (some false) else (if 0 ≤ t123 then (if t123 < (l2.length : Int) then (if ((rd_T39 l0 x8_1).f2) = (((rd_T55 l2 t123).f2).length : Int) then (if ((rd_T39 l0 x8_1).f3) = ((rd_T55 l2 t123).f3) then (heddlelaw27_fits.l0 kj5 l0 a1 l2 (wrap64 (x7_1 + ((rd_T39 l0 x8_1).f2))) (wrap64 (x8_1 + 1))) else (some false)) else (some false)) else (none)) else (none)))) else (none)) else (none)) = some r := by rw [if_neg (show ¬ (false = true) by decide)] at H; exact H
                clear H
                have H := H1
                clear H1
                by_cases c14 : 0 ≤ x8_1
                · rw [if_pos c14] at H
                  have c14b0 : decide (0 ≤ x8_1) = true := decide_eq_true c14
                  clear c14
                  by_cases c15 : x8_1 < (l0.length : Int)
                  · rw [if_pos c15] at H
                    have c15b0 : decide (x8_1 < (l0.length : Int)) = true := decide_eq_true c15
                    clear c15
                    replace H := Option.bind_eq_some_iff.mp H
                    obtain ⟨t123, A160, H⟩ := H
                    replace H : (if t123 < 0 then (some false) else (if 0 ≤ t123 then (if t123 < (l2.length : Int) then (if ((rd_T39 l0 x8_1).f2) = (((rd_T55 l2 t123).f2).length : Int) then (if ((rd_T39 l0 x8_1).f3) = ((rd_T55 l2 t123).f3) then (heddlelaw27_fits.l0 kj5 l0 a1 l2 (wrap64 (x7_1 + ((rd_T39 l0 x8_1).f2))) (wrap64 (x8_1 + 1))) else (some false)) else (some false)) else (none)) else (none))) = some r := H
                    have A16 := Aside0.mk A160
                    clear A160
                    by_cases c17 : t123 < 0
                    · rw [if_pos c17] at H
                      have c17b0 : decide (t123 < 0) = true := decide_eq_true c17
                      clear c17
                      obtain rfl := Option.some.inj H
                      have p121 : 0 ≤ (x8_1 : Int) := of_decide_eq_true (by first | (with_reducible assumption) | assumption)
                      have q121 : x8_1 < (l0.length : Int) := of_decide_eq_true (by first | (with_reducible assumption) | assumption)
                      obtain ⟨ad121, e121, hx121_0, hx121_1, hx121_2, hx121_3⟩ := at_T39 HR0.out x8_1 p121 q121
                      obtain rfl : ad114 = ad121 := (by injection e121)
                      replace p121 := eq_true p121
                      replace q121 := eq_true q121
                      have p122 : 0 ≤ (x8_1 : Int) := of_decide_eq_true (by first | (with_reducible assumption) | assumption)
                      have q122 : x8_1 < (l0.length : Int) := of_decide_eq_true (by first | (with_reducible assumption) | assumption)
                      obtain ⟨ad122, e122, hx122_0, hx122_1, hx122_2, hx122_3⟩ := at_T39 HR0.out x8_1 p122 q122
                      obtain rfl : ad114 = ad122 := (by injection e122)
                      replace p122 := eq_true p122
                      replace q122 := eq_true q122
                      go_wp2_with (first | (go_at_call 16; (with_reducible refine (heddlelaw27_at.calls kj5 _ _ l2 ((rd_T39 l0 x8_1).f0) ((rd_T39 l0 x8_1).f1) t123 _ ?side1 ?side2 A16.out).mono ?_); (case side1 => repeat (first | exact HR2.out | (with_reducible refine Kd.C_alloc ?_ _) | (with_reducible refine Kd.C_drewN ?_ _) | (with_reducible refine Kd.C_drew ?_))); (case side2 => exact HC2.out); rintro e w' ⟨rfl, ⟨nd, rfl⟩⟩; (try first | exact ⟨rfl, _, World.drewN_drewN _ _ _⟩ | exact ⟨rfl, _, Eq.trans (World.drewN_drewN _ _ _) (congrArg (World.drewN _) (Nat.add_assoc _ _ _))⟩)))
                      repeat (go_quiet (first | (go_at_call 16; (with_reducible refine (heddlelaw27_at.calls kj5 _ _ l2 ((rd_T39 l0 x8_1).f0) ((rd_T39 l0 x8_1).f1) t123 _ ?side1 ?side2 A16.out).mono ?_); (case side1 => repeat (first | exact HR2.out | (with_reducible refine Kd.C_alloc ?_ _) | (with_reducible refine Kd.C_drewN ?_ _) | (with_reducible refine Kd.C_drew ?_))); (case side2 => exact HC2.out); rintro e w' ⟨rfl, ⟨nd, rfl⟩⟩; (try first | exact ⟨rfl, _, World.drewN_drewN _ _ _⟩ | exact ⟨rfl, _, Eq.trans (World.drewN_drewN _ _ _) (congrArg (World.drewN _) (Nat.add_assoc _ _ _))⟩))); try go_wp2_with (first | (go_at_call 16; (with_reducible refine (heddlelaw27_at.calls kj5 _ _ l2 ((rd_T39 l0 x8_1).f0) ((rd_T39 l0 x8_1).f1) t123 _ ?side1 ?side2 A16.out).mono ?_); (case side1 => repeat (first | exact HR2.out | (with_reducible refine Kd.C_alloc ?_ _) | (with_reducible refine Kd.C_drewN ?_ _) | (with_reducible refine Kd.C_drew ?_))); (case side2 => exact HC2.out); rintro e w' ⟨rfl, ⟨nd, rfl⟩⟩; (try first | exact ⟨rfl, _, World.drewN_drewN _ _ _⟩ | exact ⟨rfl, _, Eq.trans (World.drewN_drewN _ _ _) (congrArg (World.drewN _) (Nat.add_assoc _ _ _))⟩))))
                      go_ret
                      exact ⟨by first | rfl | (simp; done) | (simp [*]; done), by repeat (first | exact Drawn0.refl _ | apply Drawn0.step)⟩
                    · rw [if_neg c17] at H
                      have c17b0 : decide (t123 < 0) = false := decide_eq_false c17
                      clear c17
                      by_cases c18 : 0 ≤ t123
                      · rw [if_pos c18] at H
                        have c18b0 : decide (0 ≤ t123) = true := decide_eq_true c18
                        clear c18
                        by_cases c19 : t123 < (l2.length : Int)
                        · rw [if_pos c19] at H
                          have c19b0 : decide (t123 < (l2.length : Int)) = true := decide_eq_true c19
                          clear c19
                          by_cases c20 : ((rd_T39 l0 x8_1).f2) = (((rd_T55 l2 t123).f2).length : Int)
                          · rw [if_pos c20] at H
                            have c20b0 : (((rd_T39 l0 x8_1).f2) == (((rd_T55 l2 t123).f2).length : Int)) = true := beq_iff_eq.mpr c20
                            have c20b1 : (((rd_T39 l0 x8_1).f2) != (((rd_T55 l2 t123).f2).length : Int)) = false := bne_eq_false_iff_eq.mpr c20
                            clear c20
                            by_cases c21 : ((rd_T39 l0 x8_1).f3) = ((rd_T55 l2 t123).f3)
                            · rw [if_pos c21] at H
                              have c21b0 : (((rd_T39 l0 x8_1).f3) == ((rd_T55 l2 t123).f3)) = true := beq_iff_eq.mpr c21
                              have c21b1 : (((rd_T39 l0 x8_1).f3) != ((rd_T55 l2 t123).f3)) = false := bne_eq_false_iff_eq.mpr c21
                              clear c21
                              have H' := Aside0.mk H
                              clear H
                              have p121 : 0 ≤ (x8_1 : Int) := of_decide_eq_true (by first | (with_reducible assumption) | assumption)
                              have q121 : x8_1 < (l0.length : Int) := of_decide_eq_true (by first | (with_reducible assumption) | assumption)
                              obtain ⟨ad121, e121, hx121_0, hx121_1, hx121_2, hx121_3⟩ := at_T39 HR0.out x8_1 p121 q121
                              obtain rfl : ad114 = ad121 := (by injection e121)
                              replace p121 := eq_true p121
                              replace q121 := eq_true q121
                              have p122 : 0 ≤ (x8_1 : Int) := of_decide_eq_true (by first | (with_reducible assumption) | assumption)
                              have q122 : x8_1 < (l0.length : Int) := of_decide_eq_true (by first | (with_reducible assumption) | assumption)
                              obtain ⟨ad122, e122, hx122_0, hx122_1, hx122_2, hx122_3⟩ := at_T39 HR0.out x8_1 p122 q122
                              obtain rfl : ad114 = ad122 := (by injection e122)
                              replace p122 := eq_true p122
                              replace q122 := eq_true q122
                              go_wp2_with (first | (go_at_call 16; (with_reducible refine (heddlelaw27_at.calls kj5 _ _ l2 ((rd_T39 l0 x8_1).f0) ((rd_T39 l0 x8_1).f1) t123 _ ?side1 ?side2 A16.out).mono ?_); (case side1 => repeat (first | exact HR2.out | (with_reducible refine Kd.C_alloc ?_ _) | (with_reducible refine Kd.C_drewN ?_ _) | (with_reducible refine Kd.C_drew ?_))); (case side2 => exact HC2.out); rintro e w' ⟨rfl, ⟨nd, rfl⟩⟩; (try first | exact ⟨rfl, _, World.drewN_drewN _ _ _⟩ | exact ⟨rfl, _, Eq.trans (World.drewN_drewN _ _ _) (congrArg (World.drewN _) (Nat.add_assoc _ _ _))⟩); have p124 : 0 ≤ (x8_1 : Int) := of_decide_eq_true (by first | (with_reducible assumption) | assumption); have q124 : x8_1 < (l0.length : Int) := of_decide_eq_true (by first | (with_reducible assumption) | assumption); obtain ⟨ad124, e124, hx124_0, hx124_1, hx124_2, hx124_3⟩ := at_T39 HR0.out x8_1 p124 q124; obtain rfl : ad114 = ad124 := (by injection e124); replace p124 := eq_true p124; replace q124 := eq_true q124; have p125 : 0 ≤ (t123 : Int) := of_decide_eq_true (by first | (with_reducible assumption) | assumption); have q125 : t123 < (l2.length : Int) := of_decide_eq_true (by first | (with_reducible assumption) | assumption); obtain ⟨ad125, A125_2, c125_2, e125, hx125_0, hx125_1, hx125_2, hx125_3, hl125_2, hi125_2⟩ := at_T55 HR2.out t123 p125 q125; cases e125; have HR125_2 := Aside0.mk hi125_2; have HC125_2 := Aside0.mk hl125_2; clear hi125_2 hl125_2; replace p125 := eq_true p125; replace q125 := eq_true q125; have p126 : 0 ≤ (x8_1 : Int) := of_decide_eq_true (by first | (with_reducible assumption) | assumption); have q126 : x8_1 < (l0.length : Int) := of_decide_eq_true (by first | (with_reducible assumption) | assumption); obtain ⟨ad126, e126, hx126_0, hx126_1, hx126_2, hx126_3⟩ := at_T39 HR0.out x8_1 p126 q126; obtain rfl : ad114 = ad126 := (by injection e126); replace p126 := eq_true p126; replace q126 := eq_true q126; have p127 : 0 ≤ (t123 : Int) := of_decide_eq_true (by first | (with_reducible assumption) | assumption); have q127 : t123 < (l2.length : Int) := of_decide_eq_true (by first | (with_reducible assumption) | assumption); obtain ⟨ad127, A127_2, c127_2, e127, hx127_0, hx127_1, hx127_2, hx127_3, hl127_2, hi127_2⟩ := at_T55 HR2.out t123 p127 q127; obtain rfl : ad125 = ad127 := (by injection e127); have HR127_2 := Aside0.mk hi127_2; have HC127_2 := Aside0.mk hl127_2; clear hi127_2 hl127_2; replace p127 := eq_true p127; replace q127 := eq_true q127; have ea_ := Option.some.inj (hx125_2.symm.trans hx127_2); injection ea_ with ea_ en_ ec_; subst ea_; subst ec_; clear en_))
                              repeat (go_quiet (first | (go_at_call 16; (with_reducible refine (heddlelaw27_at.calls kj5 _ _ l2 ((rd_T39 l0 x8_1).f0) ((rd_T39 l0 x8_1).f1) t123 _ ?side1 ?side2 A16.out).mono ?_); (case side1 => repeat (first | exact HR2.out | (with_reducible refine Kd.C_alloc ?_ _) | (with_reducible refine Kd.C_drewN ?_ _) | (with_reducible refine Kd.C_drew ?_))); (case side2 => exact HC2.out); rintro e w' ⟨rfl, ⟨nd, rfl⟩⟩; (try first | exact ⟨rfl, _, World.drewN_drewN _ _ _⟩ | exact ⟨rfl, _, Eq.trans (World.drewN_drewN _ _ _) (congrArg (World.drewN _) (Nat.add_assoc _ _ _))⟩); have p124 : 0 ≤ (x8_1 : Int) := of_decide_eq_true (by first | (with_reducible assumption) | assumption); have q124 : x8_1 < (l0.length : Int) := of_decide_eq_true (by first | (with_reducible assumption) | assumption); obtain ⟨ad124, e124, hx124_0, hx124_1, hx124_2, hx124_3⟩ := at_T39 HR0.out x8_1 p124 q124; obtain rfl : ad114 = ad124 := (by injection e124); replace p124 := eq_true p124; replace q124 := eq_true q124; have p125 : 0 ≤ (t123 : Int) := of_decide_eq_true (by first | (with_reducible assumption) | assumption); have q125 : t123 < (l2.length : Int) := of_decide_eq_true (by first | (with_reducible assumption) | assumption); obtain ⟨ad125, A125_2, c125_2, e125, hx125_0, hx125_1, hx125_2, hx125_3, hl125_2, hi125_2⟩ := at_T55 HR2.out t123 p125 q125; cases e125; have HR125_2 := Aside0.mk hi125_2; have HC125_2 := Aside0.mk hl125_2; clear hi125_2 hl125_2; replace p125 := eq_true p125; replace q125 := eq_true q125; have p126 : 0 ≤ (x8_1 : Int) := of_decide_eq_true (by first | (with_reducible assumption) | assumption); have q126 : x8_1 < (l0.length : Int) := of_decide_eq_true (by first | (with_reducible assumption) | assumption); obtain ⟨ad126, e126, hx126_0, hx126_1, hx126_2, hx126_3⟩ := at_T39 HR0.out x8_1 p126 q126; obtain rfl : ad114 = ad126 := (by injection e126); replace p126 := eq_true p126; replace q126 := eq_true q126; have p127 : 0 ≤ (t123 : Int) := of_decide_eq_true (by first | (with_reducible assumption) | assumption); have q127 : t123 < (l2.length : Int) := of_decide_eq_true (by first | (with_reducible assumption) | assumption); obtain ⟨ad127, A127_2, c127_2, e127, hx127_0, hx127_1, hx127_2, hx127_3, hl127_2, hi127_2⟩ := at_T55 HR2.out t123 p127 q127; obtain rfl : ad125 = ad127 := (by injection e127); have HR127_2 := Aside0.mk hi127_2; have HC127_2 := Aside0.mk hl127_2; clear hi127_2 hl127_2; replace p127 := eq_true p127; replace q127 := eq_true q127; have ea_ := Option.some.inj (hx125_2.symm.trans hx127_2); injection ea_ with ea_ en_ ec_; subst ea_; subst ec_; clear en_)); try go_wp2_with (first | (go_at_call 16; (with_reducible refine (heddlelaw27_at.calls kj5 _ _ l2 ((rd_T39 l0 x8_1).f0) ((rd_T39 l0 x8_1).f1) t123 _ ?side1 ?side2 A16.out).mono ?_); (case side1 => repeat (first | exact HR2.out | (with_reducible refine Kd.C_alloc ?_ _) | (with_reducible refine Kd.C_drewN ?_ _) | (with_reducible refine Kd.C_drew ?_))); (case side2 => exact HC2.out); rintro e w' ⟨rfl, ⟨nd, rfl⟩⟩; (try first | exact ⟨rfl, _, World.drewN_drewN _ _ _⟩ | exact ⟨rfl, _, Eq.trans (World.drewN_drewN _ _ _) (congrArg (World.drewN _) (Nat.add_assoc _ _ _))⟩); have p124 : 0 ≤ (x8_1 : Int) := of_decide_eq_true (by first | (with_reducible assumption) | assumption); have q124 : x8_1 < (l0.length : Int) := of_decide_eq_true (by first | (with_reducible assumption) | assumption); obtain ⟨ad124, e124, hx124_0, hx124_1, hx124_2, hx124_3⟩ := at_T39 HR0.out x8_1 p124 q124; obtain rfl : ad114 = ad124 := (by injection e124); replace p124 := eq_true p124; replace q124 := eq_true q124; have p125 : 0 ≤ (t123 : Int) := of_decide_eq_true (by first | (with_reducible assumption) | assumption); have q125 : t123 < (l2.length : Int) := of_decide_eq_true (by first | (with_reducible assumption) | assumption); obtain ⟨ad125, A125_2, c125_2, e125, hx125_0, hx125_1, hx125_2, hx125_3, hl125_2, hi125_2⟩ := at_T55 HR2.out t123 p125 q125; cases e125; have HR125_2 := Aside0.mk hi125_2; have HC125_2 := Aside0.mk hl125_2; clear hi125_2 hl125_2; replace p125 := eq_true p125; replace q125 := eq_true q125; have p126 : 0 ≤ (x8_1 : Int) := of_decide_eq_true (by first | (with_reducible assumption) | assumption); have q126 : x8_1 < (l0.length : Int) := of_decide_eq_true (by first | (with_reducible assumption) | assumption); obtain ⟨ad126, e126, hx126_0, hx126_1, hx126_2, hx126_3⟩ := at_T39 HR0.out x8_1 p126 q126; obtain rfl : ad114 = ad126 := (by injection e126); replace p126 := eq_true p126; replace q126 := eq_true q126; have p127 : 0 ≤ (t123 : Int) := of_decide_eq_true (by first | (with_reducible assumption) | assumption); have q127 : t123 < (l2.length : Int) := of_decide_eq_true (by first | (with_reducible assumption) | assumption); obtain ⟨ad127, A127_2, c127_2, e127, hx127_0, hx127_1, hx127_2, hx127_3, hl127_2, hi127_2⟩ := at_T55 HR2.out t123 p127 q127; obtain rfl : ad125 = ad127 := (by injection e127); have HR127_2 := Aside0.mk hi127_2; have HC127_2 := Aside0.mk hl127_2; clear hi127_2 hl127_2; replace p127 := eq_true p127; replace q127 := eq_true q127; have ea_ := Option.some.inj (hx125_2.symm.trans hx127_2); injection ea_ with ea_ en_ ec_; subst ea_; subst ec_; clear en_)))
                              go_roundg kj5
                              case measure => have := HK1.out; have := HJ5.out; omega
                              case rel => exact ⟨((wrap64 (x7_1 + ((rd_T39 l0 x8_1).f2)))), (wrap64 (x8_1 + 1)), (by first | rfl | (simp; done) | (simp [*]; done)), (by first | rfl | (simp; done) | (simp [*]; done)), H', ⟨by have := HK1.out; have := HJ5.out; omega⟩, by repeat (first | exact Drawn0.refl _ | apply Drawn0.step)⟩
                            · rw [if_neg c21] at H
                              have c21b0 : (((rd_T39 l0 x8_1).f3) == ((rd_T55 l2 t123).f3)) = false := beq_eq_false_iff_ne.mpr c21
                              have c21b1 : (((rd_T39 l0 x8_1).f3) != ((rd_T55 l2 t123).f3)) = true := bne_iff_ne.mpr c21
                              obtain rfl := Option.some.inj H
                              have p121 : 0 ≤ (x8_1 : Int) := of_decide_eq_true (by first | (with_reducible assumption) | assumption)
                              have q121 : x8_1 < (l0.length : Int) := of_decide_eq_true (by first | (with_reducible assumption) | assumption)
                              obtain ⟨ad121, e121, hx121_0, hx121_1, hx121_2, hx121_3⟩ := at_T39 HR0.out x8_1 p121 q121
                              obtain rfl : ad114 = ad121 := (by injection e121)
                              replace p121 := eq_true p121
                              replace q121 := eq_true q121
                              have p122 : 0 ≤ (x8_1 : Int) := of_decide_eq_true (by first | (with_reducible assumption) | assumption)
                              have q122 : x8_1 < (l0.length : Int) := of_decide_eq_true (by first | (with_reducible assumption) | assumption)
                              obtain ⟨ad122, e122, hx122_0, hx122_1, hx122_2, hx122_3⟩ := at_T39 HR0.out x8_1 p122 q122
                              obtain rfl : ad114 = ad122 := (by injection e122)
                              replace p122 := eq_true p122
                              replace q122 := eq_true q122
                              go_wp2_with (first | (go_at_call 16; (with_reducible refine (heddlelaw27_at.calls kj5 _ _ l2 ((rd_T39 l0 x8_1).f0) ((rd_T39 l0 x8_1).f1) t123 _ ?side1 ?side2 A16.out).mono ?_); (case side1 => repeat (first | exact HR2.out | (with_reducible refine Kd.C_alloc ?_ _) | (with_reducible refine Kd.C_drewN ?_ _) | (with_reducible refine Kd.C_drew ?_))); (case side2 => exact HC2.out); rintro e w' ⟨rfl, ⟨nd, rfl⟩⟩; (try first | exact ⟨rfl, _, World.drewN_drewN _ _ _⟩ | exact ⟨rfl, _, Eq.trans (World.drewN_drewN _ _ _) (congrArg (World.drewN _) (Nat.add_assoc _ _ _))⟩); have p124 : 0 ≤ (x8_1 : Int) := of_decide_eq_true (by first | (with_reducible assumption) | assumption); have q124 : x8_1 < (l0.length : Int) := of_decide_eq_true (by first | (with_reducible assumption) | assumption); obtain ⟨ad124, e124, hx124_0, hx124_1, hx124_2, hx124_3⟩ := at_T39 HR0.out x8_1 p124 q124; obtain rfl : ad114 = ad124 := (by injection e124); replace p124 := eq_true p124; replace q124 := eq_true q124; have p125 : 0 ≤ (t123 : Int) := of_decide_eq_true (by first | (with_reducible assumption) | assumption); have q125 : t123 < (l2.length : Int) := of_decide_eq_true (by first | (with_reducible assumption) | assumption); obtain ⟨ad125, A125_2, c125_2, e125, hx125_0, hx125_1, hx125_2, hx125_3, hl125_2, hi125_2⟩ := at_T55 HR2.out t123 p125 q125; cases e125; have HR125_2 := Aside0.mk hi125_2; have HC125_2 := Aside0.mk hl125_2; clear hi125_2 hl125_2; replace p125 := eq_true p125; replace q125 := eq_true q125; have p126 : 0 ≤ (x8_1 : Int) := of_decide_eq_true (by first | (with_reducible assumption) | assumption); have q126 : x8_1 < (l0.length : Int) := of_decide_eq_true (by first | (with_reducible assumption) | assumption); obtain ⟨ad126, e126, hx126_0, hx126_1, hx126_2, hx126_3⟩ := at_T39 HR0.out x8_1 p126 q126; obtain rfl : ad114 = ad126 := (by injection e126); replace p126 := eq_true p126; replace q126 := eq_true q126; have p127 : 0 ≤ (t123 : Int) := of_decide_eq_true (by first | (with_reducible assumption) | assumption); have q127 : t123 < (l2.length : Int) := of_decide_eq_true (by first | (with_reducible assumption) | assumption); obtain ⟨ad127, A127_2, c127_2, e127, hx127_0, hx127_1, hx127_2, hx127_3, hl127_2, hi127_2⟩ := at_T55 HR2.out t123 p127 q127; obtain rfl : ad125 = ad127 := (by injection e127); have HR127_2 := Aside0.mk hi127_2; have HC127_2 := Aside0.mk hl127_2; clear hi127_2 hl127_2; replace p127 := eq_true p127; replace q127 := eq_true q127; have ea_ := Option.some.inj (hx125_2.symm.trans hx127_2); injection ea_ with ea_ en_ ec_; subst ea_; subst ec_; clear en_))
                              repeat (go_quiet (first | (go_at_call 16; (with_reducible refine (heddlelaw27_at.calls kj5 _ _ l2 ((rd_T39 l0 x8_1).f0) ((rd_T39 l0 x8_1).f1) t123 _ ?side1 ?side2 A16.out).mono ?_); (case side1 => repeat (first | exact HR2.out | (with_reducible refine Kd.C_alloc ?_ _) | (with_reducible refine Kd.C_drewN ?_ _) | (with_reducible refine Kd.C_drew ?_))); (case side2 => exact HC2.out); rintro e w' ⟨rfl, ⟨nd, rfl⟩⟩; (try first | exact ⟨rfl, _, World.drewN_drewN _ _ _⟩ | exact ⟨rfl, _, Eq.trans (World.drewN_drewN _ _ _) (congrArg (World.drewN _) (Nat.add_assoc _ _ _))⟩); have p124 : 0 ≤ (x8_1 : Int) := of_decide_eq_true (by first | (with_reducible assumption) | assumption); have q124 : x8_1 < (l0.length : Int) := of_decide_eq_true (by first | (with_reducible assumption) | assumption); obtain ⟨ad124, e124, hx124_0, hx124_1, hx124_2, hx124_3⟩ := at_T39 HR0.out x8_1 p124 q124; obtain rfl : ad114 = ad124 := (by injection e124); replace p124 := eq_true p124; replace q124 := eq_true q124; have p125 : 0 ≤ (t123 : Int) := of_decide_eq_true (by first | (with_reducible assumption) | assumption); have q125 : t123 < (l2.length : Int) := of_decide_eq_true (by first | (with_reducible assumption) | assumption); obtain ⟨ad125, A125_2, c125_2, e125, hx125_0, hx125_1, hx125_2, hx125_3, hl125_2, hi125_2⟩ := at_T55 HR2.out t123 p125 q125; cases e125; have HR125_2 := Aside0.mk hi125_2; have HC125_2 := Aside0.mk hl125_2; clear hi125_2 hl125_2; replace p125 := eq_true p125; replace q125 := eq_true q125; have p126 : 0 ≤ (x8_1 : Int) := of_decide_eq_true (by first | (with_reducible assumption) | assumption); have q126 : x8_1 < (l0.length : Int) := of_decide_eq_true (by first | (with_reducible assumption) | assumption); obtain ⟨ad126, e126, hx126_0, hx126_1, hx126_2, hx126_3⟩ := at_T39 HR0.out x8_1 p126 q126; obtain rfl : ad114 = ad126 := (by injection e126); replace p126 := eq_true p126; replace q126 := eq_true q126; have p127 : 0 ≤ (t123 : Int) := of_decide_eq_true (by first | (with_reducible assumption) | assumption); have q127 : t123 < (l2.length : Int) := of_decide_eq_true (by first | (with_reducible assumption) | assumption); obtain ⟨ad127, A127_2, c127_2, e127, hx127_0, hx127_1, hx127_2, hx127_3, hl127_2, hi127_2⟩ := at_T55 HR2.out t123 p127 q127; obtain rfl : ad125 = ad127 := (by injection e127); have HR127_2 := Aside0.mk hi127_2; have HC127_2 := Aside0.mk hl127_2; clear hi127_2 hl127_2; replace p127 := eq_true p127; replace q127 := eq_true q127; have ea_ := Option.some.inj (hx125_2.symm.trans hx127_2); injection ea_ with ea_ en_ ec_; subst ea_; subst ec_; clear en_)); try go_wp2_with (first | (go_at_call 16; (with_reducible refine (heddlelaw27_at.calls kj5 _ _ l2 ((rd_T39 l0 x8_1).f0) ((rd_T39 l0 x8_1).f1) t123 _ ?side1 ?side2 A16.out).mono ?_); (case side1 => repeat (first | exact HR2.out | (with_reducible refine Kd.C_alloc ?_ _) | (with_reducible refine Kd.C_drewN ?_ _) | (with_reducible refine Kd.C_drew ?_))); (case side2 => exact HC2.out); rintro e w' ⟨rfl, ⟨nd, rfl⟩⟩; (try first | exact ⟨rfl, _, World.drewN_drewN _ _ _⟩ | exact ⟨rfl, _, Eq.trans (World.drewN_drewN _ _ _) (congrArg (World.drewN _) (Nat.add_assoc _ _ _))⟩); have p124 : 0 ≤ (x8_1 : Int) := of_decide_eq_true (by first | (with_reducible assumption) | assumption); have q124 : x8_1 < (l0.length : Int) := of_decide_eq_true (by first | (with_reducible assumption) | assumption); obtain ⟨ad124, e124, hx124_0, hx124_1, hx124_2, hx124_3⟩ := at_T39 HR0.out x8_1 p124 q124; obtain rfl : ad114 = ad124 := (by injection e124); replace p124 := eq_true p124; replace q124 := eq_true q124; have p125 : 0 ≤ (t123 : Int) := of_decide_eq_true (by first | (with_reducible assumption) | assumption); have q125 : t123 < (l2.length : Int) := of_decide_eq_true (by first | (with_reducible assumption) | assumption); obtain ⟨ad125, A125_2, c125_2, e125, hx125_0, hx125_1, hx125_2, hx125_3, hl125_2, hi125_2⟩ := at_T55 HR2.out t123 p125 q125; cases e125; have HR125_2 := Aside0.mk hi125_2; have HC125_2 := Aside0.mk hl125_2; clear hi125_2 hl125_2; replace p125 := eq_true p125; replace q125 := eq_true q125; have p126 : 0 ≤ (x8_1 : Int) := of_decide_eq_true (by first | (with_reducible assumption) | assumption); have q126 : x8_1 < (l0.length : Int) := of_decide_eq_true (by first | (with_reducible assumption) | assumption); obtain ⟨ad126, e126, hx126_0, hx126_1, hx126_2, hx126_3⟩ := at_T39 HR0.out x8_1 p126 q126; obtain rfl : ad114 = ad126 := (by injection e126); replace p126 := eq_true p126; replace q126 := eq_true q126; have p127 : 0 ≤ (t123 : Int) := of_decide_eq_true (by first | (with_reducible assumption) | assumption); have q127 : t123 < (l2.length : Int) := of_decide_eq_true (by first | (with_reducible assumption) | assumption); obtain ⟨ad127, A127_2, c127_2, e127, hx127_0, hx127_1, hx127_2, hx127_3, hl127_2, hi127_2⟩ := at_T55 HR2.out t123 p127 q127; obtain rfl : ad125 = ad127 := (by injection e127); have HR127_2 := Aside0.mk hi127_2; have HC127_2 := Aside0.mk hl127_2; clear hi127_2 hl127_2; replace p127 := eq_true p127; replace q127 := eq_true q127; have ea_ := Option.some.inj (hx125_2.symm.trans hx127_2); injection ea_ with ea_ en_ ec_; subst ea_; subst ec_; clear en_)))
                              go_ret
                              exact ⟨by first | rfl | (simp; done) | (simp [*]; done), by repeat (first | exact Drawn0.refl _ | apply Drawn0.step)⟩
                          · rw [if_neg c20] at H
                            have c20b0 : (((rd_T39 l0 x8_1).f2) == (((rd_T55 l2 t123).f2).length : Int)) = false := beq_eq_false_iff_ne.mpr c20
                            have c20b1 : (((rd_T39 l0 x8_1).f2) != (((rd_T55 l2 t123).f2).length : Int)) = true := bne_iff_ne.mpr c20
                            obtain rfl := Option.some.inj H
                            have p121 : 0 ≤ (x8_1 : Int) := of_decide_eq_true (by first | (with_reducible assumption) | assumption)
                            have q121 : x8_1 < (l0.length : Int) := of_decide_eq_true (by first | (with_reducible assumption) | assumption)
                            obtain ⟨ad121, e121, hx121_0, hx121_1, hx121_2, hx121_3⟩ := at_T39 HR0.out x8_1 p121 q121
                            obtain rfl : ad114 = ad121 := (by injection e121)
                            replace p121 := eq_true p121
                            replace q121 := eq_true q121
                            have p122 : 0 ≤ (x8_1 : Int) := of_decide_eq_true (by first | (with_reducible assumption) | assumption)
                            have q122 : x8_1 < (l0.length : Int) := of_decide_eq_true (by first | (with_reducible assumption) | assumption)
                            obtain ⟨ad122, e122, hx122_0, hx122_1, hx122_2, hx122_3⟩ := at_T39 HR0.out x8_1 p122 q122
                            obtain rfl : ad114 = ad122 := (by injection e122)
                            replace p122 := eq_true p122
                            replace q122 := eq_true q122
                            go_wp2_with (first | (go_at_call 16; (with_reducible refine (heddlelaw27_at.calls kj5 _ _ l2 ((rd_T39 l0 x8_1).f0) ((rd_T39 l0 x8_1).f1) t123 _ ?side1 ?side2 A16.out).mono ?_); (case side1 => repeat (first | exact HR2.out | (with_reducible refine Kd.C_alloc ?_ _) | (with_reducible refine Kd.C_drewN ?_ _) | (with_reducible refine Kd.C_drew ?_))); (case side2 => exact HC2.out); rintro e w' ⟨rfl, ⟨nd, rfl⟩⟩; (try first | exact ⟨rfl, _, World.drewN_drewN _ _ _⟩ | exact ⟨rfl, _, Eq.trans (World.drewN_drewN _ _ _) (congrArg (World.drewN _) (Nat.add_assoc _ _ _))⟩); have p124 : 0 ≤ (x8_1 : Int) := of_decide_eq_true (by first | (with_reducible assumption) | assumption); have q124 : x8_1 < (l0.length : Int) := of_decide_eq_true (by first | (with_reducible assumption) | assumption); obtain ⟨ad124, e124, hx124_0, hx124_1, hx124_2, hx124_3⟩ := at_T39 HR0.out x8_1 p124 q124; obtain rfl : ad114 = ad124 := (by injection e124); replace p124 := eq_true p124; replace q124 := eq_true q124; have p125 : 0 ≤ (t123 : Int) := of_decide_eq_true (by first | (with_reducible assumption) | assumption); have q125 : t123 < (l2.length : Int) := of_decide_eq_true (by first | (with_reducible assumption) | assumption); obtain ⟨ad125, A125_2, c125_2, e125, hx125_0, hx125_1, hx125_2, hx125_3, hl125_2, hi125_2⟩ := at_T55 HR2.out t123 p125 q125; cases e125; have HR125_2 := Aside0.mk hi125_2; have HC125_2 := Aside0.mk hl125_2; clear hi125_2 hl125_2; replace p125 := eq_true p125; replace q125 := eq_true q125))
                            repeat (go_quiet (first | (go_at_call 16; (with_reducible refine (heddlelaw27_at.calls kj5 _ _ l2 ((rd_T39 l0 x8_1).f0) ((rd_T39 l0 x8_1).f1) t123 _ ?side1 ?side2 A16.out).mono ?_); (case side1 => repeat (first | exact HR2.out | (with_reducible refine Kd.C_alloc ?_ _) | (with_reducible refine Kd.C_drewN ?_ _) | (with_reducible refine Kd.C_drew ?_))); (case side2 => exact HC2.out); rintro e w' ⟨rfl, ⟨nd, rfl⟩⟩; (try first | exact ⟨rfl, _, World.drewN_drewN _ _ _⟩ | exact ⟨rfl, _, Eq.trans (World.drewN_drewN _ _ _) (congrArg (World.drewN _) (Nat.add_assoc _ _ _))⟩); have p124 : 0 ≤ (x8_1 : Int) := of_decide_eq_true (by first | (with_reducible assumption) | assumption); have q124 : x8_1 < (l0.length : Int) := of_decide_eq_true (by first | (with_reducible assumption) | assumption); obtain ⟨ad124, e124, hx124_0, hx124_1, hx124_2, hx124_3⟩ := at_T39 HR0.out x8_1 p124 q124; obtain rfl : ad114 = ad124 := (by injection e124); replace p124 := eq_true p124; replace q124 := eq_true q124; have p125 : 0 ≤ (t123 : Int) := of_decide_eq_true (by first | (with_reducible assumption) | assumption); have q125 : t123 < (l2.length : Int) := of_decide_eq_true (by first | (with_reducible assumption) | assumption); obtain ⟨ad125, A125_2, c125_2, e125, hx125_0, hx125_1, hx125_2, hx125_3, hl125_2, hi125_2⟩ := at_T55 HR2.out t123 p125 q125; cases e125; have HR125_2 := Aside0.mk hi125_2; have HC125_2 := Aside0.mk hl125_2; clear hi125_2 hl125_2; replace p125 := eq_true p125; replace q125 := eq_true q125)); try go_wp2_with (first | (go_at_call 16; (with_reducible refine (heddlelaw27_at.calls kj5 _ _ l2 ((rd_T39 l0 x8_1).f0) ((rd_T39 l0 x8_1).f1) t123 _ ?side1 ?side2 A16.out).mono ?_); (case side1 => repeat (first | exact HR2.out | (with_reducible refine Kd.C_alloc ?_ _) | (with_reducible refine Kd.C_drewN ?_ _) | (with_reducible refine Kd.C_drew ?_))); (case side2 => exact HC2.out); rintro e w' ⟨rfl, ⟨nd, rfl⟩⟩; (try first | exact ⟨rfl, _, World.drewN_drewN _ _ _⟩ | exact ⟨rfl, _, Eq.trans (World.drewN_drewN _ _ _) (congrArg (World.drewN _) (Nat.add_assoc _ _ _))⟩); have p124 : 0 ≤ (x8_1 : Int) := of_decide_eq_true (by first | (with_reducible assumption) | assumption); have q124 : x8_1 < (l0.length : Int) := of_decide_eq_true (by first | (with_reducible assumption) | assumption); obtain ⟨ad124, e124, hx124_0, hx124_1, hx124_2, hx124_3⟩ := at_T39 HR0.out x8_1 p124 q124; obtain rfl : ad114 = ad124 := (by injection e124); replace p124 := eq_true p124; replace q124 := eq_true q124; have p125 : 0 ≤ (t123 : Int) := of_decide_eq_true (by first | (with_reducible assumption) | assumption); have q125 : t123 < (l2.length : Int) := of_decide_eq_true (by first | (with_reducible assumption) | assumption); obtain ⟨ad125, A125_2, c125_2, e125, hx125_0, hx125_1, hx125_2, hx125_3, hl125_2, hi125_2⟩ := at_T55 HR2.out t123 p125 q125; cases e125; have HR125_2 := Aside0.mk hi125_2; have HC125_2 := Aside0.mk hl125_2; clear hi125_2 hl125_2; replace p125 := eq_true p125; replace q125 := eq_true q125)))
                            go_ret
                            exact ⟨by first | rfl | (simp; done) | (simp [*]; done), by repeat (first | exact Drawn0.refl _ | apply Drawn0.step)⟩
                        · rw [if_neg c19] at H
                          exact absurd H (by simp)
                      · rw [if_neg c18] at H
                        exact absurd H (by simp)
                  · rw [if_neg c15] at H
                    exact absurd H (by simp)
                · rw [if_neg c14] at H
                  exact absurd H (by simp)
        · rw [if_neg c5] at H
          exact absurd H (by simp)
      · rw [if_neg c4] at H
        have c4b0 : decide (x8_1 < (l0.length : Int)) = false := decide_eq_false c4
        clear c4
        have H' := Aside0.mk H
        clear H
        go_wp2
        repeat (go_quiet (fail); try go_wp2)
        go_loopg [10] k1 (fun kq v10 w' => ∃ (x10_2 : Int), v10 = .int .i64 x10_2 ∧ Aside0 (heddlelaw27_fits.l1 kq l0 a1 l2 x7_1 x10_2 = some r) ∧ Aside0 (kq ≤ k1) ∧ Drawn0 w w')
        case atStart => exact ⟨(0), (by first | rfl | (simp; done) | (simp [*]; done)), H', ⟨Nat.le_refl _⟩, by repeat (first | exact Drawn0.refl _ | apply Drawn0.step)⟩
        case round =>
          clear H'
          try clear c1
          try clear p1
          try clear q1
          try clear hx1
          try clear c2
          try clear p2
          try clear c4
          try clear c4b0
          try clear c5
          try clear c5b0
          try clear p6
          try clear c7
          try clear c7b0
          try clear c9
          try clear c9b0
          try clear c10
          try clear c10b0
          try clear c11
          try clear c11b0
          try clear p11
          try clear q11
          try clear hx11
          try clear c12
          try clear c12b0
          try clear c12b1
          try clear p12
          try clear q12
          try clear hx12
          try clear c13
          try clear c14
          try clear c14b0
          try clear c15
          try clear c15b0
          try clear c17
          try clear c17b0
          try clear c18
          try clear c18b0
          try clear c19
          try clear c19b0
          try clear c20
          try clear c20b0
          try clear c20b1
          try clear c21
          try clear c21b0
          try clear c21b1
          try clear hx114_0
          try clear hx114_1
          try clear hx114_2
          try clear hx114_3
          try clear hx115_0
          try clear hx115_1
          try clear hx115_2
          try clear hx115_3
          try clear hx116_0
          try clear hx116_1
          try clear hx116_2
          try clear hx116_3
          try clear hx117_0
          try clear hx117_1
          try clear hx117_2
          try clear hx117_3
          try clear hx118_0
          try clear hx118_1
          try clear hx118_2
          try clear hx118_3
          try clear hx119_0
          try clear hx119_1
          try clear hx119_2
          try clear hx119_3
          try clear hx120_0
          try clear hx120_1
          try clear hx120_2
          try clear hx120_3
          try clear hx121_0
          try clear hx121_1
          try clear hx121_2
          try clear hx121_3
          try clear hx122_0
          try clear hx122_1
          try clear hx122_2
          try clear hx122_3
          try clear hx124_0
          try clear hx124_1
          try clear hx124_2
          try clear hx124_3
          try clear hx125_0
          try clear hx125_1
          try clear hx125_2
          try clear hx125_3
          try clear hx126_0
          try clear hx126_1
          try clear hx126_2
          try clear hx126_3
          try clear hx127_0
          try clear hx127_1
          try clear hx127_2
          try clear hx127_3
          try clear p1
          try clear p11
          try clear p114
          try clear p115
          try clear p116
          try clear p117
          try clear p118
          try clear p119
          try clear p12
          try clear p120
          try clear p121
          try clear p122
          try clear p124
          try clear p125
          try clear p126
          try clear p127
          try clear p2
          try clear p6
          try clear q1
          try clear q11
          try clear q114
          try clear q115
          try clear q116
          try clear q117
          try clear q118
          try clear q119
          try clear q12
          try clear q120
          try clear q121
          try clear q122
          try clear q124
          try clear q125
          try clear q126
          try clear q127
          obtain ⟨x10_2, rfl, HA, HK2, ⟨m2, rfl⟩⟩ := hrel
          cases gk with
          | zero => exact absurd HA.out (by simp [heddlelaw27_fits.l1])
          | succ k2 =>
            have H := HA.out
            clear HA
            simp only [heddlelaw27_fits.l1] at H
            by_cases c22 : x10_2 < (l2.length : Int)
            · rw [if_pos c22] at H
              have c22b0 : decide (x10_2 < (l2.length : Int)) = true := decide_eq_true c22
              clear c22
              by_cases c23 : 0 ≤ x10_2
              · rw [if_pos c23] at H
                have c23b0 : decide (0 ≤ x10_2) = true := decide_eq_true c23
                clear c23
                by_cases c24 : ((rd_T55 l2 x10_2).f3) > 0
                · rw [if_pos c24] at H
                  have c24b0 : decide (0 < ((rd_T55 l2 x10_2).f3)) = true := decide_eq_true c24
                  clear c24
                  replace H := Option.bind_eq_some_iff.mp H
                  obtain ⟨t131, A250, H⟩ := H
                  replace H : (if t131 < 0 then (some false) else (heddlelaw27_fits.l1 k2 l0 a1 l2 x7_1 (wrap64 (x10_2 + 1)))) = some r := H
                  have A25 := Aside0.mk A250
                  clear A250
                  by_cases c26 : t131 < 0
                  · rw [if_pos c26] at H
                    have c26b0 : decide (t131 < 0) = true := decide_eq_true c26
                    clear c26
                    obtain rfl := Option.some.inj H
                    have p128 : 0 ≤ (x10_2 : Int) := of_decide_eq_true (by first | (with_reducible assumption) | assumption)
                    have q128 : x10_2 < (l2.length : Int) := of_decide_eq_true (by first | (with_reducible assumption) | assumption)
                    obtain ⟨ad128, A128_2, c128_2, e128, hx128_0, hx128_1, hx128_2, hx128_3, hl128_2, hi128_2⟩ := at_T55 HR2.out x10_2 p128 q128
                    cases e128
                    have HR128_2 := Aside0.mk hi128_2
                    have HC128_2 := Aside0.mk hl128_2
                    clear hi128_2 hl128_2
                    replace p128 := eq_true p128
                    replace q128 := eq_true q128
                    have p129 : 0 ≤ (x10_2 : Int) := of_decide_eq_true (by first | (with_reducible assumption) | assumption)
                    have q129 : x10_2 < (l2.length : Int) := of_decide_eq_true (by first | (with_reducible assumption) | assumption)
                    obtain ⟨ad129, A129_2, c129_2, e129, hx129_0, hx129_1, hx129_2, hx129_3, hl129_2, hi129_2⟩ := at_T55 HR2.out x10_2 p129 q129
                    obtain rfl : ad128 = ad129 := (by injection e129)
                    have HR129_2 := Aside0.mk hi129_2
                    have HC129_2 := Aside0.mk hl129_2
                    clear hi129_2 hl129_2
                    replace p129 := eq_true p129
                    replace q129 := eq_true q129
                    have ea_ := Option.some.inj (hx128_2.symm.trans hx129_2)
                    injection ea_ with ea_ en_ ec_
                    subst ea_
                    subst ec_
                    clear en_
                    have p130 : 0 ≤ (x10_2 : Int) := of_decide_eq_true (by first | (with_reducible assumption) | assumption)
                    have q130 : x10_2 < (l2.length : Int) := of_decide_eq_true (by first | (with_reducible assumption) | assumption)
                    obtain ⟨ad130, A130_2, c130_2, e130, hx130_0, hx130_1, hx130_2, hx130_3, hl130_2, hi130_2⟩ := at_T55 HR2.out x10_2 p130 q130
                    obtain rfl : ad128 = ad130 := (by injection e130)
                    have HR130_2 := Aside0.mk hi130_2
                    have HC130_2 := Aside0.mk hl130_2
                    clear hi130_2 hl130_2
                    replace p130 := eq_true p130
                    replace q130 := eq_true q130
                    have ea_ := Option.some.inj (hx128_2.symm.trans hx130_2)
                    injection ea_ with ea_ en_ ec_
                    subst ea_
                    subst ec_
                    clear en_
                    go_wp2_with (first | (go_at_call 12; (with_reducible refine (heddlelaw27_there.calls k2 _ _ l0 ((rd_T55 l2 x10_2).f0) ((rd_T55 l2 x10_2).f1) t131 _ ?side1 ?side2 A25.out).mono ?_); (case side1 => repeat (first | exact HR0.out | (with_reducible refine Kd.C_alloc ?_ _) | (with_reducible refine Kd.C_drewN ?_ _) | (with_reducible refine Kd.C_drew ?_))); (case side2 => exact HC0.out); rintro e w' ⟨rfl, ⟨nd, rfl⟩⟩; (try first | exact ⟨rfl, _, World.drewN_drewN _ _ _⟩ | exact ⟨rfl, _, Eq.trans (World.drewN_drewN _ _ _) (congrArg (World.drewN _) (Nat.add_assoc _ _ _))⟩)))
                    repeat (go_quiet (first | (go_at_call 12; (with_reducible refine (heddlelaw27_there.calls k2 _ _ l0 ((rd_T55 l2 x10_2).f0) ((rd_T55 l2 x10_2).f1) t131 _ ?side1 ?side2 A25.out).mono ?_); (case side1 => repeat (first | exact HR0.out | (with_reducible refine Kd.C_alloc ?_ _) | (with_reducible refine Kd.C_drewN ?_ _) | (with_reducible refine Kd.C_drew ?_))); (case side2 => exact HC0.out); rintro e w' ⟨rfl, ⟨nd, rfl⟩⟩; (try first | exact ⟨rfl, _, World.drewN_drewN _ _ _⟩ | exact ⟨rfl, _, Eq.trans (World.drewN_drewN _ _ _) (congrArg (World.drewN _) (Nat.add_assoc _ _ _))⟩))); try go_wp2_with (first | (go_at_call 12; (with_reducible refine (heddlelaw27_there.calls k2 _ _ l0 ((rd_T55 l2 x10_2).f0) ((rd_T55 l2 x10_2).f1) t131 _ ?side1 ?side2 A25.out).mono ?_); (case side1 => repeat (first | exact HR0.out | (with_reducible refine Kd.C_alloc ?_ _) | (with_reducible refine Kd.C_drewN ?_ _) | (with_reducible refine Kd.C_drew ?_))); (case side2 => exact HC0.out); rintro e w' ⟨rfl, ⟨nd, rfl⟩⟩; (try first | exact ⟨rfl, _, World.drewN_drewN _ _ _⟩ | exact ⟨rfl, _, Eq.trans (World.drewN_drewN _ _ _) (congrArg (World.drewN _) (Nat.add_assoc _ _ _))⟩))))
                    go_ret
                    exact ⟨by first | rfl | (simp; done) | (simp [*]; done), by repeat (first | exact Drawn0.refl _ | apply Drawn0.step)⟩
                  · rw [if_neg c26] at H
                    have c26b0 : decide (t131 < 0) = false := decide_eq_false c26
                    clear c26
                    have H' := Aside0.mk H
                    clear H
                    have p128 : 0 ≤ (x10_2 : Int) := of_decide_eq_true (by first | (with_reducible assumption) | assumption)
                    have q128 : x10_2 < (l2.length : Int) := of_decide_eq_true (by first | (with_reducible assumption) | assumption)
                    obtain ⟨ad128, A128_2, c128_2, e128, hx128_0, hx128_1, hx128_2, hx128_3, hl128_2, hi128_2⟩ := at_T55 HR2.out x10_2 p128 q128
                    cases e128
                    have HR128_2 := Aside0.mk hi128_2
                    have HC128_2 := Aside0.mk hl128_2
                    clear hi128_2 hl128_2
                    replace p128 := eq_true p128
                    replace q128 := eq_true q128
                    have p129 : 0 ≤ (x10_2 : Int) := of_decide_eq_true (by first | (with_reducible assumption) | assumption)
                    have q129 : x10_2 < (l2.length : Int) := of_decide_eq_true (by first | (with_reducible assumption) | assumption)
                    obtain ⟨ad129, A129_2, c129_2, e129, hx129_0, hx129_1, hx129_2, hx129_3, hl129_2, hi129_2⟩ := at_T55 HR2.out x10_2 p129 q129
                    obtain rfl : ad128 = ad129 := (by injection e129)
                    have HR129_2 := Aside0.mk hi129_2
                    have HC129_2 := Aside0.mk hl129_2
                    clear hi129_2 hl129_2
                    replace p129 := eq_true p129
                    replace q129 := eq_true q129
                    have ea_ := Option.some.inj (hx128_2.symm.trans hx129_2)
                    injection ea_ with ea_ en_ ec_
                    subst ea_
                    subst ec_
                    clear en_
                    have p130 : 0 ≤ (x10_2 : Int) := of_decide_eq_true (by first | (with_reducible assumption) | assumption)
                    have q130 : x10_2 < (l2.length : Int) := of_decide_eq_true (by first | (with_reducible assumption) | assumption)
                    obtain ⟨ad130, A130_2, c130_2, e130, hx130_0, hx130_1, hx130_2, hx130_3, hl130_2, hi130_2⟩ := at_T55 HR2.out x10_2 p130 q130
                    obtain rfl : ad128 = ad130 := (by injection e130)
                    have HR130_2 := Aside0.mk hi130_2
                    have HC130_2 := Aside0.mk hl130_2
                    clear hi130_2 hl130_2
                    replace p130 := eq_true p130
                    replace q130 := eq_true q130
                    have ea_ := Option.some.inj (hx128_2.symm.trans hx130_2)
                    injection ea_ with ea_ en_ ec_
                    subst ea_
                    subst ec_
                    clear en_
                    go_wp2_with (first | (go_at_call 12; (with_reducible refine (heddlelaw27_there.calls k2 _ _ l0 ((rd_T55 l2 x10_2).f0) ((rd_T55 l2 x10_2).f1) t131 _ ?side1 ?side2 A25.out).mono ?_); (case side1 => repeat (first | exact HR0.out | (with_reducible refine Kd.C_alloc ?_ _) | (with_reducible refine Kd.C_drewN ?_ _) | (with_reducible refine Kd.C_drew ?_))); (case side2 => exact HC0.out); rintro e w' ⟨rfl, ⟨nd, rfl⟩⟩; (try first | exact ⟨rfl, _, World.drewN_drewN _ _ _⟩ | exact ⟨rfl, _, Eq.trans (World.drewN_drewN _ _ _) (congrArg (World.drewN _) (Nat.add_assoc _ _ _))⟩)))
                    repeat (go_quiet (first | (go_at_call 12; (with_reducible refine (heddlelaw27_there.calls k2 _ _ l0 ((rd_T55 l2 x10_2).f0) ((rd_T55 l2 x10_2).f1) t131 _ ?side1 ?side2 A25.out).mono ?_); (case side1 => repeat (first | exact HR0.out | (with_reducible refine Kd.C_alloc ?_ _) | (with_reducible refine Kd.C_drewN ?_ _) | (with_reducible refine Kd.C_drew ?_))); (case side2 => exact HC0.out); rintro e w' ⟨rfl, ⟨nd, rfl⟩⟩; (try first | exact ⟨rfl, _, World.drewN_drewN _ _ _⟩ | exact ⟨rfl, _, Eq.trans (World.drewN_drewN _ _ _) (congrArg (World.drewN _) (Nat.add_assoc _ _ _))⟩))); try go_wp2_with (first | (go_at_call 12; (with_reducible refine (heddlelaw27_there.calls k2 _ _ l0 ((rd_T55 l2 x10_2).f0) ((rd_T55 l2 x10_2).f1) t131 _ ?side1 ?side2 A25.out).mono ?_); (case side1 => repeat (first | exact HR0.out | (with_reducible refine Kd.C_alloc ?_ _) | (with_reducible refine Kd.C_drewN ?_ _) | (with_reducible refine Kd.C_drew ?_))); (case side2 => exact HC0.out); rintro e w' ⟨rfl, ⟨nd, rfl⟩⟩; (try first | exact ⟨rfl, _, World.drewN_drewN _ _ _⟩ | exact ⟨rfl, _, Eq.trans (World.drewN_drewN _ _ _) (congrArg (World.drewN _) (Nat.add_assoc _ _ _))⟩))))
                    go_roundg k2
                    case measure => have := HK1.out; have := HK2.out; omega
                    case rel => exact ⟨(wrap64 (x10_2 + 1)), (by first | rfl | (simp; done) | (simp [*]; done)), H', ⟨by have := HK1.out; have := HK2.out; omega⟩, by repeat (first | exact Drawn0.refl _ | apply Drawn0.step)⟩
                · rw [if_neg c24] at H
                  have c24b0 : decide (0 < ((rd_T55 l2 x10_2).f3)) = false := decide_eq_false c24
                  clear c24
                  have H' := Aside0.mk H
                  clear H
                  have p128 : 0 ≤ (x10_2 : Int) := of_decide_eq_true (by first | (with_reducible assumption) | assumption)
                  have q128 : x10_2 < (l2.length : Int) := of_decide_eq_true (by first | (with_reducible assumption) | assumption)
                  obtain ⟨ad128, A128_2, c128_2, e128, hx128_0, hx128_1, hx128_2, hx128_3, hl128_2, hi128_2⟩ := at_T55 HR2.out x10_2 p128 q128
                  cases e128
                  have HR128_2 := Aside0.mk hi128_2
                  have HC128_2 := Aside0.mk hl128_2
                  clear hi128_2 hl128_2
                  replace p128 := eq_true p128
                  replace q128 := eq_true q128
                  go_wp2
                  repeat (go_quiet (fail); try go_wp2)
                  go_roundg k2
                  case measure => have := HK1.out; have := HK2.out; omega
                  case rel => exact ⟨(wrap64 (x10_2 + 1)), (by first | rfl | (simp; done) | (simp [*]; done)), H', ⟨by have := HK1.out; have := HK2.out; omega⟩, by repeat (first | exact Drawn0.refl _ | apply Drawn0.step)⟩
              · rw [if_neg c23] at H
                exact absurd H (by simp)
            · rw [if_neg c22] at H
              have c22b0 : decide (x10_2 < (l2.length : Int)) = false := decide_eq_false c22
              clear c22
              by_cases c27 : x7_1 ≤ a1
              · rw [if_pos c27] at H
                have c27b0 : decide (x7_1 ≤ a1) = true := decide_eq_true c27
                clear c27
                obtain rfl := Option.some.inj H
                go_wp2
                repeat (go_quiet (fail); try go_wp2)
                go_ret
                exact ⟨by first | rfl | (simp; done) | (simp [*]; done), by repeat (first | exact Drawn0.refl _ | apply Drawn0.step)⟩
              · rw [if_neg c27] at H
                have c27b0 : decide (x7_1 ≤ a1) = false := decide_eq_false c27
                clear c27
                obtain rfl := Option.some.inj H
                go_wp2
                repeat (go_quiet (fail); try go_wp2)
                go_ret
                exact ⟨by first | rfl | (simp; done) | (simp [*]; done), by repeat (first | exact Drawn0.refl _ | apply Drawn0.step)⟩

-- NOT PRINTED: function 5 (heddlelaw27_ShelfKeeps)

end Go.Proofs.Ytancenklmfamnaa.PShelfKeeps
