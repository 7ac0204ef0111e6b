-- printed by myprint.py (this session's own program, over the kit's print.py and hand contracts)
import Derived.Test.YtfdioplenkcahaaPShellFreshx0
import Derived.Test.YtfdioplenkcahaaPShellFreshx1
namespace Go.Proofs.Ytfdioplenkcahaa.PShellFresh
open Go.RowKit Go.Proofs.YtfdioplenkcahaaW.PrintWords Go.Proofs.YtfdioplenkcahaaW.PrintLast Go.Proofs.YtfdioplenkcahaaW.PrintMore
attribute [local go_sem] max2_int min2_int max_two min_two max_three min_three max_four min_four   -- for this text's walks alone
set_option linter.unusedVariables false
set_option linter.unusedSimpArgs false

/-! ### heddleref31_quoted: function 18 -/
mutual
def heddleref31_quoted.l0 : Nat → ByteArray → Int → List Int → Option (ByteArray × Int)
  | 0, _, _, _ => none
  | k + 1, x0, x1, x6 => if x1 < (x0.size : Int) then (if 0 ≤ x1 then (heddleref31_quoted.j1 k x0 x1 x6 ((bt x0 x1) != 34)) else (none)) else (heddleref31_quoted.j1 k x0 x1 x6 false)
def heddleref31_quoted.j1 : Nat → ByteArray → Int → List Int → Bool → Option (ByteArray × Int)
  | 0, _, _, _, _ => none
  | k + 1, x0, x1, x6, x19 => if x19 = true then (if 0 ≤ x1 then (if x1 < (x0.size : Int) then (if (bt x0 x1) = 92 then (if (wrap64 (x1 + 1)) ≥ (x0.size : Int) then (some ((⟨#[]⟩ : ByteArray), (-1))) else (if 0 ≤ (wrap64 (x1 + 1)) then (if (wrap64 (x1 + 1)) < (x0.size : Int) then (if (bt x0 (wrap64 (x1 + 1))) = 34 then (heddleref31_quoted.j2 k x0 (wrap64 (x1 + 2)) x6 (bt x0 (wrap64 (x1 + 1))) (bt x0 (wrap64 (x1 + 1))) ((bt x0 (wrap64 (x1 + 1))) == 34)) else (heddleref31_quoted.j2 k x0 (wrap64 (x1 + 2)) x6 (bt x0 (wrap64 (x1 + 1))) (bt x0 (wrap64 (x1 + 1))) ((bt x0 (wrap64 (x1 + 1))) == 92))) else (none)) else (none))) else (if x6.length < 140737488355328 then (heddleref31_quoted.l0 k x0 (wrap64 (x1 + 1)) (x6 ++ [bt x0 x1])) else (none))) else (none)) else (none)) else (if x1 ≥ (x0.size : Int) then (some ((⟨#[]⟩ : ByteArray), (-1))) else (if (wrap64 (x1 + 1)) < (x0.size : Int) then (if 0 ≤ (wrap64 (x1 + 1)) then (if (bt x0 (wrap64 (x1 + 1))) = 32 then (some (strOfNums x6, wrap64 (x1 + 1))) else (some ((⟨#[]⟩ : ByteArray), (-1)))) else (none)) else (some (strOfNums x6, wrap64 (x1 + 1)))))
def heddleref31_quoted.j2 : Nat → ByteArray → Int → List Int → Int → Int → Bool → Option (ByteArray × Int)
  | 0, _, _, _, _, _, _ => none
  | k + 1, x0, x1, x6, x7, x43, x44 => if x44 = true then (if x6.length < 140737488355328 then (heddleref31_quoted.l0 k x0 x1 (x6 ++ [x7])) else (none)) else (if x43 = 110 then (if x6.length < 140737488355328 then (heddleref31_quoted.l0 k x0 x1 (x6 ++ [10])) else (none)) else (if x43 = 116 then (if x6.length < 140737488355328 then (heddleref31_quoted.l0 k x0 x1 (x6 ++ [9])) else (none)) else (if x43 = 120 then (if (wrap64 (x1 + 1)) ≥ (x0.size : Int) then (heddleref31_quoted.j3 k x0 x1 x6 true) else (if 0 ≤ x1 then (if x1 < (x0.size : Int) then ((heddleref31_digit.f k (bt x0 x1)).bind fun t135 => (if t135 < 0 then (heddleref31_quoted.j3 k x0 x1 x6 true) else (if 0 ≤ (wrap64 (x1 + 1)) then (if (wrap64 (x1 + 1)) < (x0.size : Int) then ((heddleref31_digit.f k (bt x0 (wrap64 (x1 + 1)))).bind fun t136 => (heddleref31_quoted.j3 k x0 x1 x6 (decide (t136 < 0)))) else (none)) else (none)))) else (none)) else (none))) else (some ((⟨#[]⟩ : ByteArray), (-1))))))
def heddleref31_quoted.j3 : Nat → ByteArray → Int → List Int → Bool → Option (ByteArray × Int)
  | 0, _, _, _, _ => none
  | k + 1, x0, x1, x6, x82 => if x82 = true then (some ((⟨#[]⟩ : ByteArray), (-1))) else (if 0 ≤ x1 then (if x1 < (x0.size : Int) then ((heddleref31_digit.f k (bt x0 x1)).bind fun t137 => (if 0 ≤ (wrap64 (x1 + 1)) then (if (wrap64 (x1 + 1)) < (x0.size : Int) then ((heddleref31_digit.f k (bt x0 (wrap64 (x1 + 1)))).bind fun t138 => (if x6.length < 140737488355328 then (heddleref31_quoted.l0 k x0 (wrap64 (x1 + 2)) (x6 ++ [(wrap64 ((wrap64 (16 * t137)) + t138)) % 256])) else (none))) else (none)) else (none))) else (none)) else (none))
end
def heddleref31_quoted.f (k : Nat) (a0 : ByteArray) (a1 : Int) : Option (ByteArray × Int) := heddleref31_quoted.l0 k a0 (wrap64 (a1 + 1)) ([] : List Int)
theorem heddleref31_quoted.mono_l : ∀ k, (∀ y0 y1 y2, LeO (heddleref31_quoted.l0 k y0 y1 y2) (heddleref31_quoted.l0 (k + 1) y0 y1 y2)) ∧ (∀ y0 y1 y2 y3, LeO (heddleref31_quoted.j1 k y0 y1 y2 y3) (heddleref31_quoted.j1 (k + 1) y0 y1 y2 y3)) ∧ (∀ y0 y1 y2 y3 y4 y5, LeO (heddleref31_quoted.j2 k y0 y1 y2 y3 y4 y5) (heddleref31_quoted.j2 (k + 1) y0 y1 y2 y3 y4 y5)) ∧ (∀ y0 y1 y2 y3, LeO (heddleref31_quoted.j3 k y0 y1 y2 y3) (heddleref31_quoted.j3 (k + 1) y0 y1 y2 y3))
  | 0 => ⟨fun _ _ _ r h => by simp [heddleref31_quoted.l0] at h, fun _ _ _ _ r h => by simp [heddleref31_quoted.j1] at h, fun _ _ _ _ _ _ r h => by simp [heddleref31_quoted.j2] at h, fun _ _ _ _ r h => by simp [heddleref31_quoted.j3] at h⟩
  | k + 1 => by
    obtain ⟨ih0, ih1, ih2, ih3⟩ := heddleref31_quoted.mono_l k
    refine ⟨?_, ?_, ?_, ?_⟩
    · intro y0 y1 y2
      unfold heddleref31_quoted.l0
      repeat' first
      | (with_reducible exact ih0 _ _ _)
      | (with_reducible exact ih1 _ _ _ _)
      | (with_reducible exact ih2 _ _ _ _ _ _)
      | (with_reducible exact ih3 _ _ _ _)
      | (with_reducible exact heddleref31_digit.mono _ _)
      | (with_reducible exact LeO.refl _)
      | (with_reducible exact LeO.none _)
      | (with_reducible refine LeO.ite ?_ ?_)
      | (with_reducible refine LeO.bind ?_ (fun _ => ?_))
      | exact ih0 _ _ _
      | exact ih1 _ _ _ _
      | exact ih2 _ _ _ _ _ _
      | exact ih3 _ _ _ _
      | exact heddleref31_digit.mono _ _
      | exact LeO.none _
      | refine LeO.ite ?_ ?_
      | refine LeO.bind ?_ (fun _ => ?_)
    · intro y0 y1 y2 y3
      unfold heddleref31_quoted.j1
      repeat' first
      | (with_reducible exact ih0 _ _ _)
      | (with_reducible exact ih1 _ _ _ _)
      | (with_reducible exact ih2 _ _ _ _ _ _)
      | (with_reducible exact ih3 _ _ _ _)
      | (with_reducible exact heddleref31_digit.mono _ _)
      | (with_reducible exact LeO.refl _)
      | (with_reducible exact LeO.none _)
      | (with_reducible refine LeO.ite ?_ ?_)
      | (with_reducible refine LeO.bind ?_ (fun _ => ?_))
      | exact ih0 _ _ _
      | exact ih1 _ _ _ _
      | exact ih2 _ _ _ _ _ _
      | exact ih3 _ _ _ _
      | exact heddleref31_digit.mono _ _
      | exact LeO.none _
      | refine LeO.ite ?_ ?_
      | refine LeO.bind ?_ (fun _ => ?_)
    · intro y0 y1 y2 y3 y4 y5
      unfold heddleref31_quoted.j2
      repeat' first
      | (with_reducible exact ih0 _ _ _)
      | (with_reducible exact ih1 _ _ _ _)
      | (with_reducible exact ih2 _ _ _ _ _ _)
      | (with_reducible exact ih3 _ _ _ _)
      | (with_reducible exact heddleref31_digit.mono _ _)
      | (with_reducible exact LeO.refl _)
      | (with_reducible exact LeO.none _)
      | (with_reducible refine LeO.ite ?_ ?_)
      | (with_reducible refine LeO.bind ?_ (fun _ => ?_))
      | exact ih0 _ _ _
      | exact ih1 _ _ _ _
      | exact ih2 _ _ _ _ _ _
      | exact ih3 _ _ _ _
      | exact heddleref31_digit.mono _ _
      | exact LeO.none _
      | refine LeO.ite ?_ ?_
      | refine LeO.bind ?_ (fun _ => ?_)
    · intro y0 y1 y2 y3
      unfold heddleref31_quoted.j3
      repeat' first
      | (with_reducible exact ih0 _ _ _)
      | (with_reducible exact ih1 _ _ _ _)
      | (with_reducible exact ih2 _ _ _ _ _ _)
      | (with_reducible exact ih3 _ _ _ _)
      | (with_reducible exact heddleref31_digit.mono _ _)
      | (with_reducible exact LeO.refl _)
      | (with_reducible exact LeO.none _)
      | (with_reducible refine LeO.ite ?_ ?_)
      | (with_reducible refine LeO.bind ?_ (fun _ => ?_))
      | exact ih0 _ _ _
      | exact ih1 _ _ _ _
      | exact ih2 _ _ _ _ _ _
      | exact ih3 _ _ _ _
      | exact heddleref31_digit.mono _ _
      | exact LeO.none _
      | refine LeO.ite ?_ ?_
      | refine LeO.bind ?_ (fun _ => ?_)
theorem heddleref31_quoted.mono : ∀ a0 a1 k, LeO (heddleref31_quoted.f k a0 a1) (heddleref31_quoted.f (k + 1) a0 a1) := by
  intro a0 a1 k
  obtain ⟨ih0, ih1, ih2, ih3⟩ := heddleref31_quoted.mono_l k
  unfold heddleref31_quoted.f
  repeat' first
      | (with_reducible exact ih0 _ _ _)
      | (with_reducible exact ih1 _ _ _ _)
      | (with_reducible exact ih2 _ _ _ _ _ _)
      | (with_reducible exact ih3 _ _ _ _)
      | (with_reducible exact heddleref31_digit.mono _ _)
      | (with_reducible exact LeO.refl _)
      | (with_reducible exact LeO.none _)
      | (with_reducible refine LeO.ite ?_ ?_)
      | (with_reducible refine LeO.bind ?_ (fun _ => ?_))
      | exact ih0 _ _ _
      | exact ih1 _ _ _ _
      | exact ih2 _ _ _ _ _ _
      | exact ih3 _ _ _ _
      | exact heddleref31_digit.mono _ _
      | exact LeO.none _
      | refine LeO.ite ?_ ?_
      | refine LeO.bind ?_ (fun _ => ?_)
def heddleref31_quoted.T23 : Bool × List (List Nat × List Nat) := (true, [([], []), ([], []), ([], []), ([1, 2], [1, 2]), ([3], [3]), ([4], [4]), ([], []), ([], []), ([7], [7]), ([6, 8], [6, 8]), ([9, 4], [9]), ([5, 10], [5, 10]), ([11], [11]), ([12], [12]), ([0, 13, 10], [0, 13]), ([14, 14, 0, 1, 2, 3, 4, 5, 6, 7, 8, 9, 10, 11, 12, 13, 14], [0, 14])])
def heddleref31_quoted.B23 : List Nat := [0, 0, 0, 6, 14, 30, 0, 0, 128, 448, 990, 2046, 4094, 8190, 16383, 32767]
theorem heddleref31_quoted.tab23 : rtab .any (opsOf Try.f18 23) = heddleref31_quoted.T23 := by kernel_rfl
theorem heddleref31_quoted.bits23 : waitsOk heddleref31_quoted.T23.2 heddleref31_quoted.B23 = true := by kernel_rfl
set_option maxHeartbeats 8000000 in
set_option maxRecDepth 100000 in
theorem heddleref31_quoted.calls (k : Nat) (a0 : ByteArray) (a1 : Int) (r1 : ByteArray) (r2 : Int) (w : World) (h : heddleref31_quoted.f k a0 a1 = some (r1, r2)) :
    Calls Try.prog 18 #[.string a0, .int .i64 a1] w fun e w' => e = .returned (.tuple #[.string r1, .int .i64 r2]) ∧ Below w.heap.size w w' := by
  have HB := Aside0.mk (Below.refl w.heap.size w)
  have H : (heddleref31_quoted.l0 k a0 (wrap64 (a1 + 1)) ([] : List Int)) = some (r1, r2) := h
  clear h
  have H' := Aside0.mk H
  clear H
  go_enter Try.func18, Try.ntmps18
  go_wp2
  go_loopg [1, 6] k (fun kq v1 v6 w' => ∃ (x1_1 : Int) (x6_1 : List Int), v1 = .int .i64 x1_1 ∧ Aside0 (heddleref31_quoted.l0 kq a0 x1_1 x6_1 = some (r1, r2)) ∧ Aside0 (kq ≤ k) ∧ Aside0 (Kd.R (Kd.int .u8) 5 w' w.heap.size (fun _ => True) v6 x6_1) ∧ Aside0 (Below w.heap.size w w'))
  case atStart => exact ⟨(wrap64 (a1 + 1)), (([] : List Int)), (by first | rfl | (simp; done) | (simp [*]; done)), H', ⟨Nat.le_refl _⟩, ⟨by first | exact Kd.R_nil _ _ _ _ _ | exact Kd.N_nil _ _ _ _ _ | exact Kd.V_nil _ _ _ _ _ | exact Kd.Q_nil _ _ _ _ _ | exact Kd.S_nil _ _ _ _ _⟩, ⟨by repeat (first | (with_reducible first | exact HB.out | apply below_alloc | apply pw_below_drewN | apply below_drew1) | exact HB.out)⟩⟩
  case round =>
    clear H'
    try clear c1
    try clear p2
    obtain ⟨x1_1, x6_1, rfl, HA, HK1, HO_6, HB⟩ := hrel
    cases gk with
    | zero => exact absurd HA.out (by simp [heddleref31_quoted.l0])
    | succ k1 =>
      have H := HA.out
      clear HA
      simp only [heddleref31_quoted.l0] at H
      have HC3 := Aside0.mk H
      clear H
      go_upto_region 3 with (fail)
      go_cut [19] (fun v19 wc => ∃ (kq : Nat) (x19_2 : Bool), v19 = .bool x19_2 ∧ Aside0 (heddleref31_quoted.j1 kq a0 x1_1 x6_1 x19_2 = some (r1, r2)) ∧ Aside0 (kq ≤ k1) ∧ Aside0 (Kd.R (Kd.int .u8) 5 wc w.heap.size (fun _ => True) u6 x6_1) ∧ Aside0 (Below w.heap.size w wc))
      case first =>
        have H := HC3.out
        clear HC3
        by_cases c4 : x1_1 < (a0.size : Int)
        · rw [if_pos c4] at H
          have c4b0 : decide (x1_1 < (a0.size : Int)) = true := decide_eq_true c4
          clear c4
          (first | rw [c4b0] | (simp only [i64_w, i32_w]; rw [c4b0]) | skip)
          by_cases c5 : 0 ≤ x1_1
          · rw [if_pos c5] at H
            have c5b0 : decide (0 ≤ x1_1) = true := decide_eq_true c5
            clear c5
            have H' := Aside0.mk H
            clear H
            have p6 : 0 ≤ (x1_1 : Int) := of_decide_eq_true (by first | (with_reducible assumption) | assumption)
            have q6 : x1_1 < (a0.size : Int) := of_decide_eq_true (by first | (with_reducible assumption) | assumption)
            have hx6 := bt_at a0 x1_1
            replace p6 := eq_true p6
            replace q6 := eq_true q6
            go_wp2
            first | go_meet | (subst_eqs; go_meet)
            case rel => exact ⟨_, (((bt a0 x1_1) != 34)), (by first | rfl | (simp; done) | (simp [*]; done)), H', ⟨by have := HK1.out; first | omega | exact Nat.le_refl _⟩, ⟨by (with_reducible repeat (first | apply Kd.R_alloc | apply Kd.R_drewN | apply Kd.R_drew)); exact HO_6.out⟩, ⟨by repeat (first | (with_reducible first | exact HB.out | apply below_alloc | apply pw_below_drewN | apply below_drew1) | exact HB.out)⟩⟩
          · rw [if_neg c5] at H
            exact absurd H (by simp)
        · rw [if_neg c4] at H
          have c4b0 : decide (x1_1 < (a0.size : Int)) = false := decide_eq_false c4
          clear c4
          (first | rw [c4b0] | (simp only [i64_w, i32_w]; rw [c4b0]) | skip)
          have H' := Aside0.mk H
          clear H
          go_wp2
          first | go_meet | (subst_eqs; go_meet)
          case rel => exact ⟨_, (false), (by first | rfl | (simp; done) | (simp [*]; done)), H', ⟨by have := HK1.out; first | omega | exact Nat.le_refl _⟩, ⟨by (with_reducible repeat (first | apply Kd.R_alloc | apply Kd.R_drewN | apply Kd.R_drew)); exact HO_6.out⟩, ⟨by repeat (first | (with_reducible first | exact HB.out | apply below_alloc | apply pw_below_drewN | apply below_drew1) | exact HB.out)⟩⟩
      case rest =>
        clear HC3
        try clear c1
        try clear p2
        try clear c4
        try clear c4b0
        try clear c5
        try clear c5b0
        try clear p6
        try clear q6
        try clear hx6
        try clear p2
        try clear p6
        try clear q6
        obtain ⟨kq, x19_2, rfl, HA, HJ2, HO_6, HB⟩ := hcut
        cases kq with
        | zero => exact absurd HA.out (by simp [heddleref31_quoted.j1])
        | succ kj2 =>
          have H := HA.out
          clear HA
          simp only [heddleref31_quoted.j1] at H
          by_cases c7 : x19_2 = true
          · subst c7
            have H1 : (if 0 ≤ x1_1 then (if x1_1 < (a0.size : Int) then (if (bt a0 x1_1) = 92 then (if (wrap64 (x1_1 + 1)) ≥ (a0.size : Int) then (some ((⟨#[]⟩ : ByteArray), (-1))) else (if 0 ≤ (wrap64 (x1_1 + 1)) then (if (wrap64 (x1_1 + 1)) < (a0.size : Int) then (if (bt a0 (wrap64 (x1_1 + 1))) = 34 then (heddleref31_quoted.j2 kj2 a0 (wrap64 (x1_1 + 2)) x6_1 (bt a0 (wrap64 (x1_1 + 1))) (bt a0 (wrap64 (x1_1 + 1))) ((bt a0 (wrap64 (x1_1 + 1))) == 34)) else (heddleref31_quoted.j2 kj2 a0 (wrap64 (x1_1 + 2)) x6_1 (bt a0 (wrap64 (x1_1 + 1))) (bt a0 (wrap64 (x1_1 + 1))) ((bt a0 (wrap64 (x1_1 + 1))) == 92))) else (none)) else (none))) else (if x6_1.length < 140737488355328 then (heddleref31_quoted.l0 kj2 a0 (wrap64 (x1_1 + 1)) (x6_1 ++ [bt a0 x1_1])) else (none))) else (none)) else (none)) = some (r1, r2) := by rw [if_pos rfl] at H; exact H
            clear H
            have H := H1
            clear H1
            by_cases c8 : 0 ≤ x1_1
            · rw [if_pos c8] at H
              have c8b0 : decide (0 ≤ x1_1) = true := decide_eq_true c8
              clear c8
              by_cases c9 : x1_1 < (a0.size : Int)
              · rw [if_pos c9] at H
                have c9b0 : decide (x1_1 < (a0.size : Int)) = true := decide_eq_true c9
                clear c9
                by_cases c11 : (bt a0 x1_1) = 92
                · rw [if_pos c11] at H
                  have c11b0 : ((bt a0 x1_1) == 92) = true := beq_iff_eq.mpr c11
                  have c11b1 : ((bt a0 x1_1) != 92) = false := bne_eq_false_iff_eq.mpr c11
                  clear c11
                  by_cases c12 : (wrap64 (x1_1 + 1)) ≥ (a0.size : Int)
                  · rw [if_pos c12] at H
                    have c12b0 : decide ((a0.size : Int) ≤ (wrap64 (x1_1 + 1))) = true := decide_eq_true c12
                    clear c12
                    simp only [Option.some.injEq, Prod.mk.injEq] at H
                    obtain ⟨rfl, rfl⟩ := H
                    have p10 : 0 ≤ (x1_1 : Int) := of_decide_eq_true (by first | (with_reducible assumption) | assumption)
                    have q10 : x1_1 < (a0.size : Int) := of_decide_eq_true (by first | (with_reducible assumption) | assumption)
                    have hx10 := bt_at a0 x1_1
                    replace p10 := eq_true p10
                    replace q10 := eq_true q10
                    go_wp2
                    go_ret2
                    exact ⟨by first | rfl | (simp [errW_none, errW_some] <;> rfl) | (simp [*, errW_none, errW_some] <;> rfl), by repeat (first | (with_reducible first | exact HB.out | apply below_alloc | apply pw_below_drewN | apply below_drew1) | exact HB.out)⟩
                  · rw [if_neg c12] at H
                    have c12b0 : decide ((a0.size : Int) ≤ (wrap64 (x1_1 + 1))) = false := decide_eq_false c12
                    clear c12
                    obtain ⟨ji13, hji13⟩ : ∃ j_ : Int, (wrap64 (x1_1 + 1)) = j_ := ⟨_, rfl⟩
                    replace H : (if 0 ≤ (ji13) then (if (ji13) < (a0.size : Int) then (if (bt a0 (ji13)) = 34 then (heddleref31_quoted.j2 kj2 a0 (wrap64 (x1_1 + 2)) x6_1 (bt a0 (ji13)) (bt a0 (ji13)) ((bt a0 (ji13)) == 34)) else (heddleref31_quoted.j2 kj2 a0 (wrap64 (x1_1 + 2)) x6_1 (bt a0 (ji13)) (bt a0 (ji13)) ((bt a0 (ji13)) == 92))) else (none)) else (none)) = some (r1, r2) := by first | (rw [hji13] at H; exact H) | (simp only [hji13] at H ⊢; exact H)
                    (try rw [hji13] at c12b0)
                    have hji13w : (IntKind.i64.wrap (x1_1 + 1)) = ji13 := (i64_w _).trans hji13
                    by_cases c14 : 0 ≤ (ji13)
                    · rw [if_pos c14] at H
                      have c14b0 : decide (0 ≤ (ji13)) = true := decide_eq_true c14
                      clear c14
                      by_cases c15 : (ji13) < (a0.size : Int)
                      · rw [if_pos c15] at H
                        have c15b0 : decide ((ji13) < (a0.size : Int)) = true := decide_eq_true c15
                        clear c15
                        have HC17 := Aside0.mk H
                        clear H
                        have p10 : 0 ≤ (x1_1 : Int) := of_decide_eq_true (by first | (with_reducible assumption) | assumption)
                        have q10 : x1_1 < (a0.size : Int) := of_decide_eq_true (by first | (with_reducible assumption) | assumption)
                        have hx10 := bt_at a0 x1_1
                        replace p10 := eq_true p10
                        replace q10 := eq_true q10
                        have p16 : 0 ≤ ((ji13) : Int) := of_decide_eq_true (by first | (with_reducible assumption) | assumption)
                        have q16 : (ji13) < (a0.size : Int) := of_decide_eq_true (by first | (with_reducible assumption) | assumption)
                        have hx16 := bt_at a0 (ji13)
                        replace p16 := eq_true p16
                        replace q16 := eq_true q16
                        go_upto_if 44 with (fail)
                        go_cut [44] (fun v44 wc => ∃ (kq : Nat) (x44_16 : Bool), v44 = .bool x44_16 ∧ Aside0 (heddleref31_quoted.j2 kq a0 (wrap64 (x1_1 + 2)) x6_1 (bt a0 (ji13)) (bt a0 (ji13)) x44_16 = some (r1, r2)) ∧ Aside0 (kq ≤ kj2) ∧ Aside0 (Kd.R (Kd.int .u8) 5 wc w.heap.size (fun _ => True) u6 x6_1) ∧ Aside0 (Below w.heap.size w wc))
                        case first =>
                          have H := HC17.out
                          clear HC17
                          by_cases c18 : (bt a0 (ji13)) = 34
                          · rw [if_pos c18] at H
                            have c18b0 : ((bt a0 (ji13)) == 34) = true := beq_iff_eq.mpr c18
                            have c18b1 : ((bt a0 (ji13)) != 34) = false := bne_eq_false_iff_eq.mpr c18
                            clear c18
                            (first | rw [c18b0] | (simp only [i64_w, i32_w]; rw [c18b0]) | skip)
                            have H' := Aside0.mk H
                            clear H
                            go_wp2
                            first | go_meet | (subst_eqs; go_meet)
                            case rel => exact ⟨_, (((bt a0 (ji13)) == 34)), (by first | rfl | (simp; done) | (simp only [← hji13] <;> (first | rfl | (simp; done))) | (simp [*]; done)), H', ⟨by have := HK1.out; have := HJ2.out; first | omega | exact Nat.le_refl _⟩, ⟨by (with_reducible repeat (first | apply Kd.R_alloc | apply Kd.R_drewN | apply Kd.R_drew)); exact HO_6.out⟩, ⟨by repeat (first | (with_reducible first | exact HB.out | apply below_alloc | apply pw_below_drewN | apply below_drew1) | exact HB.out)⟩⟩
                          · rw [if_neg c18] at H
                            have c18b0 : ((bt a0 (ji13)) == 34) = false := beq_eq_false_iff_ne.mpr c18
                            have c18b1 : ((bt a0 (ji13)) != 34) = true := bne_iff_ne.mpr c18
                            (first | rw [c18b0] | (simp only [i64_w, i32_w]; rw [c18b0]) | skip)
                            have H' := Aside0.mk H
                            clear H
                            go_wp2
                            first | go_meet | (subst_eqs; go_meet)
                            case rel => exact ⟨_, (((bt a0 (ji13)) == 92)), (by first | rfl | (simp; done) | (simp only [← hji13] <;> (first | rfl | (simp; done))) | (simp [*]; done)), H', ⟨by have := HK1.out; have := HJ2.out; first | omega | exact Nat.le_refl _⟩, ⟨by (with_reducible repeat (first | apply Kd.R_alloc | apply Kd.R_drewN | apply Kd.R_drew)); exact HO_6.out⟩, ⟨by repeat (first | (with_reducible first | exact HB.out | apply below_alloc | apply pw_below_drewN | apply below_drew1) | exact HB.out)⟩⟩
                        case rest =>
                          clear HC17
                          try clear c1
                          try clear p1
                          try clear q1
                          try clear hx1
                          try clear p2
                          try clear c4
                          try clear c4b0
                          try clear c5
                          try clear c5b0
                          try clear p6
                          try clear q6
                          try clear hx6
                          try clear c7
                          try clear c8
                          try clear c8b0
                          try clear c9
                          try clear c9b0
                          try clear p10
                          try clear q10
                          try clear hx10
                          try clear c11
                          try clear c11b0
                          try clear c11b1
                          try clear c12
                          try clear c12b0
                          try clear c14
                          try clear c14b0
                          try clear c15
                          try clear c15b0
                          try clear p16
                          try clear q16
                          try clear hx16
                          try clear c18
                          try clear c18b0
                          try clear c18b1
                          try clear p10
                          try clear p16
                          try clear p2
                          try clear p6
                          try clear q10
                          try clear q16
                          try clear q6
                          obtain ⟨kq, x44_16, rfl, HA, HJ16, HO_6, HB⟩ := hcut
                          cases kq with
                          | zero => exact absurd HA.out (by simp [heddleref31_quoted.j2])
                          | succ kj16 =>
                            have H := HA.out
                            clear HA
                            simp only [heddleref31_quoted.j2] at H
                            by_cases c19 : x44_16 = true
                            · subst c19
                              have H1 : (if x6_1.length < 140737488355328 then (heddleref31_quoted.l0 kj16 a0 (wrap64 (x1_1 + 2)) (x6_1 ++ [(bt a0 (ji13))])) else (none)) = some (r1, r2) := by rw [if_pos rfl] at H; exact H
                              clear H
                              have H := H1
                              clear H1
                              by_cases c20 : x6_1.length < 140737488355328
                              · rw [if_pos c20] at H
                                have LMc20 := Aside0.mk c20
                                clear c20
                                obtain ⟨y126, hy126⟩ : ∃ y_ : List Int, y_ = (x6_1 ++ [(bt a0 (ji13))]) := ⟨_, rfl⟩
                                replace H : (heddleref31_quoted.l0 kj16 a0 (wrap64 (x1_1 + 2)) y126) = some (r1, r2) := by first | (rw [hy126]; with_reducible exact H) | (have H2_ := (Option.bind_some _ _).symm.trans H; rw [hy126]; with_reducible exact H2_) | (have H2_ := (Option.bind_some _ _).symm.trans H; with_reducible exact H2_) | with_reducible exact H | (rw [hy126]; exact H) | exact H
                                have Ny126 := Aside0.mk hy126
                                clear hy126
                                have H' := Aside0.mk H
                                clear H
                                go_wp2_with (first | ((with_reducible refine gate_builtin (b := .append) (xs := #[.tmp 47, .tmp 49]) rfl ?_); (try (refine gate_guard (by rfl) ?_; dsimp only)); at_builtin; refine Kd.R_append (Kd.int .u8) (w0 := w) w.heap.size rfl (.tmp 47) (.tmp 49) 30 5 (.int .u8 0) 1 rfl Try.underlying30 info5 rfl (by decide) (by omega) u6 x6_1 (bt a0 (ji13)) [.int .u8 (bt a0 (ji13))] (fun _ => True) (fun _ => False) rfl rfl ?aP (fun _ hk => hk.elim) ?aF ?aO ?aB ?aS ?aL ?_; (case aP => exact rfl); (case aB => exact (by repeat (first | (with_reducible first | exact HB.out | apply below_alloc | apply pw_below_drewN | apply below_drew1) | exact HB.out))); (case aF => exact (fun _ _ => trivial)); (case aO => exact (by (with_reducible repeat (first | apply Kd.R_alloc | apply Kd.R_drewN | apply Kd.R_drew)); exact HO_6.out)); (case aS => exact (below_size (by repeat (first | (with_reducible first | exact HB.out | apply below_alloc | apply pw_below_drewN | apply below_drew1) | exact HB.out)))); (case aL => have := LMc20.out; omega); intro v127 w21 ho hb hg hat; rw [← Ny126.out] at ho; have n0_ := Aside0.mk (hb); have n1_ := Aside0.mk (ho); clear HB; clear HO_6; have HB := n0_; have HO128 := n1_; clear n0_ n1_; clear ho hb hg hat))
                                go_roundg kj16
                                case measure => have := HK1.out; have := HJ2.out; have := HJ16.out; omega
                                case rel => exact ⟨((wrap64 (x1_1 + 2))), (y126), (by first | rfl | (simp; done) | (simp [*]; done)), H', ⟨by have := HK1.out; have := HJ2.out; have := HJ16.out; omega⟩, ⟨by (with_reducible repeat (first | apply Kd.R_alloc | apply Kd.R_drewN | apply Kd.R_drew)); exact HO128.out⟩, ⟨by repeat (first | (with_reducible first | exact HB.out | apply below_alloc | apply pw_below_drewN | apply below_drew1) | exact HB.out)⟩⟩
                              · rw [if_neg c20] at H
                                exact absurd H (by simp)
                            · replace c19 := Bool.eq_false_iff.mpr c19
                              subst c19
                              have H1 : (if (bt a0 (ji13)) = 110 then (if x6_1.length < 140737488355328 then (heddleref31_quoted.l0 kj16 a0 (wrap64 (x1_1 + 2)) (x6_1 ++ [10])) else (none)) else (if (bt a0 (ji13)) = 116 then (if x6_1.length < 140737488355328 then (heddleref31_quoted.l0 kj16 a0 (wrap64 (x1_1 + 2)) (x6_1 ++ [9])) else (none)) else (if (bt a0 (ji13)) = 120 then (if (wrap64 ((wrap64 (x1_1 + 2)) + 1)) ≥ (a0.size : Int) then (heddleref31_quoted.j3 kj16 a0 (wrap64 (x1_1 + 2)) x6_1 true) else (if 0 ≤ (wrap64 (x1_1 + 2)) then (if (wrap64 (x1_1 + 2)) < (a0.size : Int) then ((heddleref31_digit.f kj16 (bt a0 (wrap64 (x1_1 + 2)))).bind fun t135 => (if t135 < 0 then (heddleref31_quoted.j3 kj16 a0 (wrap64 (x1_1 + 2)) x6_1 true) else (if 0 ≤ (wrap64 ((wrap64 (x1_1 + 2)) + 1)) then (if (wrap64 ((wrap64 (x1_1 + 2)) + 1)) < (a0.size : Int) then ((heddleref31_digit.f kj16 (bt a0 (wrap64 ((wrap64 (x1_1 + 2)) + 1)))).bind fun t136 => (heddleref31_quoted.j3 kj16 a0 (wrap64 (x1_1 + 2)) x6_1 (decide (t136 < 0)))) else (none)) else (none)))) else (none)) else (none))) else (some ((⟨#[]⟩ : ByteArray), (-1)))))) = some (r1, r2) := by rw [if_neg (show ¬ (false = true) by decide)] at H; exact H
                              clear H
                              have H := H1
                              clear H1
                              by_cases c22 : (bt a0 (ji13)) = 110
                              · rw [if_pos c22] at H
                                have c22b0 : ((bt a0 (ji13)) == 110) = true := beq_iff_eq.mpr c22
                                have c22b1 : ((bt a0 (ji13)) != 110) = false := bne_eq_false_iff_eq.mpr c22
                                clear c22
                                by_cases c23 : x6_1.length < 140737488355328
                                · rw [if_pos c23] at H
                                  have LMc23 := Aside0.mk c23
                                  clear c23
                                  obtain ⟨y129, hy129⟩ : ∃ y_ : List Int, y_ = (x6_1 ++ [10]) := ⟨_, rfl⟩
                                  replace H : (heddleref31_quoted.l0 kj16 a0 (wrap64 (x1_1 + 2)) y129) = some (r1, r2) := by first | (rw [hy129]; with_reducible exact H) | (have H2_ := (Option.bind_some _ _).symm.trans H; rw [hy129]; with_reducible exact H2_) | (have H2_ := (Option.bind_some _ _).symm.trans H; with_reducible exact H2_) | with_reducible exact H | (rw [hy129]; exact H) | exact H
                                  have Ny129 := Aside0.mk hy129
                                  clear hy129
                                  have H' := Aside0.mk H
                                  clear H
                                  go_wp2_with (first | ((with_reducible refine gate_builtin (b := .append) (xs := #[.tmp 53, .tmp 54]) rfl ?_); (try (refine gate_guard (by rfl) ?_; dsimp only)); at_builtin; refine Kd.R_append (Kd.int .u8) (w0 := w) w.heap.size rfl (.tmp 53) (.tmp 54) 30 5 (.int .u8 0) 1 rfl Try.underlying30 info5 rfl (by decide) (by omega) u6 x6_1 10 [.int .u8 10] (fun _ => True) (fun _ => False) rfl rfl ?aP (fun _ hk => hk.elim) ?aF ?aO ?aB ?aS ?aL ?_; (case aP => exact rfl); (case aB => exact (by repeat (first | (with_reducible first | exact HB.out | apply below_alloc | apply pw_below_drewN | apply below_drew1) | exact HB.out))); (case aF => exact (fun _ _ => trivial)); (case aO => exact (by (with_reducible repeat (first | apply Kd.R_alloc | apply Kd.R_drewN | apply Kd.R_drew)); exact HO_6.out)); (case aS => exact (below_size (by repeat (first | (with_reducible first | exact HB.out | apply below_alloc | apply pw_below_drewN | apply below_drew1) | exact HB.out)))); (case aL => have := LMc23.out; omega); intro v130 w24 ho hb hg hat; rw [← Ny129.out] at ho; have n0_ := Aside0.mk (hb); have n1_ := Aside0.mk (ho); clear HB; clear HO_6; have HB := n0_; have HO131 := n1_; clear n0_ n1_; clear ho hb hg hat))
                                  go_roundg kj16
                                  case measure => have := HK1.out; have := HJ2.out; have := HJ16.out; omega
                                  case rel => exact ⟨((wrap64 (x1_1 + 2))), (y129), (by first | rfl | (simp; done) | (simp [*]; done)), H', ⟨by have := HK1.out; have := HJ2.out; have := HJ16.out; omega⟩, ⟨by (with_reducible repeat (first | apply Kd.R_alloc | apply Kd.R_drewN | apply Kd.R_drew)); exact HO131.out⟩, ⟨by repeat (first | (with_reducible first | exact HB.out | apply below_alloc | apply pw_below_drewN | apply below_drew1) | exact HB.out)⟩⟩
                                · rw [if_neg c23] at H
                                  exact absurd H (by simp)
                              · rw [if_neg c22] at H
                                have c22b0 : ((bt a0 (ji13)) == 110) = false := beq_eq_false_iff_ne.mpr c22
                                have c22b1 : ((bt a0 (ji13)) != 110) = true := bne_iff_ne.mpr c22
                                by_cases c25 : (bt a0 (ji13)) = 116
                                · rw [if_pos c25] at H
                                  have c25b0 : ((bt a0 (ji13)) == 116) = true := beq_iff_eq.mpr c25
                                  have c25b1 : ((bt a0 (ji13)) != 116) = false := bne_eq_false_iff_eq.mpr c25
                                  clear c25
                                  by_cases c26 : x6_1.length < 140737488355328
                                  · rw [if_pos c26] at H
                                    have LMc26 := Aside0.mk c26
                                    clear c26
                                    obtain ⟨y132, hy132⟩ : ∃ y_ : List Int, y_ = (x6_1 ++ [9]) := ⟨_, rfl⟩
                                    replace H : (heddleref31_quoted.l0 kj16 a0 (wrap64 (x1_1 + 2)) y132) = some (r1, r2) := by first | (rw [hy132]; with_reducible exact H) | (have H2_ := (Option.bind_some _ _).symm.trans H; rw [hy132]; with_reducible exact H2_) | (have H2_ := (Option.bind_some _ _).symm.trans H; with_reducible exact H2_) | with_reducible exact H | (rw [hy132]; exact H) | exact H
                                    have Ny132 := Aside0.mk hy132
                                    clear hy132
                                    have H' := Aside0.mk H
                                    clear H
                                    go_wp2_with (first | ((with_reducible refine gate_builtin (b := .append) (xs := #[.tmp 58, .tmp 59]) rfl ?_); (try (refine gate_guard (by rfl) ?_; dsimp only)); at_builtin; refine Kd.R_append (Kd.int .u8) (w0 := w) w.heap.size rfl (.tmp 58) (.tmp 59) 30 5 (.int .u8 0) 1 rfl Try.underlying30 info5 rfl (by decide) (by omega) u6 x6_1 9 [.int .u8 9] (fun _ => True) (fun _ => False) rfl rfl ?aP (fun _ hk => hk.elim) ?aF ?aO ?aB ?aS ?aL ?_; (case aP => exact rfl); (case aB => exact (by repeat (first | (with_reducible first | exact HB.out | apply below_alloc | apply pw_below_drewN | apply below_drew1) | exact HB.out))); (case aF => exact (fun _ _ => trivial)); (case aO => exact (by (with_reducible repeat (first | apply Kd.R_alloc | apply Kd.R_drewN | apply Kd.R_drew)); exact HO_6.out)); (case aS => exact (below_size (by repeat (first | (with_reducible first | exact HB.out | apply below_alloc | apply pw_below_drewN | apply below_drew1) | exact HB.out)))); (case aL => have := LMc26.out; omega); intro v133 w27 ho hb hg hat; rw [← Ny132.out] at ho; have n0_ := Aside0.mk (hb); have n1_ := Aside0.mk (ho); clear HB; clear HO_6; have HB := n0_; have HO134 := n1_; clear n0_ n1_; clear ho hb hg hat))
                                    go_roundg kj16
                                    case measure => have := HK1.out; have := HJ2.out; have := HJ16.out; omega
                                    case rel => exact ⟨((wrap64 (x1_1 + 2))), (y132), (by first | rfl | (simp; done) | (simp [*]; done)), H', ⟨by have := HK1.out; have := HJ2.out; have := HJ16.out; omega⟩, ⟨by (with_reducible repeat (first | apply Kd.R_alloc | apply Kd.R_drewN | apply Kd.R_drew)); exact HO134.out⟩, ⟨by repeat (first | (with_reducible first | exact HB.out | apply below_alloc | apply pw_below_drewN | apply below_drew1) | exact HB.out)⟩⟩
                                  · rw [if_neg c26] at H
                                    exact absurd H (by simp)
                                · rw [if_neg c25] at H
                                  have c25b0 : ((bt a0 (ji13)) == 116) = false := beq_eq_false_iff_ne.mpr c25
                                  have c25b1 : ((bt a0 (ji13)) != 116) = true := bne_iff_ne.mpr c25
                                  by_cases c28 : (bt a0 (ji13)) = 120
                                  · rw [if_pos c28] at H
                                    have c28b0 : ((bt a0 (ji13)) == 120) = true := beq_iff_eq.mpr c28
                                    have c28b1 : ((bt a0 (ji13)) != 120) = false := bne_eq_false_iff_eq.mpr c28
                                    clear c28
                                    have HC29 := Aside0.mk H
                                    clear H
                                    go_upto_region 21 with (fail)
                                    go_cut [82] (fun v82 wc => ∃ (kq : Nat) (x82_28 : Bool), v82 = .bool x82_28 ∧ Aside0 (heddleref31_quoted.j3 kq a0 (wrap64 (x1_1 + 2)) x6_1 x82_28 = some (r1, r2)) ∧ Aside0 (kq ≤ kj16) ∧ Aside0 (Kd.R (Kd.int .u8) 5 wc w.heap.size (fun _ => True) u6 x6_1) ∧ Aside0 (Below w.heap.size w wc))
                                    case first =>
                                      have H := HC29.out
                                      clear HC29
                                      by_cases c30 : (wrap64 ((wrap64 (x1_1 + 2)) + 1)) ≥ (a0.size : Int)
                                      · rw [if_pos c30] at H
                                        have c30b0 : decide ((a0.size : Int) ≤ (wrap64 ((wrap64 (x1_1 + 2)) + 1))) = true := decide_eq_true c30
                                        clear c30
                                        (first | rw [c30b0] | (simp only [i64_w, i32_w]; rw [c30b0]) | skip)
                                        have H' := Aside0.mk H
                                        clear H
                                        go_wp2
                                        first | go_meet | (subst_eqs; go_meet)
                                        case rel => exact ⟨_, (true), (by first | rfl | (simp; done) | (simp [*]; done)), H', ⟨by have := HK1.out; have := HJ2.out; have := HJ16.out; first | omega | exact Nat.le_refl _⟩, ⟨by (with_reducible repeat (first | apply Kd.R_alloc | apply Kd.R_drewN | apply Kd.R_drew)); exact HO_6.out⟩, ⟨by repeat (first | (with_reducible first | exact HB.out | apply below_alloc | apply pw_below_drewN | apply below_drew1) | exact HB.out)⟩⟩
                                      · rw [if_neg c30] at H
                                        have c30b0 : decide ((a0.size : Int) ≤ (wrap64 ((wrap64 (x1_1 + 2)) + 1))) = false := decide_eq_false c30
                                        clear c30
                                        (first | rw [c30b0] | (simp only [i64_w, i32_w]; rw [c30b0]) | skip)
                                        obtain ⟨ji31, hji31⟩ : ∃ j_ : Int, (wrap64 (x1_1 + 2)) = j_ := ⟨_, rfl⟩
                                        replace H : (if 0 ≤ (ji31) then (if (ji31) < (a0.size : Int) then ((heddleref31_digit.f kj16 (bt a0 (ji31))).bind fun t135 => (if t135 < 0 then (heddleref31_quoted.j3 kj16 a0 (ji31) x6_1 true) else (if 0 ≤ (wrap64 ((ji31) + 1)) then (if (wrap64 ((ji31) + 1)) < (a0.size : Int) then ((heddleref31_digit.f kj16 (bt a0 (wrap64 ((ji31) + 1)))).bind fun t136 => (heddleref31_quoted.j3 kj16 a0 (ji31) x6_1 (decide (t136 < 0)))) else (none)) else (none)))) else (none)) else (none)) = some (r1, r2) := by first | (rw [hji31] at H; exact H) | (simp only [hji31] at H ⊢; exact H)
                                        (try rw [hji31] at c30b0)
                                        have hji31w : (IntKind.i64.wrap (x1_1 + 2)) = ji31 := (i64_w _).trans hji31
                                        by_cases c32 : 0 ≤ (ji31)
                                        · rw [if_pos c32] at H
                                          have c32b0 : decide (0 ≤ (ji31)) = true := decide_eq_true c32
                                          clear c32
                                          by_cases c33 : (ji31) < (a0.size : Int)
                                          · rw [if_pos c33] at H
                                            have c33b0 : decide ((ji31) < (a0.size : Int)) = true := decide_eq_true c33
                                            clear c33
                                            replace H := Option.bind_eq_some_iff.mp H
                                            obtain ⟨t135, A350, H⟩ := H
                                            replace H : (if t135 < 0 then (heddleref31_quoted.j3 kj16 a0 (ji31) x6_1 true) else (if 0 ≤ (wrap64 ((ji31) + 1)) then (if (wrap64 ((ji31) + 1)) < (a0.size : Int) then ((heddleref31_digit.f kj16 (bt a0 (wrap64 ((ji31) + 1)))).bind fun t136 => (heddleref31_quoted.j3 kj16 a0 (ji31) x6_1 (decide (t136 < 0)))) else (none)) else (none))) = some (r1, r2) := H
                                            have A35 := Aside0.mk A350
                                            clear A350
                                            by_cases c36 : t135 < 0
                                            · rw [if_pos c36] at H
                                              have c36b0 : decide (t135 < 0) = true := decide_eq_true c36
                                              clear c36
                                              have H' := Aside0.mk H
                                              clear H
                                              have p34 : 0 ≤ ((ji31) : Int) := of_decide_eq_true (by first | (with_reducible assumption) | assumption)
                                              have q34 : (ji31) < (a0.size : Int) := of_decide_eq_true (by first | (with_reducible assumption) | assumption)
                                              have hx34 := bt_at a0 (ji31)
                                              replace p34 := eq_true p34
                                              replace q34 := eq_true q34
                                              go_wp2_with (first | (go_at_call 28; (with_reducible refine (heddleref31_digit.calls kj16 (bt a0 (ji31)) t135 _ A35.out).mono ?_); rintro e w' ⟨rfl, ⟨nd, rfl⟩⟩))
                                              first | go_meet | (subst_eqs; go_meet)
                                              case rel => exact ⟨_, (true), (by first | rfl | (simp; done) | (simp [*]; done)), H', ⟨by have := HK1.out; have := HJ2.out; have := HJ16.out; first | omega | exact Nat.le_refl _⟩, ⟨by (with_reducible repeat (first | apply Kd.R_alloc | apply Kd.R_drewN | apply Kd.R_drew)); exact HO_6.out⟩, ⟨by repeat (first | (with_reducible first | exact HB.out | apply below_alloc | apply pw_below_drewN | apply below_drew1) | exact HB.out)⟩⟩
                                            · rw [if_neg c36] at H
                                              have c36b0 : decide (t135 < 0) = false := decide_eq_false c36
                                              clear c36
                                              obtain ⟨ji37, hji37⟩ : ∃ j_ : Int, (wrap64 ((ji31) + 1)) = j_ := ⟨_, rfl⟩
                                              replace H : (if 0 ≤ (ji37) then (if (ji37) < (a0.size : Int) then ((heddleref31_digit.f kj16 (bt a0 (ji37))).bind fun t136 => (heddleref31_quoted.j3 kj16 a0 (ji31) x6_1 (decide (t136 < 0)))) else (none)) else (none)) = some (r1, r2) := by first | (rw [hji37] at H; exact H) | (simp only [hji37] at H ⊢; exact H)
                                              (try rw [hji37] at A35)
                                              have hji37w : (IntKind.i64.wrap ((ji31) + 1)) = ji37 := (i64_w _).trans hji37
                                              by_cases c38 : 0 ≤ (ji37)
                                              · rw [if_pos c38] at H
                                                have c38b0 : decide (0 ≤ (ji37)) = true := decide_eq_true c38
                                                clear c38
                                                by_cases c39 : (ji37) < (a0.size : Int)
                                                · rw [if_pos c39] at H
                                                  have c39b0 : decide ((ji37) < (a0.size : Int)) = true := decide_eq_true c39; have c39c : decide ((a0.size : Int) ≤ (ji37)) = false := decide_eq_false (by omega)
                                                  clear c39
                                                  replace H := Option.bind_eq_some_iff.mp H
                                                  obtain ⟨t136, A410, H⟩ := H
                                                  replace H : (heddleref31_quoted.j3 kj16 a0 (ji31) x6_1 (decide (t136 < 0))) = some (r1, r2) := H
                                                  have A41 := Aside0.mk A410
                                                  clear A410
                                                  have H' := Aside0.mk H
                                                  clear H
                                                  have p34 : 0 ≤ ((ji31) : Int) := of_decide_eq_true (by first | (with_reducible assumption) | assumption)
                                                  have q34 : (ji31) < (a0.size : Int) := of_decide_eq_true (by first | (with_reducible assumption) | assumption)
                                                  have hx34 := bt_at a0 (ji31)
                                                  replace p34 := eq_true p34
                                                  replace q34 := eq_true q34
                                                  go_wp2_with (first | (go_at_call 28; (with_reducible refine (heddleref31_digit.calls kj16 (bt a0 (ji31)) t135 _ A35.out).mono ?_); rintro e w' ⟨rfl, ⟨nd, rfl⟩⟩; have p40 : 0 ≤ ((ji37) : Int) := of_decide_eq_true (by first | (with_reducible assumption) | assumption); have q40 : (ji37) < (a0.size : Int) := of_decide_eq_true (by first | (with_reducible assumption) | assumption); have hx40 := bt_at a0 (ji37); replace p40 := eq_true p40; replace q40 := eq_true q40) | (go_at_call 28; (with_reducible refine (heddleref31_digit.calls kj16 (bt a0 (ji37)) t136 _ A41.out).mono ?_); rintro e w' ⟨rfl, ⟨nd, rfl⟩⟩))
                                                  first | go_meet | (subst_eqs; go_meet)
                                                  case rel => exact ⟨_, (decide (t136 < 0)), (by first | rfl | (simp; done) | (simp [*]; done)), H', ⟨by have := HK1.out; have := HJ2.out; have := HJ16.out; first | omega | exact Nat.le_refl _⟩, ⟨by (with_reducible repeat (first | apply Kd.R_alloc | apply Kd.R_drewN | apply Kd.R_drew)); exact HO_6.out⟩, ⟨by repeat (first | (with_reducible first | exact HB.out | apply below_alloc | apply pw_below_drewN | apply below_drew1) | exact HB.out)⟩⟩
                                                · rw [if_neg c39] at H
                                                  exact absurd H (by simp)
                                              · rw [if_neg c38] at H
                                                exact absurd H (by simp)
                                          · rw [if_neg c33] at H
                                            exact absurd H (by simp)
                                        · rw [if_neg c32] at H
                                          exact absurd H (by simp)
                                    case rest =>
                                      clear HC29
                                      try clear c1
                                      try clear p1
                                      try clear q1
                                      try clear hx1
                                      try clear c2
                                      try clear p2
                                      try clear c3
                                      try clear p3
                                      try clear q3
                                      try clear hx3
                                      try clear c4
                                      try clear c4b0
                                      try clear p4
                                      try clear q4
                                      try clear hx4
                                      try clear c5
                                      try clear c5b0
                                      try clear p6
                                      try clear q6
                                      try clear hx6
                                      try clear c7
                                      try clear c8
                                      try clear c8b0
                                      try clear c9
                                      try clear c9b0
                                      try clear p10
                                      try clear q10
                                      try clear hx10
                                      try clear c11
                                      try clear c11b0
                                      try clear c11b1
                                      try clear c12
                                      try clear c12b0
                                      try clear c14
                                      try clear c14b0
                                      try clear c15
                                      try clear c15b0
                                      try clear p16
                                      try clear q16
                                      try clear hx16
                                      try clear c18
                                      try clear c18b0
                                      try clear c18b1
                                      try clear c19
                                      try clear c20
                                      try clear c22
                                      try clear c22b0
                                      try clear c22b1
                                      try clear c23
                                      try clear c25
                                      try clear c25b0
                                      try clear c25b1
                                      try clear c26
                                      try clear c28
                                      try clear c28b0
                                      try clear c28b1
                                      try clear c30
                                      try clear c30b0
                                      try clear c32
                                      try clear c32b0
                                      try clear c33
                                      try clear c33b0
                                      try clear p34
                                      try clear q34
                                      try clear hx34
                                      try clear c36
                                      try clear c36b0
                                      try clear c38
                                      try clear c38b0
                                      try clear c39
                                      try clear c39b0
                                      try clear p40
                                      try clear q40
                                      try clear hx40
                                      try clear p1
                                      try clear p10
                                      try clear p16
                                      try clear p2
                                      try clear p34
                                      try clear p40
                                      try clear p6
                                      try clear q1
                                      try clear q10
                                      try clear q16
                                      try clear q34
                                      try clear q40
                                      try clear q6
                                      obtain ⟨kq, x82_28, rfl, HA, HJ28, HO_6, HB⟩ := hcut
                                      cases kq with
                                      | zero => exact absurd HA.out (by simp [heddleref31_quoted.j3])
                                      | succ kj28 =>
                                        have H := HA.out
                                        clear HA
                                        simp only [heddleref31_quoted.j3] at H
                                        by_cases c42 : x82_28 = true
                                        · subst c42
                                          have H1 : (some ((⟨#[]⟩ : ByteArray), (-1))) = some (r1, r2) := by rw [if_pos rfl] at H; exact H
                                          clear H
                                          have H := H1
                                          clear H1
                                          simp only [Option.some.injEq, Prod.mk.injEq] at H
                                          obtain ⟨rfl, rfl⟩ := H
                                          go_wp2
                                          go_ret2
                                          exact ⟨by first | rfl | (simp [errW_none, errW_some] <;> rfl) | (simp only [← hji13]; first | rfl | (simp [errW_none, errW_some] <;> rfl)) | (simp [*, errW_none, errW_some] <;> rfl), by repeat (first | (with_reducible first | exact HB.out | apply below_alloc | apply pw_below_drewN | apply below_drew1) | exact HB.out)⟩
                                        · replace c42 := Bool.eq_false_iff.mpr c42
                                          subst c42
                                          have H1 : (if 0 ≤ (wrap64 (x1_1 + 2)) then (if (wrap64 (x1_1 + 2)) < (a0.size : Int) then ((heddleref31_digit.f kj28 (bt a0 (wrap64 (x1_1 + 2)))).bind fun t137 => (if 0 ≤ (wrap64 ((wrap64 (x1_1 + 2)) + 1)) then (if (wrap64 ((wrap64 (x1_1 + 2)) + 1)) < (a0.size : Int) then ((heddleref31_digit.f kj28 (bt a0 (wrap64 ((wrap64 (x1_1 + 2)) + 1)))).bind fun t138 => (if x6_1.length < 140737488355328 then (heddleref31_quoted.l0 kj28 a0 (wrap64 ((wrap64 (x1_1 + 2)) + 2)) (x6_1 ++ [(wrap64 ((wrap64 (16 * t137)) + t138)) % 256])) else (none))) else (none)) else (none))) else (none)) else (none)) = some (r1, r2) := by rw [if_neg (show ¬ (false = true) by decide)] at H; exact H
                                          clear H
                                          have H := H1
                                          clear H1
                                          obtain ⟨ji43, hji43⟩ : ∃ j_ : Int, (wrap64 (x1_1 + 2)) = j_ := ⟨_, rfl⟩
                                          replace H : (if 0 ≤ (ji43) then (if (ji43) < (a0.size : Int) then ((heddleref31_digit.f kj28 (bt a0 (ji43))).bind fun t137 => (if 0 ≤ (wrap64 ((ji43) + 1)) then (if (wrap64 ((ji43) + 1)) < (a0.size : Int) then ((heddleref31_digit.f kj28 (bt a0 (wrap64 ((ji43) + 1)))).bind fun t138 => (if x6_1.length < 140737488355328 then (heddleref31_quoted.l0 kj28 a0 (wrap64 ((ji43) + 2)) (x6_1 ++ [(wrap64 ((wrap64 (16 * t137)) + t138)) % 256])) else (none))) else (none)) else (none))) else (none)) else (none)) = some (r1, r2) := by first | (rw [hji43] at H; exact H) | (simp only [hji43] at H ⊢; exact H)
                                          have hji43w : (IntKind.i64.wrap (x1_1 + 2)) = ji43 := (i64_w _).trans hji43
                                          by_cases c44 : 0 ≤ (ji43)
                                          · rw [if_pos c44] at H
                                            have c44b0 : decide (0 ≤ (ji43)) = true := decide_eq_true c44
                                            clear c44
                                            by_cases c45 : (ji43) < (a0.size : Int)
                                            · rw [if_pos c45] at H
                                              have c45b0 : decide ((ji43) < (a0.size : Int)) = true := decide_eq_true c45
                                              clear c45
                                              replace H := Option.bind_eq_some_iff.mp H
                                              obtain ⟨t137, A470, H⟩ := H
                                              replace H : (if 0 ≤ (wrap64 ((ji43) + 1)) then (if (wrap64 ((ji43) + 1)) < (a0.size : Int) then ((heddleref31_digit.f kj28 (bt a0 (wrap64 ((ji43) + 1)))).bind fun t138 => (if x6_1.length < 140737488355328 then (heddleref31_quoted.l0 kj28 a0 (wrap64 ((ji43) + 2)) (x6_1 ++ [(wrap64 ((wrap64 (16 * t137)) + t138)) % 256])) else (none))) else (none)) else (none)) = some (r1, r2) := H
                                              have A47 := Aside0.mk A470
                                              clear A470
                                              obtain ⟨ji48, hji48⟩ : ∃ j_ : Int, (wrap64 ((ji43) + 1)) = j_ := ⟨_, rfl⟩
                                              replace H : (if 0 ≤ (ji48) then (if (ji48) < (a0.size : Int) then ((heddleref31_digit.f kj28 (bt a0 (ji48))).bind fun t138 => (if x6_1.length < 140737488355328 then (heddleref31_quoted.l0 kj28 a0 (wrap64 ((ji43) + 2)) (x6_1 ++ [(wrap64 ((wrap64 (16 * t137)) + t138)) % 256])) else (none))) else (none)) else (none)) = some (r1, r2) := by first | (rw [hji48] at H; exact H) | (simp only [hji48] at H ⊢; exact H)
                                              (try rw [hji48] at A47)
                                              have hji48w : (IntKind.i64.wrap ((ji43) + 1)) = ji48 := (i64_w _).trans hji48
                                              by_cases c49 : 0 ≤ (ji48)
                                              · rw [if_pos c49] at H
                                                have c49b0 : decide (0 ≤ (ji48)) = true := decide_eq_true c49
                                                clear c49
                                                by_cases c50 : (ji48) < (a0.size : Int)
                                                · rw [if_pos c50] at H
                                                  have c50b0 : decide ((ji48) < (a0.size : Int)) = true := decide_eq_true c50
                                                  clear c50
                                                  replace H := Option.bind_eq_some_iff.mp H
                                                  obtain ⟨t138, A520, H⟩ := H
                                                  replace H : (if x6_1.length < 140737488355328 then (heddleref31_quoted.l0 kj28 a0 (wrap64 ((ji43) + 2)) (x6_1 ++ [(wrap64 ((wrap64 (16 * t137)) + t138)) % 256])) else (none)) = some (r1, r2) := H
                                                  have A52 := Aside0.mk A520
                                                  clear A520
                                                  by_cases c53 : x6_1.length < 140737488355328
                                                  · rw [if_pos c53] at H
                                                    have LMc53 := Aside0.mk c53
                                                    clear c53
                                                    obtain ⟨y139, hy139⟩ : ∃ y_ : List Int, y_ = (x6_1 ++ [(wrap64 ((wrap64 (16 * t137)) + t138)) % 256]) := ⟨_, rfl⟩
                                                    replace H : (heddleref31_quoted.l0 kj28 a0 (wrap64 ((ji43) + 2)) y139) = some (r1, r2) := by first | (rw [hy139]; with_reducible exact H) | (have H2_ := (Option.bind_some _ _).symm.trans H; rw [hy139]; with_reducible exact H2_) | (have H2_ := (Option.bind_some _ _).symm.trans H; with_reducible exact H2_) | with_reducible exact H | (rw [hy139]; exact H) | exact H
                                                    have Ny139 := Aside0.mk hy139
                                                    clear hy139
                                                    have H' := Aside0.mk H
                                                    clear H
                                                    try go_wp2
                                                    have n0_ := Aside0.mk (Kd.R_drew HO_6.out)
                                                    have n1_ := Aside0.mk (below_drew1 HB.out)
                                                    clear HO_6
                                                    clear HB
                                                    have HO_6 := n0_
                                                    have HB := n1_
                                                    clear n0_ n1_
                                                    have p46 : 0 ≤ ((ji43) : Int) := of_decide_eq_true (by first | (with_reducible assumption) | assumption)
                                                    have q46 : (ji43) < (a0.size : Int) := of_decide_eq_true (by first | (with_reducible assumption) | assumption)
                                                    have hx46 := bt_at a0 (ji43)
                                                    replace p46 := eq_true p46
                                                    replace q46 := eq_true q46
                                                    have p51 : 0 ≤ ((ji48) : Int) := of_decide_eq_true (by first | (with_reducible assumption) | assumption)
                                                    have q51 : (ji48) < (a0.size : Int) := of_decide_eq_true (by first | (with_reducible assumption) | assumption)
                                                    have hx51 := bt_at a0 (ji48)
                                                    replace p51 := eq_true p51
                                                    replace q51 := eq_true q51
                                                    refine start_ (n := 16) (S := fun w' => True) (ds := []) #[false, false, false, false, false, false, false, false, false, false, false, false, false, false, false, false] (by kernel_rfl) rfl rfl trivial (fun hHeld => ?_); refine with_tabW heddleref31_quoted.tab23 heddleref31_quoted.bits23 (fun HT_ HW_ => ?_)
                                                    generalize wc.drew = w54 at HO_6 HB hHeld ⊢
                                                    refine pure_ (i := 0) (N := some 83) (v := ?_) (a' := ?_) #[true, false, false, false, false, false, false, false, false, false, false, false, false, false, false, false] rfl rfl (any_of HT_.out (by kernel_rfl)) (fun _ _ _ h => h) (Or.inl ⟨by rfl, ?_⟩) ?_ ?_
                                                    rotate_left
                                                    · intro w'
                                                      go_simp
                                                      with_reducible rfl
                                                    rotate_left
                                                    · simp only [Act.put, List.setIfInBounds_toArray, List.set_cons_zero, List.set_cons_succ, i64_w, i32_w]
                                                      rfl
                                                    refine pure_ (i := 1) (N := some 84) (v := ?_) (a' := ?_) #[true, true, false, false, false, false, false, false, false, false, false, false, false, false, false, false] rfl rfl (any_of HT_.out (by kernel_rfl)) (fun _ _ _ h => h) (Or.inl ⟨by rfl, ?_⟩) ?_ ?_
                                                    rotate_left
                                                    · intro w'
                                                      go_simp
                                                      with_reducible rfl
                                                    rotate_left
                                                    · simp only [Act.put, List.setIfInBounds_toArray, List.set_cons_zero, List.set_cons_succ, i64_w, i32_w]
                                                      rfl
                                                    refine pure_ (i := 2) (N := some 85) (v := ?_) (a' := ?_) #[true, true, true, false, false, false, false, false, false, false, false, false, false, false, false, false] rfl rfl (any_of HT_.out (by kernel_rfl)) (fun _ _ _ h => h) (Or.inl ⟨by rfl, ?_⟩) ?_ ?_
                                                    rotate_left
                                                    · intro w'
                                                      go_simp
                                                      with_reducible rfl
                                                    rotate_left
                                                    · simp only [Act.put, List.setIfInBounds_toArray, List.set_cons_zero, List.set_cons_succ, i64_w, i32_w]
                                                      rfl
                                                    refine pure_ (i := 6) (N := some 89) (v := ?_) (a' := ?_) #[true, true, true, false, false, false, true, false, false, false, false, false, false, false, false, false] rfl rfl (any_of HT_.out (by kernel_rfl)) (fun _ _ _ h => h) (Or.inl ⟨by rfl, ?_⟩) ?_ ?_
                                                    rotate_left
                                                    · intro w'
                                                      go_simp
                                                      with_reducible rfl
                                                    rotate_left
                                                    · simp only [Act.put, List.setIfInBounds_toArray, List.set_cons_zero, List.set_cons_succ, i64_w, i32_w]
                                                      rfl
                                                    refine pure_ (i := 7) (N := some 90) (v := ?_) (a' := ?_) #[true, true, true, false, false, false, true, true, false, false, false, false, false, false, false, false] rfl rfl (any_of HT_.out (by kernel_rfl)) (fun _ _ _ h => h) (Or.inl ⟨by rfl, ?_⟩) ?_ ?_
                                                    rotate_left
                                                    · intro w'
                                                      go_simp
                                                      with_reducible rfl
                                                    rotate_left
                                                    · simp only [Act.put, List.setIfInBounds_toArray, List.set_cons_zero, List.set_cons_succ, i64_w, i32_w]
                                                      rfl
                                                    refine pure_ (i := 8) (N := some 91) (v := ?_) (a' := ?_) #[true, true, true, false, false, false, true, true, true, false, false, false, false, false, false, false] rfl rfl (any_of HT_.out (by kernel_rfl)) (fun _ _ _ h => h) (Or.inl ⟨by rfl, ?_⟩) ?_ ?_
                                                    rotate_left
                                                    · intro w'
                                                      go_simp
                                                      with_reducible rfl
                                                    rotate_left
                                                    · simp only [Act.put, List.setIfInBounds_toArray, List.set_cons_zero, List.set_cons_succ, i64_w, i32_w]
                                                      rfl
                                                    refine take_ (i := 3) (N := some 86) (v := ?_) (a' := ?_) #[true, true, true, true, false, false, true, true, true, false, false, false, false, false, false, false] rfl rfl (take_ofW HT_.out HW_.out (by kernel_rfl)) (fun _ _ _ h => h) (Or.inl ⟨by rfl, ?_⟩) hHeld ?_ ?_
                                                    rotate_left
                                                    · intro w' _
                                                      go_simp
                                                      with_reducible rfl
                                                    rotate_left
                                                    · simp only [Act.put, List.setIfInBounds_toArray, List.set_cons_zero, List.set_cons_succ, i64_w, i32_w]
                                                      rfl
                                                    refine take_ (i := 9) (N := some 92) (v := ?_) (a' := ?_) #[true, true, true, true, false, false, true, true, true, true, false, false, false, false, false, false] rfl rfl (take_ofW HT_.out HW_.out (by kernel_rfl)) (fun _ _ _ h => h) (Or.inl ⟨by rfl, ?_⟩) hHeld ?_ ?_
                                                    rotate_left
                                                    · intro w' _
                                                      go_simp
                                                      with_reducible rfl
                                                    rotate_left
                                                    · simp only [Act.put, List.setIfInBounds_toArray, List.set_cons_zero, List.set_cons_succ, i64_w, i32_w]
                                                      rfl
                                                    refine one_ (i := 4) (N := some 87) #[true, true, true, true, true, false, true, true, true, true, false, false, false, false, false, false] rfl rfl (one_of HT_.out (by kernel_rfl)) (by decide) (fun K hK => ?_)
                                                    refine goes_ Try.func28 (by kernel_rfl) rfl #[.int .u8 (bt a0 (ji43))] (by rfl) rfl rfl (by (try simp only [List.map_toArray, List.map_cons, List.map_nil]); first | done | (simp only [hji43]; rfl) | rfl | (simp only [List.length_drop, List.length_take]; rfl)) ?_
                                                    with_reducible refine (heddleref31_digit.calls kj28 (bt a0 (ji43)) t137 _ A47.out).mono ?_
                                                    rintro e w' ⟨rfl, ⟨nd, rfl⟩⟩
                                                    refine ⟨_, rfl, ?_⟩
                                                    refine hK.out _ _ trivial (fun hHeld => ?_)
                                                    clear hK K
                                                    refine norm_ (a' := ?_) ?_ ?_
                                                    rotate_left
                                                    · show Act.put _ (some 87) _ = _
                                                      simp only [Act.put, List.setIfInBounds_toArray, List.set_cons_zero, List.set_cons_succ, i64_w, i32_w]
                                                      rfl
                                                    refine pure_ (i := 5) (N := some 88) (v := ?_) (a' := ?_) #[true, true, true, true, true, true, true, true, true, true, false, false, false, false, false, false] rfl rfl (any_of HT_.out (by kernel_rfl)) (fun _ _ _ h => h) (Or.inl ⟨by rfl, ?_⟩) ?_ ?_
                                                    rotate_left
                                                    · intro w'
                                                      go_simp
                                                      with_reducible rfl
                                                    rotate_left
                                                    · simp only [Act.put, List.setIfInBounds_toArray, List.set_cons_zero, List.set_cons_succ, i64_w, i32_w]
                                                      rfl
                                                    refine one_ (i := 10) (N := some 93) #[true, true, true, true, true, true, true, true, true, true, true, false, false, false, false, false] rfl rfl (one_of HT_.out (by kernel_rfl)) (by decide) (fun K hK => ?_)
                                                    refine goes_ Try.func28 (by kernel_rfl) rfl #[.int .u8 (bt a0 (ji48))] (by rfl) rfl rfl (by (try simp only [List.map_toArray, List.map_cons, List.map_nil]); first | done | (simp only [hji48]; rfl) | rfl | (simp only [List.length_drop, List.length_take]; rfl)) ?_
                                                    with_reducible refine (heddleref31_digit.calls kj28 (bt a0 (ji48)) t138 _ A52.out).mono ?_
                                                    rintro e w' ⟨rfl, ⟨nd, rfl⟩⟩
                                                    refine ⟨_, rfl, ?_⟩
                                                    refine hK.out _ _ trivial (fun hHeld => ?_)
                                                    clear hK K
                                                    refine norm_ (a' := ?_) ?_ ?_
                                                    rotate_left
                                                    · show Act.put _ (some 93) _ = _
                                                      simp only [Act.put, List.setIfInBounds_toArray, List.set_cons_zero, List.set_cons_succ, i64_w, i32_w]
                                                      rfl
                                                    refine pure_ (i := 11) (N := some 94) (v := ?_) (a' := ?_) #[true, true, true, true, true, true, true, true, true, true, true, true, false, false, false, false] rfl rfl (any_of HT_.out (by kernel_rfl)) (fun _ _ _ h => h) (Or.inl ⟨by rfl, ?_⟩) ?_ ?_
                                                    rotate_left
                                                    · intro w'
                                                      go_simp
                                                      with_reducible rfl
                                                    rotate_left
                                                    · simp only [Act.put, List.setIfInBounds_toArray, List.set_cons_zero, List.set_cons_succ, i64_w, i32_w]
                                                      rfl
                                                    refine pure_ (i := 12) (N := some 95) (v := ?_) (a' := ?_) #[true, true, true, true, true, true, true, true, true, true, true, true, true, false, false, false] rfl rfl (any_of HT_.out (by kernel_rfl)) (fun _ _ _ h => h) (Or.inl ⟨by rfl, ?_⟩) ?_ ?_
                                                    rotate_left
                                                    · intro w'
                                                      go_simp
                                                      with_reducible rfl
                                                    rotate_left
                                                    · simp only [Act.put, List.setIfInBounds_toArray, List.set_cons_zero, List.set_cons_succ, i64_w, i32_w]
                                                      rfl
                                                    refine one_ (i := 13) (N := some 96) #[true, true, true, true, true, true, true, true, true, true, true, true, true, true, false, false] rfl rfl (one_of HT_.out (by kernel_rfl)) (by decide) (fun K hK => ?_)
                                                    refine value_ (w1 := ?_) (v := ?_) (by rfl) rfl ?_ ?_
                                                    rotate_left 2
                                                    · go_simp
                                                      constructor
                                                      · rfl
                                                      · rfl
                                                    refine hK.out _ _ trivial (fun hHeld => ?_)
                                                    clear hK K
                                                    refine norm_ (a' := ?_) ?_ ?_
                                                    rotate_left
                                                    · show Act.put _ (some 96) _ = _
                                                      simp only [Act.put, List.setIfInBounds_toArray, List.set_cons_zero, List.set_cons_succ, i64_w, i32_w]
                                                      rfl
                                                    refine one_ (i := 14) (N := some 97) #[true, true, true, true, true, true, true, true, true, true, true, true, true, true, true, false] rfl rfl (one_of HT_.out (by kernel_rfl)) (by decide) (fun K hK => ?_)
                                                    refine Kd.R_append_step (Kd.int .u8) (w0 := w) w.heap.size (by rfl) (.tmp 83) (.tmp 96) 30 5 (.int .u8 0) 1 rfl Try.underlying30 info5 rfl (by decide) (by omega) u6 x6_1 ((wrap64 ((wrap64 (16 * t137)) + t138)) % 256) [.int .u8 ((wrap64 ((wrap64 (16 * t137)) + t138)) % 256)] (fun _ => True) (fun _ => False) rfl rfl ?aP (fun _ hk => hk.elim) ?aF ?aO ?aB ?aS ?aL ?_
                                                    (case aP => exact rfl)
                                                    (case aB => exact (by repeat (first | (with_reducible first | exact HB.out | apply below_alloc | apply pw_below_drewN | apply below_drew1) | exact HB.out)))
                                                    (case aF => exact (fun _ _ => trivial))
                                                    (case aO => exact (by (with_reducible repeat (first | apply Kd.R_alloc | apply Kd.R_drewN | apply Kd.R_drew)); exact HO_6.out))
                                                    (case aS => exact (below_size (by repeat (first | (with_reducible first | exact HB.out | apply below_alloc | apply pw_below_drewN | apply below_drew1) | exact HB.out))))
                                                    (case aL => have := LMc53.out; omega)
                                                    intro v140 w55 ho hb hg hat
                                                    rw [← Ny139.out] at ho
                                                    have n0_ := Aside0.mk (hb)
                                                    have n1_ := Aside0.mk (ho)
                                                    clear HB
                                                    clear HO_6
                                                    have HB := n0_
                                                    have HO141 := n1_
                                                    clear n0_ n1_
                                                    clear ho hb hg hat
                                                    refine hK.out _ _ trivial (fun hHeld => ?_)
                                                    clear hK K
                                                    refine norm_ (a' := ?_) ?_ ?_
                                                    rotate_left
                                                    · show Act.put _ (some 97) _ = _
                                                      simp only [Act.put, List.setIfInBounds_toArray, List.set_cons_zero, List.set_cons_succ, i64_w, i32_w]
                                                      rfl
                                                    refine pure_ (i := 15) (N := some 6) (v := ?_) (a' := ?_) #[true, true, true, true, true, true, true, true, true, true, true, true, true, true, true, true] rfl rfl (any_of HT_.out (by kernel_rfl)) (fun _ _ _ h => h) (Or.inl ⟨by rfl, ?_⟩) ?_ ?_
                                                    rotate_left
                                                    · intro w'
                                                      go_simp
                                                      with_reducible rfl
                                                    rotate_left
                                                    · simp only [Act.put, List.setIfInBounds_toArray, List.set_cons_zero, List.set_cons_succ, i64_w, i32_w]
                                                      rfl
                                                    refine done_ (done_of HT_.out (by kernel_rfl)) ?_
                                                    try go_wp2
                                                    go_roundg kj28
                                                    case measure => have := HK1.out; have := HJ2.out; have := HJ16.out; have := HJ28.out; omega
                                                    case rel => exact ⟨(wrap64 ((ji43) + 2)), (y139), (by first | rfl | (simp; done) | (simp only [← hji43] <;> (first | rfl | (simp; done))) | (simp [*]; done)), H', ⟨by have := HK1.out; have := HJ2.out; have := HJ16.out; have := HJ28.out; omega⟩, ⟨by (with_reducible repeat (first | apply Kd.R_alloc | apply Kd.R_drewN | apply Kd.R_drew)); exact HO141.out⟩, ⟨by repeat (first | (with_reducible first | exact HB.out | apply below_alloc | apply pw_below_drewN | apply below_drew1) | exact HB.out)⟩⟩
                                                  · rw [if_neg c53] at H
                                                    exact absurd H (by simp)
                                                · rw [if_neg c50] at H
                                                  exact absurd H (by simp)
                                              · rw [if_neg c49] at H
                                                exact absurd H (by simp)
                                            · rw [if_neg c45] at H
                                              exact absurd H (by simp)
                                          · rw [if_neg c44] at H
                                            exact absurd H (by simp)
                                  · rw [if_neg c28] at H
                                    have c28b0 : ((bt a0 (ji13)) == 120) = false := beq_eq_false_iff_ne.mpr c28
                                    have c28b1 : ((bt a0 (ji13)) != 120) = true := bne_iff_ne.mpr c28
                                    simp only [Option.some.injEq, Prod.mk.injEq] at H
                                    obtain ⟨rfl, rfl⟩ := H
                                    go_wp2
                                    go_ret2
                                    exact ⟨by first | rfl | (simp [errW_none, errW_some] <;> rfl) | (simp only [← hji13]; first | rfl | (simp [errW_none, errW_some] <;> rfl)) | (simp [*, errW_none, errW_some] <;> rfl), by repeat (first | (with_reducible first | exact HB.out | apply below_alloc | apply pw_below_drewN | apply below_drew1) | exact HB.out)⟩
                      · rw [if_neg c15] at H
                        exact absurd H (by simp)
                    · rw [if_neg c14] at H
                      exact absurd H (by simp)
                · rw [if_neg c11] at H
                  have c11b0 : ((bt a0 x1_1) == 92) = false := beq_eq_false_iff_ne.mpr c11
                  have c11b1 : ((bt a0 x1_1) != 92) = true := bne_iff_ne.mpr c11
                  by_cases c57 : x6_1.length < 140737488355328
                  · rw [if_pos c57] at H
                    have LMc57 := Aside0.mk c57
                    clear c57
                    obtain ⟨y123, hy123⟩ : ∃ y_ : List Int, y_ = (x6_1 ++ [bt a0 x1_1]) := ⟨_, rfl⟩
                    replace H : (heddleref31_quoted.l0 kj2 a0 (wrap64 (x1_1 + 1)) y123) = some (r1, r2) := by first | (rw [hy123]; with_reducible exact H) | (have H2_ := (Option.bind_some _ _).symm.trans H; rw [hy123]; with_reducible exact H2_) | (have H2_ := (Option.bind_some _ _).symm.trans H; with_reducible exact H2_) | with_reducible exact H | (rw [hy123]; exact H) | exact H
                    have Ny123 := Aside0.mk hy123
                    clear hy123
                    have H' := Aside0.mk H
                    clear H
                    have p10 : 0 ≤ (x1_1 : Int) := of_decide_eq_true (by first | (with_reducible assumption) | assumption)
                    have q10 : x1_1 < (a0.size : Int) := of_decide_eq_true (by first | (with_reducible assumption) | assumption)
                    have hx10 := bt_at a0 x1_1
                    replace p10 := eq_true p10
                    replace q10 := eq_true q10
                    have p56 : 0 ≤ (x1_1 : Int) := of_decide_eq_true (by first | (with_reducible assumption) | assumption)
                    have q56 : x1_1 < (a0.size : Int) := of_decide_eq_true (by first | (with_reducible assumption) | assumption)
                    have hx56 := bt_at a0 x1_1
                    replace p56 := eq_true p56
                    replace q56 := eq_true q56
                    go_wp2_with (first | ((with_reducible refine gate_builtin (b := .append) (xs := #[.tmp 24, .tmp 28]) rfl ?_); (try (refine gate_guard (by rfl) ?_; dsimp only)); at_builtin; refine Kd.R_append (Kd.int .u8) (w0 := w) w.heap.size rfl (.tmp 24) (.tmp 28) 30 5 (.int .u8 0) 1 rfl Try.underlying30 info5 rfl (by decide) (by omega) u6 x6_1 (bt a0 x1_1) [.int .u8 (bt a0 x1_1)] (fun _ => True) (fun _ => False) rfl rfl ?aP (fun _ hk => hk.elim) ?aF ?aO ?aB ?aS ?aL ?_; (case aP => exact rfl); (case aB => exact (by repeat (first | (with_reducible first | exact HB.out | apply below_alloc | apply pw_below_drewN | apply below_drew1) | exact HB.out))); (case aF => exact (fun _ _ => trivial)); (case aO => exact (by (with_reducible repeat (first | apply Kd.R_alloc | apply Kd.R_drewN | apply Kd.R_drew)); exact HO_6.out)); (case aS => exact (below_size (by repeat (first | (with_reducible first | exact HB.out | apply below_alloc | apply pw_below_drewN | apply below_drew1) | exact HB.out)))); (case aL => have := LMc57.out; omega); intro v124 w58 ho hb hg hat; rw [← Ny123.out] at ho; have n0_ := Aside0.mk (hb); have n1_ := Aside0.mk (ho); clear HB; clear HO_6; have HB := n0_; have HO125 := n1_; clear n0_ n1_; clear ho hb hg hat))
                    go_roundg kj2
                    case measure => have := HK1.out; have := HJ2.out; omega
                    case rel => exact ⟨(wrap64 (x1_1 + 1)), (y123), (by first | rfl | (simp; done) | (simp [*]; done)), H', ⟨by have := HK1.out; have := HJ2.out; omega⟩, ⟨by (with_reducible repeat (first | apply Kd.R_alloc | apply Kd.R_drewN | apply Kd.R_drew)); exact HO125.out⟩, ⟨by repeat (first | (with_reducible first | exact HB.out | apply below_alloc | apply pw_below_drewN | apply below_drew1) | exact HB.out)⟩⟩
                  · rw [if_neg c57] at H
                    exact absurd H (by simp)
              · rw [if_neg c9] at H
                exact absurd H (by simp)
            · rw [if_neg c8] at H
              exact absurd H (by simp)
          · replace c7 := Bool.eq_false_iff.mpr c7
            subst c7
            have H1 : (if x1_1 ≥ (a0.size : Int) then (some ((⟨#[]⟩ : ByteArray), (-1))) else (if (wrap64 (x1_1 + 1)) < (a0.size : Int) then (if 0 ≤ (wrap64 (x1_1 + 1)) then (if (bt a0 (wrap64 (x1_1 + 1))) = 32 then (some (strOfNums x6_1, wrap64 (x1_1 + 1))) else (some ((⟨#[]⟩ : ByteArray), (-1)))) else (none)) else (some (strOfNums x6_1, wrap64 (x1_1 + 1))))) = some (r1, r2) := by rw [if_neg (show ¬ (false = true) by decide)] at H; exact H
            clear H
            have H := H1
            clear H1
            by_cases c59 : x1_1 ≥ (a0.size : Int)
            · rw [if_pos c59] at H
              have c59b0 : decide ((a0.size : Int) ≤ x1_1) = true := decide_eq_true c59
              clear c59
              simp only [Option.some.injEq, Prod.mk.injEq] at H
              obtain ⟨rfl, rfl⟩ := H
              go_wp2
              go_ret2
              exact ⟨by first | rfl | (simp [errW_none, errW_some] <;> rfl) | (simp [*, errW_none, errW_some] <;> rfl), by repeat (first | (with_reducible first | exact HB.out | apply below_alloc | apply pw_below_drewN | apply below_drew1) | exact HB.out)⟩
            · rw [if_neg c59] at H
              have c59b0 : decide ((a0.size : Int) ≤ x1_1) = false := decide_eq_false c59
              clear c59
              by_cases c60 : (wrap64 (x1_1 + 1)) < (a0.size : Int)
              · rw [if_pos c60] at H
                have c60b0 : decide ((wrap64 (x1_1 + 1)) < (a0.size : Int)) = true := decide_eq_true c60
                clear c60
                obtain ⟨ji61, hji61⟩ : ∃ j_ : Int, (wrap64 (x1_1 + 1)) = j_ := ⟨_, rfl⟩
                replace H : (if 0 ≤ (ji61) then (if (bt a0 (ji61)) = 32 then (some (strOfNums x6_1, ji61)) else (some ((⟨#[]⟩ : ByteArray), (-1)))) else (none)) = some (r1, r2) := by first | (rw [hji61] at H; exact H) | (simp only [hji61] at H ⊢; exact H)
                (try rw [hji61] at c60b0)
                have hji61w : (IntKind.i64.wrap (x1_1 + 1)) = ji61 := (i64_w _).trans hji61
                by_cases c62 : 0 ≤ (ji61)
                · rw [if_pos c62] at H
                  have c62b0 : decide (0 ≤ (ji61)) = true := decide_eq_true c62
                  clear c62
                  by_cases c64 : (bt a0 (ji61)) = 32
                  · rw [if_pos c64] at H
                    have c64b0 : ((bt a0 (ji61)) == 32) = true := beq_iff_eq.mpr c64
                    have c64b1 : ((bt a0 (ji61)) != 32) = false := bne_eq_false_iff_eq.mpr c64
                    clear c64
                    simp only [Option.some.injEq, Prod.mk.injEq] at H
                    obtain ⟨rfl, rfl⟩ := H
                    have p63 : 0 ≤ ((ji61) : Int) := of_decide_eq_true (by first | (with_reducible assumption) | assumption)
                    have q63 : (ji61) < (a0.size : Int) := of_decide_eq_true (by first | (with_reducible assumption) | assumption)
                    have hx63 := bt_at a0 (ji61)
                    replace p63 := eq_true p63
                    replace q63 := eq_true q63
                    have hcv65 := own_string (P := Try.prog) Try.underlying30 Try.underlying5 Try.underlying9 (Kd.own_of_R HO_6.out)
                    go_wp2
                    go_ret2
                    exact ⟨by first | rfl | (simp [errW_none, errW_some] <;> rfl) | (simp only [← hji61]; first | rfl | (simp [errW_none, errW_some] <;> rfl)) | (simp [*, errW_none, errW_some] <;> rfl), by repeat (first | (with_reducible first | exact HB.out | apply below_alloc | apply pw_below_drewN | apply below_drew1) | exact HB.out)⟩
                  · rw [if_neg c64] at H
                    have c64b0 : ((bt a0 (ji61)) == 32) = false := beq_eq_false_iff_ne.mpr c64
                    have c64b1 : ((bt a0 (ji61)) != 32) = true := bne_iff_ne.mpr c64
                    simp only [Option.some.injEq, Prod.mk.injEq] at H
                    obtain ⟨rfl, rfl⟩ := H
                    have p63 : 0 ≤ ((ji61) : Int) := of_decide_eq_true (by first | (with_reducible assumption) | assumption)
                    have q63 : (ji61) < (a0.size : Int) := of_decide_eq_true (by first | (with_reducible assumption) | assumption)
                    have hx63 := bt_at a0 (ji61)
                    replace p63 := eq_true p63
                    replace q63 := eq_true q63
                    go_wp2
                    go_ret2
                    exact ⟨by first | rfl | (simp [errW_none, errW_some] <;> rfl) | (simp only [← hji61]; first | rfl | (simp [errW_none, errW_some] <;> rfl)) | (simp [*, errW_none, errW_some] <;> rfl), by repeat (first | (with_reducible first | exact HB.out | apply below_alloc | apply pw_below_drewN | apply below_drew1) | exact HB.out)⟩
                · rw [if_neg c62] at H
                  exact absurd H (by simp)
              · rw [if_neg c60] at H
                have c60b0 : decide ((wrap64 (x1_1 + 1)) < (a0.size : Int)) = false := decide_eq_false c60
                clear c60
                simp only [Option.some.injEq, Prod.mk.injEq] at H
                obtain ⟨rfl, rfl⟩ := H
                have hcv66 := own_string (P := Try.prog) Try.underlying30 Try.underlying5 Try.underlying9 (Kd.own_of_R HO_6.out)
                go_wp2
                go_ret2
                exact ⟨by first | rfl | (simp [errW_none, errW_some] <;> rfl) | (simp [*, errW_none, errW_some] <;> rfl), by repeat (first | (with_reducible first | exact HB.out | apply below_alloc | apply pw_below_drewN | apply below_drew1) | exact HB.out)⟩

end Go.Proofs.Ytfdioplenkcahaa.PShellFresh
