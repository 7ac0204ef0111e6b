/- ShelfMany: the walk. -/
import Derived.Test.YtancenklmfamnaaShManyP
set_option linter.unusedVariables false
set_option linter.unusedSimpArgs false
namespace Go.Proofs.Ytancenklmfamnaa.Sh
open Go.RowKit Go.Maps Go.Sort Go.Shelf
open Go.Proofs Go.MuLone
open Go.Proofs.YtancenklmfamnaaW.PrintWords (Reps OwnRow)

structure M1 (B p : Nat) (w wr : World) (L : Lay) (i : Nat) : Prop where
  rest : Rest B wr p L
  below : Below w.heap.size w wr
  ph : (i ≤ 256 ∧ PhA L 1 i i) ∨ (i = 257 ∧ PhA L 2 256 257)
structure M2 (B p : Nat) (w wr : World) (L : Lay) (i : Nat) : Prop where
  rest : Rest B wr p L
  below : Below w.heap.size w wr
  ph : PhB L i
structure M3 (B p : Nat) (w wr : World) (L : Lay) (i : Nat) : Prop where
  rest : Rest B wr p L
  below : Below w.heap.size w wr
  ph : PhC L i
theorem nil_put {p : Nat} {L : Lay} : ∀ k, (Value.slice none 0 0).ownBlock = some k → ¬ Owned p L k := fun k hk => by cases hk

set_option maxHeartbeats 16000000 in
set_option maxRecDepth 1000000 in
theorem many_any (a : Bool) (w : World) : Calls Try.prog 4 #[.bool a] w fun e w' => e = .returned (.bool true) ∧ Below w.heap.size w w' := by
  go_enter Try.func4, Try.ntmps4
  go_wp2_with fail
  refine (begun_any _).mono ?_
  rintro e w1 ⟨rfl, hb1⟩
  have B1 := Lib.hid hb1
  clear hb1
  go_wp2_with fail
  refine (new_yes 1 _ (by omega) (by omega)).mono ?_
  rintro e w2 ⟨p, mm, ml, rfl, hb2, hr2⟩
  have hB : w.heap.size ≤ w1.heap.size := B1.out.size
  have I1 : Hid (M1 w1.heap.size p w w2 (Lay.start 1 mm ml) 0) := Lib.hid ⟨hr2, B1.out.trans (hb2.mono hB), .inl ⟨by omega, PhA.start mm ml⟩⟩
  clear hb2 hr2
  go_wp2_with fail
  go_loopw [5] (fun v5 wr => ∃ (i : Nat) (L : Lay), i ≤ 257 ∧ v5 = .int .i64 i ∧ Hid (M1 w1.heap.size p w wr L i)) (fun v5 _ => 257 - (intOf v5).toNat)
  case atStart => exact ⟨0, _, by omega, rfl, I1⟩
  case round =>
    obtain ⟨i, L, hi, rfl, HM⟩ := hrel
    by_cases hlt : i < 257
    · have hA : PhA L 1 i i := by
        rcases HM.out.ph with h | h
        · exact h.2
        · omega
      have HP := Lib.hid (put_ver HM.out.rest (by rw [hA.touch]; omega) bX okX (.slice none 0 0) [] ((i + 1 : Nat) : Int) hA.ver (by omega) (RdB.nil wr) (by decide) nil_put (hA.noroom HM.out.rest.good (by omega)))
      have HA := Lib.hid hA
      clear hA
      go_wp2_with fail
      refine HP.out.mono ?_
      rintro e w3 ⟨rfl, L', j, new, hl, st, hr⟩
      have HN : Hid (M1 w1.heap.size p w w3 L' (i + 1)) := Lib.hid ⟨hr, st.base HM.out.rest HM.out.below hB (Nat.le_refl _), by
        by_cases h : i < 256
        · exact .inl ⟨by omega, HA.out.next HM.out.rest.good h hl⟩
        · have : i = 256 := by omega
          subst this
          exact .inr ⟨rfl, HA.out.turn HM.out.rest.good HM.out.rest.is.blks hl⟩⟩
      clear hl st hr
      go_wp2_with fail
      go_roundw
      case rel => exact ⟨i + 1, L', by omega, by go_num, HN⟩
      case measure => simp [intOf]; omega
    · obtain rfl : i = 257 := by omega
      have hA : PhA L 2 256 257 := by
        rcases HM.out.ph with h | h
        · omega
        · exact h.2
      have R := Lib.hid HM.out.rest
      have Bw := Lib.hid HM.out.below
      have HA := Lib.hid hA
      clear hA HM
      go_wp2_with fail
      refine (list_yes R.out).mono ?_
      rintro e w4 ⟨v4, rfl, hrow4, st4, hr4⟩
      rw [HA.out.sortedN] at hrow4
      obtain ⟨x, l, hxl, hxv, hll⟩ := HA.out.head
      rw [hxl] at hrow4
      obtain ⟨g, c, rfl, hcg⟩ := head_cells hrow4
      rw [hxv] at hcg
      rw [hll]
      have I2 : Hid (M2 w1.heap.size p w w4 L 0) := Lib.hid ⟨hr4, st4.base R.out Bw.out hB (Nat.le_refl _), HA.out.toB⟩
      clear hrow4 st4 hr4 hxl hxv hll R Bw HA
      go_wp2_with fail
      go_loopw [9] (fun v9 wr => ∃ (j : Nat) (L : Lay), j ≤ 256 ∧ v9 = .int .i64 j ∧ Hid (M2 w1.heap.size p w wr L j)) (fun v9 _ => 256 - (intOf v9).toNat)
      case atStart => exact ⟨0, L, by omega, rfl, I2⟩
      case round =>
        obtain ⟨j, L2, hj, rfl, HM⟩ := hrel
        by_cases hlt2 : j < 256
        · obtain ⟨m, hf, hm, hu, hv, hd⟩ := HM.out.ph.find hlt2
          have tk := take_yes HM.out.rest (by rw [HM.out.ph.touch]; omega) bX (by decide +kernel) ((j : Int) + 2) (wf_of (by omega)) hf (by omega)
          have HT := Lib.hid tk
          have HF := Lib.hid (And.intro hm (And.intro hu hv))
          clear tk hf hm hu hv hd
          go_wp2_with fail
          refine HT.out.mono ?_
          rintro e w5 ⟨v5, rfl, _, _, st, hr⟩
          have HN : Hid (M2 w1.heap.size p w w5 (L2.took m) (j + 1)) := Lib.hid ⟨hr, st.base HM.out.rest HM.out.below hB (Nat.le_refl _), HM.out.ph.next HM.out.rest.is.keys HM.out.rest.is.blks HF.out.1 HF.out.2.1 HF.out.2.2⟩
          clear st hr
          go_wp2_with fail
          go_roundw
          case rel => exact ⟨j + 1, L2.took m, by omega, by go_num, HN⟩
          case measure => simp [intOf]; omega
        · obtain rfl : j = 256 := by omega
          have HP := Lib.hid (put_full HM.out.rest (by rw [HM.out.ph.touch]; omega) bX okX (.slice none 0 0) [] 0 (RdB.nil _) (by decide) nil_put (by rw [HM.out.ph.lastOf]; omega) (HM.out.ph.noroom HM.out.rest.good))
          go_wp2_with fail
          refine HP.out.mono ?_
          rintro e w6 ⟨rfl, st6, hr6⟩
          have B6 := Lib.hid (st6.base HM.out.rest HM.out.below hB (Nat.le_refl _))
          have HL := Lib.hid (layM_full hr6 (by rw [HM.out.ph.touch]; omega) bX okX 1 ⟨by omega, by omega⟩ (.slice none 0 0) [] 0 (RdB.nil _) (by decide) nil_put HM.out.ph.one (HM.out.ph.noroom HM.out.rest.good))
          have R6 := Lib.hid hr6
          clear st6 hr6 HP
          go_wp2_with fail
          refine HL.out.mono ?_
          rintro e w7 ⟨rfl, st7, hr7⟩
          have B7 := Lib.hid (st7.base R6.out B6.out hB (Nat.le_refl _))
          clear st7 hr7 HL R6 B6
          cases a with
          | false =>
            go_wp2
            go_ret
            exact ⟨rfl, B7.out⟩
          | true =>
            go_wp2_with fail
            refine (new_yes 1 _ (by omega) (by omega)).mono ?_
            rintro e w8 ⟨p2, mm2, ml2, rfl, hb8, hr8⟩
            have hB7 : w.heap.size ≤ w7.heap.size := B7.out.size
            have I3 : Hid (M3 w7.heap.size p2 w w8 (Lay.start 1 mm2 ml2) 0) := Lib.hid ⟨hr8, B7.out.trans (hb8.mono hB7), PhC.start mm2 ml2⟩
            clear hb8 hr8 B7 HM
            go_wp2_with fail
            go_loopw [15] (fun v15 wr => ∃ (i : Nat) (L : Lay), i ≤ 65536 ∧ v15 = .int .i64 i ∧ Hid (M3 w7.heap.size p2 w wr L i)) (fun v15 _ => 65536 - (intOf v15).toNat)
            case atStart => exact ⟨0, _, by omega, rfl, I3⟩
            case round =>
              obtain ⟨i3, L3, hi3, rfl, HM⟩ := hrel
              by_cases hlt3 : i3 < 65536
              · have hcv := conv_nm i3 wr
                have hbl : Below wr.heap.size wr (wr.alloc (.cells #[.int .u8 110, .int .u8 (97 + (i3 : Int) % 16), .int .u8 (97 + (i3 : Int) / 16 % 16), .int .u8 (97 + (i3 : Int) / 256 % 16), .int .u8 (97 + (i3 : Int) / 4096)] 5)) := below_alloc wr _
                have hr3 := HM.out.rest.below hbl
                have HP := Lib.hid (put_ver hr3 (by rw [HM.out.ph.touch]; omega) (nmI i3) (nmI_ok hlt3) (.slice none 0 0) [] 1 (by rw [HM.out.ph.new hlt3]; rfl) (by omega) (RdB.nil _) (by decide) nil_put (HM.out.ph.noroom HM.out.rest.good HM.out.rest.is.few (.inl hlt3)))
                have HR3 := Lib.hid hr3
                have HBL := Lib.hid (HM.out.below.alloc HM.out.below.size (.cells #[.int .u8 110, .int .u8 (97 + (i3 : Int) % 16), .int .u8 (97 + (i3 : Int) / 16 % 16), .int .u8 (97 + (i3 : Int) / 256 % 16), .int .u8 (97 + (i3 : Int) / 4096)] 5))
                clear hbl hr3
                go_wp2_with fail
                refine HP.out.mono ?_
                rintro e w9 ⟨rfl, L', j, new, hl, st, hr⟩
                have HN : Hid (M3 w7.heap.size p2 w w9 L' (i3 + 1)) := Lib.hid ⟨hr, st.base HR3.out HBL.out hB7 (Nat.le_refl _), HM.out.ph.next hlt3 hl⟩
                clear hl st hr
                go_wp2_with fail
                go_roundw
                case rel => exact ⟨i3 + 1, L', by omega, by go_num, HN⟩
                case measure => simp [intOf]; omega
              · obtain rfl : i3 = 65536 := by omega
                have HP := Lib.hid (put_full HM.out.rest (by rw [HM.out.ph.touch]; omega) bOne okOne (.slice none 0 0) [] 0 (RdB.nil _) (by decide) nil_put (by rw [HM.out.ph.no _ fun j _ => one_ne j]; decide) HM.out.ph.full)
                go_wp2_with fail
                refine HP.out.mono ?_
                rintro e w9 ⟨rfl, st9, hr9⟩
                have B9 := Lib.hid (st9.base HM.out.rest HM.out.below hB7 (Nat.le_refl _))
                have R9 := Lib.hid hr9
                have HL := Lib.hid (layM_full hr9 (by rw [HM.out.ph.touch]; omega) bOne okOne 7 ⟨by omega, by omega⟩ (.slice none 0 0) [] 0 (RdB.nil _) (by decide) nil_put (HM.out.ph.modOne HM.out.rest.good) HM.out.ph.full)
                clear st9 hr9 HP
                go_wp2_with fail
                refine HL.out.mono ?_
                rintro e w10 ⟨rfl, st10, hr10⟩
                have B10 := Lib.hid (st10.base R9.out B9.out hB7 (Nat.le_refl _))
                have R10 := Lib.hid hr10
                have hlo : L3.lastOf (nmI 0) = some 1 := HM.out.ph.yes 0 (by omega)
                have HQ := Lib.hid (put_ver hr10 (by rw [HM.out.ph.touch]; omega) (nmI 0) (nmI_ok (by omega)) (.slice none 0 0) [] 2 (by rw [hlo]; rfl) (by omega) (RdB.nil _) (by decide) nil_put (HM.out.ph.noroom HM.out.rest.good HM.out.rest.is.few (.inr (by rw [hlo]; decide))))
                clear st10 hr10 HL hlo R9 B9
                go_wp2_with fail
                refine (show Calls Try.prog 8 #[.pointer (some ⟨p2, 0, none⟩), .string ⟨#[110, 97, 97, 97, 97]⟩, .slice none 0 0] _ _ from HQ.out).mono ?_
                rintro e w11 ⟨rfl, L', j, new, hl, st11, hr11⟩
                have B11 := Lib.hid (st11.base R10.out B10.out hB7 (Nat.le_refl _))
                clear hl st11 hr11
                go_wp2
                go_ret
                exact ⟨rfl, B11.out⟩
end Go.Proofs.Ytancenklmfamnaa.Sh
