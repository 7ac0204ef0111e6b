/- ShelfPlays: the walk. -/
import Derived.Test.YtancenklmfamnaaGreatShPl5
import Derived.Deep.CutBlock
import Derived.Deep.RegionHeld3
set_option linter.unusedVariables false
set_option linter.unusedSimpArgs false
namespace Go.Proofs.YtancenklmfamnaaGreat.Sh
open Go.RowKit Go.Maps Go.Sort Go.Shelf
open Go.Proofs Go.MuLone
open Go.Proofs.YtancenklmfamnaaGreatW.PrintWords (Reps OwnRow Kd ReadsRow)
open PShelfPlays (S70 S104 S115 k70 k104 k115)

set_option maxHeartbeats 16000000 in
set_option maxRecDepth 1000000 in
theorem plays_any (one two : Int) (As : Option Addr) (n cs : Nat) (ops : List Op1) (w : World) (hs : Script w As n ops) (hn : n ≤ 140737488351232) :
    Calls Tryz.prog 3 #[.int .i64 one, .int .i64 two, .slice As n cs] w fun e w' => e = .returned (.bool true) ∧ Below w.heap.size w w' := by
  have HS := Lib.hid hs
  clear hs
  go_enter Tryz.func3, Tryz.ntmps3
  go_wp2_with fail
  refine (begun_any _).mono ?_
  rintro e w1 ⟨rfl, hb1⟩
  have B1 := Lib.hid hb1
  clear hb1
  go_upto_block 0 with (fail)
  have K0 := Lib.hid (KP.start w w1 B1.out one two)
  go_wp2_with fail
  go_loopw [11] (fun v11 wr => ∃ (i : Nat) (S : Nat → Seat), i ≤ 2 ∧ v11 = .int .i64 i ∧ Hid (KP w wr w1.heap.size none 0 (w1.heap.size + 1) (w1.heap.size + 1 + 1) (w1.heap.size + 1 + 1 + 1) one two S ∧ ∀ k, k < 8 → (S k).touch ≤ 0)) (fun v11 _ => 2 - (intOf v11).toNat)
  case atStart => exact ⟨0, _, by omega, rfl, Lib.hid ⟨K0.out, fun k _ => Int.le_refl _⟩⟩
  case round =>
    obtain ⟨i, S, hi, rfl, HM⟩ := hrel
    obtain ⟨⟨x0, x1⟩, -⟩ := HM.out.1.cells
    rcases (show i = 0 ∨ i = 1 ∨ i = 2 by omega) with rfl | rfl | rfl
    · go_wp2_with fail
      refine (opened_any _ _).mono ?_
      rintro e w2 ⟨s, hth, rfl, hb2, hs2, ht2⟩
      have K2 := HM.out.1.below_ (hb2.trans ((below_alloc w2 (.cells #[.pointer s.sa, .pointer s.ra] 32)).mono hb2.size))
      obtain ⟨-, hc, fp, ft⟩ := K2.cells
      have c0 : (w2.alloc (.cells #[.pointer s.sa, .pointer s.ra] 32)).cell? ⟨w1.heap.size + 1 + 1, 0, none⟩ = some (.pointer (S 0).sa) := (hc 0 (by decide)).1
      have c1 : (w2.alloc (.cells #[.pointer s.sa, .pointer s.ra] 32)).cell? ⟨w1.heap.size + 1 + 1, 1, none⟩ = some (.pointer (S 0).ra) := (hc 0 (by decide)).2.1
      have c2 := (hc 0 (by decide)).2.2
      have f0 := fp 0
      have f1 := fp 1
      have f2 := ft 0
      have HN := Lib.hid (KP.openAt HM.out (Int.le_refl 0) (k := 0) (by decide) hth hb2 hs2 ht2 (.cells #[.pointer s.sa, .pointer s.ra] 32))
      clear K2 hc fp ft hb2 hs2
      go_wp2
      go_roundw
      case rel => exact ⟨0 + 1, _, by omega, rfl, HN⟩
      case measure => simp [intOf]
    · go_wp2_with fail
      refine (opened_any _ _).mono ?_
      rintro e w2 ⟨s, hth, rfl, hb2, hs2, ht2⟩
      have K2 := HM.out.1.below_ (hb2.trans ((below_alloc w2 (.cells #[.pointer s.sa, .pointer s.ra] 32)).mono hb2.size))
      obtain ⟨-, hc, fp, ft⟩ := K2.cells
      have c0 : (w2.alloc (.cells #[.pointer s.sa, .pointer s.ra] 32)).cell? ⟨w1.heap.size + 1 + 1, 2, none⟩ = some (.pointer (S 1).sa) := (hc 1 (by decide)).1
      have c1 : (w2.alloc (.cells #[.pointer s.sa, .pointer s.ra] 32)).cell? ⟨w1.heap.size + 1 + 1, 3, none⟩ = some (.pointer (S 1).ra) := (hc 1 (by decide)).2.1
      have c2 := (hc 1 (by decide)).2.2
      have f0 := fp 2
      have f1 := fp 3
      have f2 := ft 1
      have HN := Lib.hid (KP.openAt HM.out (Int.le_refl 0) (k := 1) (by decide) hth hb2 hs2 ht2 (.cells #[.pointer s.sa, .pointer s.ra] 32))
      clear K2 hc fp ft hb2 hs2
      go_wp2
      go_roundw
      case rel => exact ⟨1 + 1, _, by omega, rfl, HN⟩
      case measure => simp [intOf]
    · have K2 := Lib.hid HM.out
      clear HM x0 x1 K0
      go_wp2_with fail
      go_loopw [14] (fun v14 wr => ∃ (i : Nat) (S : Nat → Seat) (A : Option Addr) (n0 : Nat), i ≤ n ∧ v14 = .int .i64 i ∧ Hid (KP w wr w1.heap.size A n0 (w1.heap.size + 1) (w1.heap.size + 1 + 1) (w1.heap.size + 1 + 1 + 1) one two S ∧ ∀ k, k < 8 → (S k).touch ≤ i)) (fun v14 _ => n - (intOf v14).toNat)
      case atStart => exact ⟨0, S, none, 0, by omega, rfl, K2⟩
      case round =>
        clear K2
        obtain ⟨i, S, A, n0, hi, rfl, HM⟩ := hrel
        by_cases hlt : i < n
        · obtain ⟨⟨kind, which, nm, ver, dat⟩, ho⟩ : ∃ o, ops[i]? = some o := ⟨_, List.getElem?_eq_getElem (by have := HS.out.1; omega)⟩
          obtain ⟨ad, Ab, nb, cb, rfl, hop⟩ := HS.out.2 i _ ho
          have HO := Lib.hid hop
          have x1 := (hop.below HM.out.1.below).c1
          obtain ⟨k, hk8, hsl⟩ := slot_c which hop.which wr
          have HSL := Lib.hid hsl
          clear hop ho hsl
          go_upto_region 18 with (fail)
          go_cut [15] from 52 to 57 (fun v15 wc => v15 = .int .i64 (k : Int) ∧ ∃ q, wr.drewN q = wc)
          case first =>
            go_wp2_with (refine HSL.out.mono ?_; rintro e w3 ⟨rfl, q, rfl⟩)
            go_meet
            case rel => exact ⟨rfl, q, rfl⟩
          case rest =>
          obtain ⟨rfl, q, hwc⟩ := hcut
          have HM2 : Hid (KP w wc w1.heap.size A n0 (w1.heap.size + 1) (w1.heap.size + 1 + 1) (w1.heap.size + 1 + 1 + 1) one two S ∧ ∀ k, k < 8 → (S k).touch ≤ i) := Lib.hid ⟨hwc ▸ HM.out.1.below_ (below_drewN (Below.refl _ _) q), HM.out.2⟩
          clear hwc HM HSL x1
          have hopr := HO.out.below HM2.out.1.below
          have x0 := hopr.c0
          obtain ⟨⟨y0, y1⟩, hcs, -⟩ := HM2.out.1.cells
          obtain ⟨p0, p1, p2⟩ := hcs k hk8
          clear hopr hcs
          go_upto_region 19 with (fail)
          go_cut [69] from 58 to 69 (fun v69 wc' => (∃ b : Bool, v69 = .bool b ∧ (b = false → (S k).th = true)) ∧ wc = wc')
          case first =>
            by_cases hk7 : kind = 7
            · subst hk7
              go_wp2
              go_meet
              case rel => exact ⟨⟨true, rfl, fun h => by cases h⟩, rfl⟩
            · have hk7' : (kind == 7) = false := by simpa using hk7
              cases hth : (S k).th
              · rw [hth] at p2
                go_wp2
                go_meet
                case rel => exact ⟨⟨true, rfl, fun h => by cases h⟩, rfl⟩
              · rw [hth] at p2
                go_wp2
                go_meet
                case rel => exact ⟨⟨false, rfl, fun _ => hth⟩, rfl⟩
          case rest =>
          obtain ⟨⟨b69, rfl, hb69⟩, rfl⟩ := hcut
          go_upto_if 69 with (fail)
          go_cut [16, 17] from 70 to 84 (fun v16 v17 wc' => ∃ S', Hid (KP w wc' w1.heap.size A n0 (w1.heap.size + 1) (w1.heap.size + 1 + 1) (w1.heap.size + 1 + 1 + 1) one two S' ∧ (∀ k, k < 8 → (S' k).touch ≤ i) ∧ (S' k).th = true))
          case first =>
            cases b69
            · have HB := Lib.hid (hb69 rfl)
              clear hb69
              go_wp2
              go_meet
              case rel => exact ⟨S, Lib.hid ⟨HM2.out.1, HM2.out.2, HB.out⟩⟩
            · as_aux_lemma => -- new
                have hrem : Int.tmod (k : Int) 2 = ((k % 2 : Nat) : Int) := by rw [Int.tmod_eq_emod_of_nonneg (by omega)]; omega
                have hm2 : k % 2 < 2 := Nat.mod_lt _ (by decide)
                have yr : wc.cell? ⟨w1.heap.size + 1, k % 2, none⟩ = some (.int .i64 (if k % 2 = 0 then one else two)) := by
                  rcases (show k % 2 = 0 ∨ k % 2 = 1 by omega) with e | e <;> rw [e]
                  · exact y0
                  · exact y1
                generalize (if k % 2 = 0 then one else two) = room at yr
                clear y0 y1 p0 p1 p2 x0 hb69
                go_wp2_with fail
                refine (opened_any _ _).mono ?_
                rintro e w2 ⟨s, hth, rfl, hb2, hs2, ht2⟩
                have K2 := HM2.out.1.below_ (hb2.trans ((below_alloc w2 (.cells #[.pointer s.sa, .pointer s.ra] 32)).mono hb2.size))
                obtain ⟨-, hc, fp, ft⟩ := K2.cells
                obtain ⟨c0, c1, c2⟩ := hc k hk8
                have f0 := fp (k * 2)
                have f1 := fp (k * 2 + 1)
                have f2 := ft k
                have HN := Lib.hid (And.intro (KP.openAt HM2.out (by omega) hk8 hth hb2 hs2 ht2 (.cells #[.pointer s.sa, .pointer s.ra] 32)) hth)
                clear K2 hc fp ft hb2 hs2
                go_wp2
                go_meet
                case rel => exact ⟨upd S k s, Lib.hid ⟨HN.out.1.1, HN.out.1.2, by rw [upd_self]; exact HN.out.2⟩⟩
          case rest =>
          obtain ⟨S', HM⟩ := hcut
          obtain ⟨wb, hwb⟩ : ∃ x, x = wc := ⟨_, rfl⟩
          subst hwb
          clear x0 y0 y1 p0 p1 p2 HM2
          cases hSk : S' k with
          | none =>
            have := HM.out.2.2
            rw [hSk] at this
            cases this
          | bad =>
            have hpc := HM.out.1.cells.2.1 k hk8
            rw [hSk] at hpc
            have p0 : wb.cell? ⟨w1.heap.size + 1 + 1, k * 2, none⟩ = some (.pointer none) := hpc.1
            have p1 : wb.cell? ⟨w1.heap.size + 1 + 1, k * 2 + 1, none⟩ = some (.pointer none) := hpc.2.1
            have HN : Hid (KP w (wb.alloc (.cells #[.pointer none, .pointer none] 32)) w1.heap.size A n0 (w1.heap.size + 1) (w1.heap.size + 1 + 1) (w1.heap.size + 1 + 1 + 1) one two S' ∧ ∀ k, k < 8 → (S' k).touch ≤ (i + 1 : Nat)) := Lib.hid ⟨HM.out.1.below_ (below_alloc wb _), fun k hk => by have := HM.out.2.1 k hk; omega⟩
            clear hpc
            go_wp2
            go_roundw
            case rel => exact ⟨i + 1, S', A, n0, by omega, by go_num, HN⟩
            case measure => simp [intOf]; omega
          | on p g L F =>
            have hpc := HM.out.1.cells.2.1 k hk8
            rw [hSk] at hpc
            have p0 : wb.cell? ⟨w1.heap.size + 1 + 1, k * 2, none⟩ = some (.pointer (some ⟨p, 0, none⟩)) := hpc.1
            have p1 : wb.cell? ⟨w1.heap.size + 1 + 1, k * 2 + 1, none⟩ = some (.pointer (some ⟨g, 0, none⟩)) := hpc.2.1
            clear hpc
            go_upto_region 27 with (fail)
            have hbA : Below wb.heap.size wb (wb.alloc (.cells #[.pointer (some ⟨p, 0, none⟩), .pointer (some ⟨g, 0, none⟩)] 32)) := below_alloc wb _
            have hPA : (wb.alloc (.cells #[.pointer (some ⟨p, 0, none⟩), .pointer (some ⟨g, 0, none⟩)] 32)).heap[wb.heap.size]? = some (.cells #[.pointer (some ⟨p, 0, none⟩), .pointer (some ⟨g, 0, none⟩)] 32 (0, 0)) := alloc_is wb _
            have hzA : (wb.alloc (.cells #[.pointer (some ⟨p, 0, none⟩), .pointer (some ⟨g, 0, none⟩)] 32)).heap.size = wb.heap.size + 1 := by simp
            generalize wb.alloc (.cells #[.pointer (some ⟨p, 0, none⟩), .pointer (some ⟨g, 0, none⟩)] 32) = wA at hbA hPA hzA ⊢
            have KA := HM.out.1.below_ hbA
            have htc : L.touch ≤ i := by have := HM.out.2.1 k hk8; rw [hSk] at this; exact this
            have q0 : wA.cell? ⟨wb.heap.size, 0, none⟩ = some (.pointer (some ⟨p, 0, none⟩)) := by rw [Lib.cell_of_heap hPA]; rfl
            obtain ⟨atA, rlA, lrA, disA, fdA⟩ := KA.at hk8 hSk
            have hoA := HO.out.below KA.below
            have hbo : ∀ x, Ab.map (·.block) = some x → dat ≠ [] → ¬ Foot2 p L w1.heap.size A x ∧ x < wA.heap.size := fun x hx hd => by
              have h1 := HO.out.rd.lt (k := x) (by rw [block_map]; exact hx) hd
              refine ⟨fun e => ?_, Nat.lt_of_lt_of_le h1 KA.below.size⟩
              have h2 := KA.range (x := x) (by
                rcases e with e | rfl | e
                · exact .inr (.inr (.inr (.inr (.inr ⟨k, hk8, by rw [hSk]; exact .inl e⟩))))
                · exact .inl rfl
                · exact .inr (.inl e))
              omega
            have HT := Lib.hid (told_a atA (by omega) ⟨kind, which, nm, ver, dat⟩ hoA hbo)
            have HT2 := Lib.hid (told_b atA (by omega) ⟨kind, which, nm, ver, dat⟩ hoA hbo)
            have x0 := hoA.c0
            have x1 := hoA.c1
            have x2 := hoA.c2
            have x3 := hoA.c3
            have x4 := hoA.c4
            have hoB := hoA.below (below_alloc wA (.cells (tdC (.slice none 0 0) 0 (.slice none 0 0) 0) 43))
            have z0 := hoB.c0
            have z1 := hoB.c1
            have z2 := hoB.c2
            have z3 := hoB.c3
            have z4 := hoB.c4
            have zq := cell_below q0 (below_alloc wA (.cells (tdC (.slice none 0 0) 0 (.slice none 0 0) 0) 43))
            have KAG := Lib.hid (And.intro lrA (And.intro rlA (And.intro KA (And.intro disA fdA))))
            have HA := Lib.hid (And.intro hbA (And.intro hPA (And.intro hzA (And.intro lrA hbo))))
            clear hPA atA rlA lrA disA fdA hoA hoB p0 p1 hbA hzA KA hbo
            go_cut [19, 20] from 96 to 106 (fun v19 v20 w4 => ∃ tk L' A' n' At1 nt ct tdat tv Al1 nl1 cl1 tls te, v19 = .pointer (some ⟨tk, 0, none⟩) ∧ v20 = .bool true ∧ Hid (ToldS w.heap.size p w1.heap.size L A wA kind nm ver dat w4 tk L' A' n' At1 nt ct tdat tv Al1 nl1 cl1 tls te))
            case first =>
              as_aux_lemma => -- told
                go_region_with (first
                  | (refine HT.out.mono ?_; rintro e w3 ⟨L', A', n', At1, nt, ct, tdat, tv, Al1, nl1, cl1, tls, te, rfl, H3⟩)
                  | (refine HT2.out.mono ?_; rintro e w3 ⟨L', A', n', At1, nt, ct, tdat, tv, Al1, nl1, cl1, tls, te, rfl, ⟨g0, g1, g2, g3⟩, ⟨f0, f1, f2, f3⟩, H3⟩)
                  | fail)
                all_goals go_wp2
                all_goals go_meet
                all_goals (case rel => exact ⟨_, L', A', n', At1, nt, ct, tdat, tv, Al1, nl1, cl1, tls, te, rfl, rfl, H3⟩)
            case rest =>
            obtain ⟨tk, L', A', n', At1, nt, ct1, tdat, tv, Al1, nl1, cl1, tls, te, rfl, rfl, H4⟩ := hcut
            obtain ⟨w4, hw4⟩ : ∃ x, x = wc := ⟨_, rfl⟩
            subst hw4
            have HW := Lib.hid (want_m (a := ad.add (i * 5)) (o := ⟨kind, which, nm, ver, dat⟩) KAG.out.2.2.1 hk8 hSk HM.out.1 HA.out.1 HA.out.2.1 HA.out.2.2.1 H4.out HO.out (by omega))
            have HSM := Lib.hid (told_small H4.out.told HA.out.2.2.2.1.good HA.out.2.2.2.1.few)
            have sw4 : SW wb.heap.size p g tk At1 nt ct1 tv Al1 nl1 cl1 te (ad.add (i * 5)) ⟨kind, which, nm, ver, dat⟩ Ab nb cb w4 := told_sw KAG.out.2.2.1 hk8 hSk HM.out.1 HA.out.1 HA.out.2.1 HA.out.2.2.1 H4.out HO.out
            obtain ⟨s0, s1, s2, s3, s4, s5, s6, s7, s8, s9, s10⟩ := sw4
            clear x0 x1 x2 x3 x4 z0 z1 z2 z3 z4 zq q0 HT HT2
            go_upto_region 28 with (fail)
            go_cut [130] from 107 to 130 (fun v130 w9 => v130 = .bool false ∧ Hid (MidT w w9 w1.heap.size (w1.heap.size + 1) (w1.heap.size + 1 + 1) (w1.heap.size + 1 + 1 + 1) one two S' k p g wb.heap.size tk L' A' n' (tdC (.slice At1 nt ct1) tv (.slice Al1 nl1 cl1) te)))
            case first =>
              as_aux_lemma => -- five
                go_region_held3 (fun w' => w'.cell? ⟨wb.heap.size, 0, none⟩ = some (.pointer (some ⟨p, 0, none⟩)) ∧ w'.cell? ⟨wb.heap.size, 1, none⟩ = some (.pointer (some ⟨g, 0, none⟩)) ∧
                    w'.cell? ⟨tk, 0, none⟩ = some (.slice At1 nt ct1) ∧ w'.cell? ⟨tk, 1, none⟩ = some (.int .i64 tv) ∧ w'.cell? ⟨tk, 2, none⟩ = some (.slice Al1 nl1 cl1) ∧ w'.cell? ⟨tk, 3, none⟩ = some (.int .i64 te) ∧
                    w'.cell? (ad.add (i * 5)) = some (.int .i64 kind) ∧ w'.cell? ⟨(ad.add (i * 5)).block, (ad.add (i * 5)).off + 1, none⟩ = some (.int .i64 which) ∧ w'.cell? ⟨(ad.add (i * 5)).block, (ad.add (i * 5)).off + 2, none⟩ = some (.string nm) ∧ w'.cell? ⟨(ad.add (i * 5)).block, (ad.add (i * 5)).off + 3, none⟩ = some (.int .i64 ver) ∧ w'.cell? ⟨(ad.add (i * 5)).block, (ad.add (i * 5)).off + 4, none⟩ = some (.slice Ab nb cb))
                  ((first | assumption | (refine ⟨?_, ?_, ?_, ?_, ?_, ?_, ?_, ?_, ?_, ?_, ?_⟩ <;> assumption)))
                  (first
                  | (go_at_call 10; refine HW.out.mono ?_; rintro e w5 ⟨A1, n1, c1, A2, n2, c2, rfl, H5, ⟨t0, t1, t2, t3, t4, t5, t6, t7, t8, t9, t10⟩⟩)
                  | (go_at_call 9; refine (eq_m H5.out.1 HO.out HSM.out.2.1 HSM.out.2.2 H5.out.2.1 H5.out.2.2.1 H5.out.2.2.2.1 H5.out.2.2.2.2).mono ?_; rintro e w6 ⟨rfl, H6, ⟨t0, t1, t2, t3, t4, t5, t6, t7, t8, t9, t10⟩⟩)
                  | (go_at_call 12; refine (list_m H6.out hk8 HO.out).mono ?_; rintro e w7 ⟨A1, n1, c1, rfl, H7, ⟨t0, t1, t2, t3, t4, t5, t6, t7, t8, t9, t10⟩⟩)
                  | (go_at_call 13; refine (rlist_m H7.out.1 hk8 HO.out H7.out.2).mono ?_; rintro e w8 ⟨A2, n2, c2, rfl, H8, ⟨t0, t1, t2, t3, t4, t5, t6, t7, t8, t9, t10⟩⟩)
                  | (go_at_call 11; refine (Eq_m H8.out.1 hk8 HO.out H8.out.2.1 H8.out.2.2).mono ?_; rintro e w9 ⟨rfl, H9, ⟨t0, t1, t2, t3, t4, t5, t6, t7, t8, t9, t10⟩⟩))
                all_goals go_wp2
                all_goals go_meet
                all_goals (case rel => exact ⟨rfl, H9⟩)
            case rest =>
            obtain ⟨rfl, H9⟩ := hcut
            have hne : ∃ S2, Hid (KP w wc w1.heap.size A' n' (w1.heap.size + 1) (w1.heap.size + 1 + 1) (w1.heap.size + 1 + 1 + 1) one two S2 ∧ ∀ j, j < 8 → (S2 j).touch ≤ (i + 1 : Nat)) := by
              obtain ⟨F', m⟩ := H9.out.mid
              refine ⟨_, Lib.hid ⟨m.kp, fun j hj => ?_⟩⟩
              by_cases e : j = k
              · subst e
                rw [upd_self]
                have h1 := HSM.out.1
                show L'.touch ≤ _
                omega
              · rw [upd_ne S' _ e]
                have := HM.out.2.1 j hj
                omega
            obtain ⟨S2, HN⟩ := hne
            go_wp2
            go_roundw
            case rel => exact ⟨i + 1, S2, A', n', by omega, by go_num, HN⟩
            case measure => simp [intOf]; omega
        · obtain rfl : i = n := by omega
          have B4 := Lib.hid HM.out.1.below
          go_wp2
          go_ret
          exact ⟨rfl, B4.out⟩
end Go.Proofs.YtancenklmfamnaaGreat.Sh
