/- ShelfFresh: the walk. -/
import Derived.Test.YtancenklmfamnaaGreatShFr14
set_option linter.unusedVariables false
set_option linter.unusedSimpArgs false
namespace Go.Proofs.YtancenklmfamnaaGreat.Sh
open Go.RowKit Go.Maps Go.Sort Go.Shelf
open Go.Proofs Go.MuLone
open Go.Proofs.YtancenklmfamnaaGreatW.PrintWords (Reps OwnRow Kd ReadsRow)
open PShelfPlays (S70 S104 S115 k70 k104 k115)

set_option maxHeartbeats 16000000 in
set_option maxRecDepth 1000000 in
theorem fresh_any (room : Int) (As : Option Addr) (n cs : Nat) (ops : List Op1) (w : World) (hs : Script w As n ops) (hn : n ≤ 1048576) :
    Calls Tryz.prog 4 #[.int .i64 room, .slice As n cs] w fun e w' => e = .returned (.bool true) ∧ Below w.heap.size w w' := by
  have HS := Lib.hid hs
  clear hs
  go_enter Tryz.func4, Tryz.ntmps4
  go_wp2_with fail
  refine (begun_any _).mono ?_
  rintro e w1 ⟨rfl, hb1⟩
  have B1 := Lib.hid hb1
  clear hb1
  go_wp2_with fail
  refine (opened_any _ _).mono ?_
  rintro e w2 ⟨s1, hth1, rfl, hb2, hs1, ht1, hsa1⟩
  have H2 := Lib.hid (And.intro hth1 (And.intro hb2 (And.intro hs1 ht1)))
  clear hth1 hb2 hs1 ht1
  go_wp2_with fail
  refine (opened_any _ _).mono ?_
  rintro e w3 ⟨s2, hth2, rfl, hb3, hs2, ht2, hsa2⟩
  have H3 := Lib.hid (And.intro hth2 (And.intro hb3 (And.intro hs2 ht2)))
  have hb3' := hb3
  clear hth2 hb3 hs2 ht2
  by_cases hroom : 1 ≤ room ∧ room ≤ 1099511627776
  · cases s1 with
    | none => exact absurd (hsa1.1 rfl) (by simpa using hroom)
    | bad => exact absurd (hsa1.1 rfl) (by simpa using hroom)
    | on p g L F =>
    cases s2 with
    | none => exact absurd (hsa2.1 rfl) (by simpa using hroom)
    | bad => exact absurd (hsa2.1 rfl) (by simpa using hroom)
    | on p' g' L0 F0 =>
    clear hsa1 hsa2
    dsimp only [Seat.sa, Seat.ra] at hb3' H3 ⊢
    have P0 := P1.start B1.out H2.out.2.1 H2.out.2.2.1 H2.out.2.2.2 rfl rfl hb3' H3.out.2.2.1
    have hc1 : (w3.alloc (.cells #[.pointer (some ⟨p', 0, none⟩), .pointer (some ⟨g', 0, none⟩)] 32)).heap[w2.heap.size]? = some (.cells #[.pointer (some ⟨p, 0, none⟩), .pointer (some ⟨g, 0, none⟩)] 32 (0, 0)) := by
      have h := (hb3'.block w2.heap.size (by simp)).trans (alloc_is w2 _)
      rw [Below.heap_alloc w3 _ _ (at_lt h)]
      exact h
    have x0 : (w3.alloc (.cells #[.pointer (some ⟨p', 0, none⟩), .pointer (some ⟨g', 0, none⟩)] 32)).cell? ⟨w2.heap.size, 0, none⟩ = some (.pointer (some ⟨p, 0, none⟩)) := by rw [Lib.cell_of_heap hc1]; rfl
    have HP := Lib.hid P0
    have hL0 : L0.touch = 0 := H3.out.2.2.2
    clear P0 hc1 hb3'
    go_wp2_with fail
    go_loopw [11] (fun v11 wr => ∃ (i : Nat) (L : Lay) (F : Nat → Prop) (A : Option Addr) (n0 : Nat) (xs ls : List Value) (v1 v2 : Value) (much : Int), i ≤ n ∧ v11 = .int .i64 i ∧ Hid (P1 w wr p g (w3.heap.size + 1) L F A n0 w2.heap.size w3.heap.size (w3.heap.size + 1 + 1) p' g' L0 F0 xs ls v1 v2 much i (4 * i))) (fun v11 _ => n - (intOf v11).toNat)
    case atStart => exact ⟨0, _, _, _, _, _, _, _, _, _, Nat.zero_le _, rfl, HP⟩
    case round =>
      clear HP H2 H3 x0
      obtain ⟨i, L, F, A, n0, xs, ls, v1, v2, much, hi, rfl, HM⟩ := hrel
      by_cases hlt : i < n
      · obtain ⟨o, ho⟩ : ∃ o, ops[i]? = some o := ⟨_, List.getElem?_eq_getElem (by have := HS.out.1; omega)⟩
        obtain ⟨ad, Ab, nb, cb, rfl, hop⟩ := HS.out.2 i _ ho
        have HO := Lib.hid hop
        have hoA := hop.below HM.out.core.below
        have htc := HM.out.touch
        have hbo : ∀ x, Ab.map (·.block) = some x → o.dat ≠ [] → ¬ Foot2 p L (w3.heap.size + 1) A x ∧ x < wr.heap.size := fun x hx hd => by
          have h1 := hop.rd.lt (k := x) (by rw [block_map]; exact hx) hd
          refine ⟨fun e => ?_, Nat.lt_of_lt_of_le h1 HM.out.core.below.size⟩
          have h2 := HM.out.core.range (k := x) (.inl e)
          omega
        have HT := Lib.hid (told_a HM.out.core.at_ (by omega) o hoA hbo)
        have HT2 := Lib.hid (told_b HM.out.core.at_ (by omega) o hoA hbo)
        have q0 : wr.cell? ⟨w2.heap.size, 0, none⟩ = some (.pointer (some ⟨p, 0, none⟩)) := by rw [Lib.cell_of_heap HM.out.c1]; rfl
        have x0 := hoA.c0
        have x1 := hoA.c1
        have x2 := hoA.c2
        have x3 := hoA.c3
        have x4 := hoA.c4
        have hoB := hoA.below (below_alloc wr (.cells (tdC (.slice none 0 0) 0 (.slice none 0 0) 0) 43))
        have z0 := hoB.c0
        have z1 := hoB.c1
        have z2 := hoB.c2
        have z3 := hoB.c3
        have z4 := hoB.c4
        have zq := cell_below q0 (below_alloc wr (.cells (tdC (.slice none 0 0) 0 (.slice none 0 0) 0) 43))
        clear hop ho hoA hoB hbo
        go_upto_region 12 with (fail)
        go_cut [12, 13] from 69 to 79 (fun v12 v13 w4 => ∃ tk L' A' n' At1 nt ct tdat tv Al1 nl1 cl1 tls te, v12 = .pointer (some ⟨tk, 0, none⟩) ∧ v13 = .bool true ∧ Hid (ToldS w.heap.size p (w3.heap.size + 1) L A wr o.kind o.nm o.ver o.dat w4 tk L' A' n' At1 nt ct tdat tv Al1 nl1 cl1 tls te))
        case first =>
          as_aux_lemma => -- told
            go_region_with (first
              | (refine HT.out.mono ?_; rintro e w3 ⟨L', A', n', At1, nt, ct, tdat, tv, Al1, nl1, cl1, tls, te, rfl, H3⟩)
              | (refine HT2.out.mono ?_; rintro e w3 ⟨L', A', n', At1, nt, ct, tdat, tv, Al1, nl1, cl1, tls, te, rfl, ⟨g0, g1, g2, g3⟩, ⟨f0, f1, f2, f3⟩, H3⟩)
              | fail)
            all_goals go_wp2
            all_goals go_meet
            all_goals (case rel => exact ⟨_, L', A', n', At1, nt, ct, tdat, tv, Al1, nl1, cl1, tls, te, rfl, rfl, H3⟩)
        case rest =>
        obtain ⟨tk, L', A', n', At1, nt, ct, tdat, tv, Al1, nl, cl, tls, te, rfl, rfl, H4⟩ := hcut
        obtain ⟨w4, hw4⟩ : ∃ x, x = wc := ⟨_, rfl⟩
        subst hw4
        clear HT HT2 x0 x1 x2 x3 x4 z0 z1 z2 z3 z4 zq q0
        have HW := Lib.hid (ask13 HM.out H4.out HO.out (by omega))
        have sw4 : SW w2.heap.size p g tk At1 nt ct tv Al1 nl cl te (ad.add (i * 5)) o Ab nb cb w4 := sw13 HM.out H4.out HO.out
        obtain ⟨s0, s1, s2, s3, s4, s5, s6, s7, s8, s9, s10⟩ := sw4
        go_upto_region 13 with (fail)
        go_cut [93] from 80 to 93 (fun v93 w9 => v93 = .bool false ∧ Hid (∃ F', R13 w w9 p g (w3.heap.size + 1) L' F' A' n' w2.heap.size w3.heap.size (w3.heap.size + 1 + 1) p' g' L0 F0 xs ls v1 v2 much (i + 1) (4 * i) tk ⟨At1, nt, ct, Al1, nl, cl⟩ ⟨tdat, tv, tls, te⟩))
        case first =>
          as_aux_lemma => -- two
            go_region_held3 (fun w' => w'.cell? ⟨w2.heap.size, 0, none⟩ = some (.pointer (some ⟨p, 0, none⟩)) ∧ w'.cell? ⟨w2.heap.size, 1, none⟩ = some (.pointer (some ⟨g, 0, none⟩)) ∧
                w'.cell? ⟨tk, 0, none⟩ = some (.slice At1 nt ct) ∧ w'.cell? ⟨tk, 1, none⟩ = some (.int .i64 tv) ∧ w'.cell? ⟨tk, 2, none⟩ = some (.slice Al1 nl cl) ∧ w'.cell? ⟨tk, 3, none⟩ = some (.int .i64 te) ∧
                w'.cell? (ad.add (i * 5)) = some (.int .i64 o.kind) ∧ w'.cell? ⟨(ad.add (i * 5)).block, (ad.add (i * 5)).off + 1, none⟩ = some (.int .i64 o.which) ∧ w'.cell? ⟨(ad.add (i * 5)).block, (ad.add (i * 5)).off + 2, none⟩ = some (.string o.nm) ∧ w'.cell? ⟨(ad.add (i * 5)).block, (ad.add (i * 5)).off + 3, none⟩ = some (.int .i64 o.ver) ∧ w'.cell? ⟨(ad.add (i * 5)).block, (ad.add (i * 5)).off + 4, none⟩ = some (.slice Ab nb cb))
              ((first | assumption | (refine ⟨?_, ?_, ?_, ?_, ?_, ?_, ?_, ?_, ?_, ?_, ?_⟩ <;> assumption)))
              (first
              | (go_at_call 10; refine HW.out.mono ?_; rintro e w5 ⟨A1, n1, c1, A2, n2, c2, rfl, H5, ⟨t0, t1, t2, t3, t4, t5, t6, t7, t8, t9, t10⟩⟩)
              | (go_at_call 9; refine (eq13 H5.out.1.choose_spec HO.out H5.out.2.1 H5.out.2.2).mono ?_; rintro e w6 ⟨rfl, H6, ⟨t0, t1, t2, t3, t4, t5, t6, t7, t8, t9, t10⟩⟩)
              | fail)
            all_goals go_wp2
            all_goals go_meet
            all_goals (case rel => exact ⟨rfl, H6⟩)
        case rest =>
        obtain ⟨rfl, H6⟩ := hcut
        obtain ⟨w6, hw6⟩ : ∃ x, x = wc := ⟨_, rfl⟩
        subst hw6
        clear s0 s1 s2 s3 s4 s5 s6 s7 s8 s9 s10 HW
        obtain ⟨F', HR⟩ : ∃ F', Hid (R13 w w6 p g (w3.heap.size + 1) L' F' A' n' w2.heap.size w3.heap.size (w3.heap.size + 1 + 1) p' g' L0 F0 xs ls v1 v2 much (i + 1) (4 * i) tk ⟨At1, nt, ct, Al1, nl, cl⟩ ⟨tdat, tv, tls, te⟩) := by
          obtain ⟨F', h⟩ := H6.out
          exact ⟨F', Lib.hid h⟩
        clear H6
        have d0 : w6.cell? ⟨tk, 0, none⟩ = some (.slice At1 nt ct) := by rw [Lib.cell_of_heap HR.out.b]; rfl
        have d1 : w6.cell? ⟨tk, 1, none⟩ = some (.int .i64 tv) := by rw [Lib.cell_of_heap HR.out.b]; rfl
        have d2 : w6.cell? ⟨tk, 2, none⟩ = some (.slice Al1 nl cl) := by rw [Lib.cell_of_heap HR.out.b]; rfl
        have d3 : w6.cell? ⟨tk, 3, none⟩ = some (.int .i64 te) := by rw [Lib.cell_of_heap HR.out.b]; rfl
        have HTK := Lib.hid (took13 HR.out (by omega))
        go_wp2_with fail
        refine HTK.out.mono ?_
        rintro e w7 ⟨rfl, H7⟩
        obtain ⟨xs1, ls1, u1, u2, mu1, H7'⟩ := H7.out
        have P7 := Lib.hid H7'
        have q0 : w7.cell? ⟨w2.heap.size, 0, none⟩ = some (.pointer (some ⟨p, 0, none⟩)) := by rw [Lib.cell_of_heap H7'.c1]; rfl
        have HL := Lib.hid (list13 H7')
        clear H7 H7' HTK d0 d1 d2 d3
        go_wp2_with fail
        refine HL.out.mono ?_
        rintro e w8 ⟨Al8, n8, c8, rfl, H8⟩
        have q1 : w8.cell? ⟨w2.heap.size, 1, none⟩ = some (.pointer (some ⟨g, 0, none⟩)) := by rw [Lib.cell_of_heap H8.out.p1.c1]; rfl
        have HRL := Lib.hid (rlist13 H8.out)
        clear HL q0
        go_wp2_with fail
        refine HRL.out.mono ?_
        rintro e w9 ⟨A2, n2, c2, rfl, H9⟩
        have HE9 := Lib.hid (eqs13 H9.out.1 H9.out.2)
        clear HRL q1
        go_wp2_with fail
        refine HE9.out.mono ?_
        rintro e w10 ⟨rfl, H10⟩
        have HT10 := Lib.hid (tookl13 H10.out (by omega))
        clear HE9
        go_wp2_with fail
        refine HT10.out.mono ?_
        rintro e w11 ⟨rfl, H11⟩
        obtain ⟨xs2, ls2, u7, u8, mu2, H11'⟩ := H11.out
        have P11 := Lib.hid H11'
        have HWH := Lib.hid (whole_any H11'.bk (by have := H11'.len.1; omega) (by have := H11'.len.2; omega))
        have hb11 := Lib.hid (fun w' (hb : Below w11.heap.size w11 w') => H11'.below_ hb)
        clear H11 H11' HT10 P7
        have hend : ∀ w', Below w11.heap.size w11 w' → ∃ (i' : Nat) (L : Lay) (F : Nat → Prop) (A : Option Addr) (n0 : Nat) (xs ls : List Value) (v1 v2 : Value) (much : Int), i' ≤ n ∧ Value.int .i64 ((i : Int) + 1) = .int .i64 i' ∧ Hid (P1 w w' p g (w3.heap.size + 1) L F A n0 w2.heap.size w3.heap.size (w3.heap.size + 1 + 1) p' g' L0 F0 xs ls v1 v2 much i' (4 * i')) := fun w' hb => ⟨i + 1, _, _, _, _, _, _, _, _, _, hlt, by push_cast; rfl, Lib.hid (hb11.out w' hb)⟩
        have HEND := Lib.hid hend
        clear hend hb11
        by_cases hq : (i : Int).tmod 64 = 0
        · as_aux_lemma => -- whole
            go_wp2_with fail
            refine HWH.out.mono ?_
            rintro e w12 ⟨rfl, hb12⟩
            have HE12 := Lib.hid (HEND.out w12 hb12)
            clear hb12
            go_wp2_with fail
            exact ⟨HE12.out, by simp [intOf]; omega⟩
        · as_aux_lemma => -- nowhole
            have HE12 := Lib.hid (HEND.out w11 (Below.refl _ w11))
            go_wp2_with fail
            exact ⟨HE12.out, by simp [intOf]; omega⟩
      · obtain rfl : i = n := by omega
        obtain ⟨w5, hw5⟩ : ∃ x, x = wr := ⟨_, rfl⟩
        subst hw5
        have HP2 : Hid (P3 w (w5.alloc (.cells #[.slice none 0 0, .slice none 0 0, .int .i64 0] 60)) p g (w3.heap.size + 1) w2.heap.size w3.heap.size (w3.heap.size + 1 + 1) p' g' L F xs ls v1 v2 much w5.heap.size (4 * i) (3 * 0)) := Lib.hid ⟨_, _, _, _, _, _, _, _, _, _, P2.start HM.out hL0⟩
        clear HM
        go_wp2_with fail
        go_loopw [16] (fun v16 wr => ∃ (k : Nat), k ≤ i ∧ v16 = .int .i64 k ∧ Hid (P3 w wr p g (w3.heap.size + 1) w2.heap.size w3.heap.size (w3.heap.size + 1 + 1) p' g' L F xs ls v1 v2 much w5.heap.size (4 * i) (3 * k))) (fun v16 _ => i - (intOf v16).toNat)
        case atStart => exact ⟨0, Nat.zero_le _, rfl, HP2⟩
        case round =>
          clear HP2
          obtain ⟨k, hk, rfl, HM⟩ := hrel
          by_cases hlt2 : k < i
          · as_aux_lemma => -- ask
              obtain ⟨o, ho⟩ : ∃ o, ops[k]? = some o := ⟨_, List.getElem?_eq_getElem (by have := HS.out.1; omega)⟩
              obtain ⟨ad, Ab, nb, cb, rfl, hop⟩ := HS.out.2 k _ ho
              have HO := Lib.hid hop
              have HA := Lib.hid (fun (j : Nat) (hj : j ≤ 1000000000) (w' : World) (t : P3 w w' p g (w3.heap.size + 1) w2.heap.size w3.heap.size (w3.heap.size + 1 + 1) p' g' L F xs ls v1 v2 much w5.heap.size (4 * i) j) => ask3 t hj hop hop.v)
              have HB := Lib.hid (fun (j : Nat) (hj : j ≤ 1000000000) (w' : World) (t : P3 w w' p g (w3.heap.size + 1) w2.heap.size w3.heap.size (w3.heap.size + 1 + 1) p' g' L F xs ls v1 v2 much w5.heap.size (4 * i) j) => ask3 t hj hop (listOp.v w))
              have HM0 : Hid (P3 w wr.drew p g (w3.heap.size + 1) w2.heap.size w3.heap.size (w3.heap.size + 1 + 1) p' g' L F xs ls v1 v2 much w5.heap.size (4 * i) (3 * k)) := Lib.hid (HM.out.below_ (below_drewN (Below.refl _ wr) 1))
              obtain ⟨s0, s1, s2, s3, s4, s5, s6⟩ := HM.out.sw hop
              clear hop ho
              go_upto_region 26 with (fail)
              go_cut [153] from 126 to 153 (fun v153 w9 => v153 = .bool false ∧ Hid (P3 w w9 p g (w3.heap.size + 1) w2.heap.size w3.heap.size (w3.heap.size + 1 + 1) p' g' L F xs ls v1 v2 much w5.heap.size (4 * i) (3 * k + 1 + 1 + 1)))
              case first =>
                  go_region_held3 (fun w' => w'.cell? ⟨w3.heap.size, 0, none⟩ = some (.pointer (some ⟨p', 0, none⟩)) ∧ w'.cell? ⟨w3.heap.size, 1, none⟩ = some (.pointer (some ⟨g', 0, none⟩)) ∧
                      w'.cell? (ad.add (k * 5)) = some (.int .i64 o.kind) ∧ w'.cell? ⟨(ad.add (k * 5)).block, (ad.add (k * 5)).off + 1, none⟩ = some (.int .i64 o.which) ∧ w'.cell? ⟨(ad.add (k * 5)).block, (ad.add (k * 5)).off + 2, none⟩ = some (.string o.nm) ∧ w'.cell? ⟨(ad.add (k * 5)).block, (ad.add (k * 5)).off + 3, none⟩ = some (.int .i64 o.ver) ∧ w'.cell? ⟨(ad.add (k * 5)).block, (ad.add (k * 5)).off + 4, none⟩ = some (.slice Ab nb cb))
                    ((first | assumption | (refine ⟨?_, ?_, ?_, ?_, ?_, ?_, ?_⟩ <;> assumption)))
                    (first
                    | (go_at_call 16; refine (HB.out (3 * k + 1 + 1) (by omega) _ H2.out).mono ?_; rintro e wd ⟨rfl, H3, t0, t1, t2, t3, t4, t5, t6⟩)
                    | (go_at_call 16; refine (HA.out (3 * k + 1) (by omega) _ H1.out).mono ?_; rintro e wb ⟨rfl, H2, t0, t1, t2, t3, t4, t5, t6⟩)
                    | (go_at_call 16; refine (HA.out (3 * k) (by omega) _ HM0.out).mono ?_; rintro e wa ⟨rfl, H1, t0, t1, t2, t3, t4, t5, t6⟩)
                    | fail)
                  all_goals go_wp2
                  all_goals go_meet
                  all_goals (case rel => exact ⟨rfl, H3⟩)
              case rest =>
              obtain ⟨rfl, H3⟩ := hcut
              obtain ⟨w9, hw9⟩ : ∃ x, x = wc := ⟨_, rfl⟩
              subst hw9
              have H3' : Hid (P3 w w9 p g (w3.heap.size + 1) w2.heap.size w3.heap.size (w3.heap.size + 1 + 1) p' g' L F xs ls v1 v2 much w5.heap.size (4 * i) (3 * (k + 1))) := H3
              clear H3 s0 s1 s2 s3 s4 s5 s6 HA HB HM0
              go_wp2_with fail
              exact ⟨⟨k + 1, hlt2, by go_num, H3'⟩, by simp [intOf]; omega⟩
          · as_aux_lemma => -- last
              obtain rfl : k = i := by omega
              have HM0 : Hid (P3 w wr.drew p g (w3.heap.size + 1) w2.heap.size w3.heap.size (w3.heap.size + 1 + 1) p' g' L F xs ls v1 v2 much w5.heap.size (4 * k) (3 * k)) := Lib.hid (HM.out.below_ (below_drewN (Below.refl _ wr) 1))
              obtain ⟨s0, s1⟩ := HM.out.sw1
              have h4 : 4 * k ≤ 1000000000 := by omega
              have h3 : 3 * k ≤ 1000000000 := by omega
              clear HM hk hlt hlt2
              go_wp2_with fail
              go_region_with (first
                | (refine (quiet28 H5.out h3).mono ?_; rintro e w9 ⟨rfl, H6⟩)
                | (refine (whole28 H4.out h4).mono ?_; rintro e w8 ⟨rfl, H5, t0, t1⟩)
                | (refine (eqs28 H2.out.1.1 H2.out.1.2 H2.out.2).mono ?_; rintro e w7 ⟨rfl, H4, t0, t1⟩)
                | (refine (rlist28 H1.out.1 H1.out.2).mono ?_; rintro e w6 ⟨A2, n2, c2, rfl, H2, t0, t1⟩)
                | (refine (list28 HM0.out).mono ?_; rintro e w5 ⟨Al, nl, cl, rfl, H1, t0, t1⟩)
                | fail)
              all_goals go_wp2
              all_goals go_ret
              all_goals exact ⟨rfl, H6.out⟩
  · as_aux_lemma => -- bad
      have e1 := hsa1.2 hroom
      have e2 := hsa2.2 hroom
      have g1 : s1.ra = .none := by cases s1 <;> first | rfl | cases e1
      have g2 : s2.ra = .none := by cases s2 <;> first | rfl | cases e2
      have z1 := B1.out
      have z2 := H2.out.2.1
      have z3 := hb3'
      have hc1 : (w3.alloc (.cells #[.pointer s2.sa, .pointer s2.ra] 32)).heap[w2.heap.size]? = some (.cells #[.pointer s1.sa, .pointer s1.ra] 32 (0, 0)) := by
        have h := (hb3'.block w2.heap.size (by simp)).trans (alloc_is w2 _)
        rw [Below.heap_alloc w3 _ _ (at_lt h)]
        exact h
      have hB : Below w.heap.size w (w3.alloc (.cells #[.pointer s2.sa, .pointer s2.ra] 32)) := by
        have y2 : Below w.heap.size w1 w2 := z2.mono z1.size
        have y3 : Below w.heap.size w2 (w2.alloc (.cells #[.pointer s1.sa, .pointer s1.ra] 32)) := (below_alloc w2 _).mono (Nat.le_trans z1.size z2.size)
        have y4 : Below w.heap.size (w2.alloc (.cells #[.pointer s1.sa, .pointer s1.ra] 32)) w3 := z3.mono (by have := z1.size; have := z2.size; simp; omega)
        have y5 : Below w.heap.size w3 (w3.alloc (.cells #[.pointer s2.sa, .pointer s2.ra] 32)) := (below_alloc w3 _).mono (by have := ((z1.trans y2).trans y3).trans y4 |>.size; omega)
        exact (((z1.trans y2).trans y3).trans y4).trans y5
      clear z1 z2 z3 hb3' H2 H3 hsa1 hsa2
      rw [e1, g1] at hc1
      rw [e2, g2] at hc1 hB
      have x0 : (w3.alloc (.cells #[.pointer .none, .pointer .none] 32)).cell? ⟨w2.heap.size, 0, none⟩ = some (.pointer .none) := by rw [Lib.cell_of_heap hc1]; rfl
      have HB := Lib.hid hB
      clear hc1 hB
      simp only [e1, g1, e2, g2]
      go_wp2_with fail
      go_ret
      exact ⟨rfl, HB.out⟩
end Go.Proofs.YtancenklmfamnaaGreat.Sh
