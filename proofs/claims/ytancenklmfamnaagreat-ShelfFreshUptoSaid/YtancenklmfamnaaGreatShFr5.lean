/- ShelfFresh: the book takes an answer: the walk. -/
import Derived.Test.YtancenklmfamnaaGreatShFr4
set_option linter.unusedVariables false
set_option linter.unusedSimpArgs false
namespace Go.Proofs.YtancenklmfamnaaGreat.Sh
open Go.RowKit Go.Maps Go.Sort Go.Shelf
open Go.Proofs Go.MuLone
open Go.Proofs.YtancenklmfamnaaGreatW.PrintWords (Reps OwnRow Kd ReadsRow)
open PShelfPlays (S70 S104 S115 k70 k104 k115)

theorem take_all {B gb : Nat} {w w3 wz w6 wy : World} {xs ls : List Value} {v1 v2 v1' v' : Value} {much q : Int} {At1 Al1 : Option Addr} {j ct i cl : Nat} (hb : BK B w gb xs ls v1 v2 much) (hs3 : Same (fun k => k = gb) w w3)
    (hz : BK B wz gb (xs ++ [.slice At1 j ct, v']) ls v1' v2 q ∧ Same (fun k => k = gb ∨ v1.ownBlock = some k ∨ At1.map (·.block) = some k) w3 wz ∧ (∀ k, v1'.ownBlock = some k → v1.ownBlock = some k ∨ w3.heap.size ≤ k) ∧ ∀ k, v'.ownBlock = some k → At1.map (·.block) = some k ∨ w3.heap.size ≤ k)
    (h6 : Below wz.heap.size wz w6) (hy : MidL B gb w6 wy (xs ++ [.slice At1 j ct, v']) ls v1' v2 q Al1 i cl) (hev : xs.length % 2 = 0 ∧ ls.length % 2 = 0) : TakeEnd B gb w wy xs ls v1 v2 At1 Al1 := by
  obtain ⟨hbz, hsz, hv1', hv'⟩ := hz
  obtain ⟨v2', l', hby, hsy, hv2', hl'⟩ := hy
  have z3 := hs3.2.2.2.1
  have z4 := hsz.2.2.2.1
  have z6 := h6.size
  refine ⟨_, _, v1', v2', q, hby, by simp, by simp, ⟨by simp; omega, by simp; omega⟩, ?_, fun k hk => ?_⟩
  · exact (((hs3.imp fun k e => .inl e).trans (hsz.imp fun k e => by
      rcases e with e | e | e
      · exact .inl e
      · exact .inr (.inl e)
      · exact .inr (.inr (.inr (.inl e))))).trans (Same.below h6)).trans (hsy.imp fun k e => by
      rcases e with e | e | e
      · exact .inl e
      · exact .inr (.inr (.inl e))
      · exact .inr (.inr (.inr (.inr e))))
  · rcases hk with rfl | hk | hk | ⟨y, hy, hk⟩ | ⟨y, hy, hk⟩
    · exact .inl (.inl rfl)
    · rcases hv1' k hk with h | h
      · exact .inl (.inr (.inl h))
      · exact .inr (.inr (.inr (by omega)))
    · rcases hv2' k hk with h | h
      · exact .inl (.inr (.inr (.inl h)))
      · exact .inr (.inr (.inr (by omega)))
    · rcases List.mem_append.1 hy with hy | hy
      · exact .inl (.inr (.inr (.inr (.inl ⟨y, hy, hk⟩))))
      · simp at hy
        rcases hy with rfl | rfl
        · rw [block_map] at hk; exact .inr (.inl hk)
        · rcases hv' k hk with h | h
          · exact .inr (.inl h)
          · exact .inr (.inr (.inr (by omega)))
    · rcases List.mem_append.1 hy with hy | hy
      · exact .inl (.inr (.inr (.inr (.inr ⟨y, hy, hk⟩))))
      · simp at hy
        rcases hy with rfl | rfl
        · rw [block_map] at hk; exact .inr (.inr (.inl hk))
        · rcases hl' k hk with h | h
          · exact .inr (.inr (.inl h))
          · exact .inr (.inr (.inr (by omega)))
set_option maxHeartbeats 8000000 in
set_option maxRecDepth 1000000 in
theorem book_take {B gb : Nat} {xs ls : List Value} {v1 v2 : Value} {much : Int} {w : World} (hb : BK B w gb xs ls v1 v2 much) (h1 : xs.length ≤ 1000000000000) (h2 : ls.length ≤ 1000000000000) (hev : xs.length % 2 = 0 ∧ ls.length % 2 = 0)
    {At1 Al1 : Option Addr} {nt ct nl cl : Nat} {tv te : Int} {xt xl : List Value} (ob : w.ownsRow B 5 1 (.slice At1 nt ct) nt xt) (ol : w.ownsRow B 70 4 (.slice Al1 nl cl) nl xl) (hnt : nt ≤ 2000000000000) (hnl : nl ≤ 2000000000000) (hct : ct ≤ maxLen) (hcl : cl ≤ maxLen) (hdb : ∀ k, At1.map (·.block) = some k → ¬ BF gb xs ls v1 v2 k) (hdl : ∀ k, Al1.map (·.block) = some k → ¬ BF gb xs ls v1 v2 k) :
    Calls Tryz.prog 14 #[.pointer (some ⟨gb, 0, none⟩), .agg (tdC (.slice At1 nt ct) tv (.slice Al1 nl cl) te)] w fun e w' => e = .returned (.tuple #[]) ∧ TakeEnd B gb w w' xs ls v1 v2 At1 Al1 := by
  obtain ⟨A1, c1, rfl⟩ := own_slice' hb.o1
  obtain ⟨A2, c2, rfl⟩ := own_slice' hb.o2
  have HB := Lib.hid hb
  have HOB := Lib.hid ob
  have HOL := Lib.hid ol
  have HM1 := Lib.hid (fun W => most_q nt ct (by omega) W)
  have HM2 := Lib.hid (fun W => most_q nl cl (by omega) W)
  have hm1 : min ct (nt + 70000) ≤ ct := Nat.min_le_left _ _
  have hm2 : min cl (nl + 70000) ≤ cl := Nat.min_le_left _ _
  have hm1' : min ct (nt + 70000) ≤ nt + 70000 := Nat.min_le_right _ _
  have hm2' : min cl (nl + 70000) ≤ nl + 70000 := Nat.min_le_right _ _
  generalize min ct (nt + 70000) = M1 at HM1 hm1 hm1'
  generalize min cl (nl + 70000) = M2 at HM2 hm2 hm2'
  have hcut1 := cut_b At1 nt ct M1 hm1
  have hcut2 := cut_l Al1 nl cl M2 hm2
  clear hb ob ol
  go_enter Tryz.func14, Tryz.ntmps14
  go_wp2_with fail
  go_cut [4] from 10 to 19 (fun v4 wc => v4 = .slice At1 M1 ct ∧ ∃ a, (w.alloc (.cells (tdC (.slice At1 nt ct) tv (.slice Al1 nl cl) te) 43)).drewN a = wc)
  case first =>
    go_quiet ((go_at_call 41; exact Calls.quiet_of (HM1.out _)))
    go_wp2
    go_meet
    case rel => exact ⟨rfl, _, rfl⟩
  case rest =>
  obtain ⟨rfl, a1, rfl⟩ := hcut
  go_wp2_with fail
  go_cut [5] from 20 to 29 (fun v5 wc => v5 = .slice Al1 M2 cl ∧ ∃ a, (w.alloc (.cells (tdC (.slice At1 nt ct) tv (.slice Al1 nl cl) te) 43)).drewN a = wc)
  case first =>
    go_quiet ((go_at_call 41; exact quiet_add (HM2.out _)))
    go_wp2
    go_meet
    case rel => first | exact ⟨rfl, _, rfl⟩ | exact ⟨rfl, a1 + nq, by rw [← World.drewN_drewN]⟩
  case rest =>
  obtain ⟨rfl, a2, hwc⟩ := hcut
  have hb2 : Below w.heap.size w wc := hwc ▸ below_drewN (below_alloc w _) a2
  clear hwc
  have hgb := (hb2.block gb (at_lt HB.out.blk)).trans HB.out.blk
  have HOV := Lib.hid (over_any gb _ _ much (1200 + 2 * (M1 : Int) + 96 * (M2 : Int)) wc hgb)
  have HB2 := Lib.hid hb2
  clear hgb hb2
  have e1 : IntKind.i64.wrap (2 * (M1 : Int)) = 2 * (M1 : Int) := Go.IntWalk.i64_in _ (by omega)
  have e2 : IntKind.i64.wrap (1200 + 2 * (M1 : Int)) = 1200 + 2 * (M1 : Int) := Go.IntWalk.i64_in _ (by omega)
  have e3 : IntKind.i64.wrap (96 * (M2 : Int)) = 96 * (M2 : Int) := Go.IntWalk.i64_in _ (by omega)
  have e4 : IntKind.i64.wrap (1200 + 2 * (M1 : Int) + 96 * (M2 : Int)) = 1200 + 2 * (M1 : Int) + 96 * (M2 : Int) := Go.IntWalk.i64_in _ (by omega)
  go_wp2_with fail
  refine HOV.out.mono ?_
  rintro e w3 ⟨q, rfl, hw3⟩
  have hb3 : BK B w3 gb xs ls (.slice A1 xs.length c1) (.slice A2 ls.length c2) q := by
    rw [hw3]
    exact (HB.out.below_ HB2.out).muchTo q
  have hs3 : Same (fun k => k = gb) w w3 := by
    rw [hw3]
    exact (Same.below HB2.out).trans (same9 _ _ 2 _)
  have g0 : w3.cell? ⟨gb, 0, none⟩ = some (.slice A1 xs.length c1) := by rw [Lib.cell_of_heap hb3.blk]; rfl
  have HB3 := Lib.hid (And.intro hb3 hs3)
  clear hw3 hb3 hs3 HOV HB2
  by_cases hq : 33554432 < q
  · go_wp2
    refine bodyPost_ret (v := .tuple #[]) (by simp [results, Tryz.results14, go_sem]) rfl ⟨rfl, xs, ls, _, _, q, HB3.out.1, by omega, by omega, hev, HB3.out.2.imp fun k => .inl, fun k => .inl⟩
  · have hst : BFill w3 w3 At1 ct (xs.length / 2) 0 := by
      refine ⟨Same.refl _, ?_⟩
      have h3 := row_farN HOB.out HB3.out.2 fun k hk e => by
        obtain ⟨_, cc, h⟩ := row_tyN HOB.out hk
        exact ty_ne2 h HB.out.blk (by decide) e
      rcases h3.2 with ⟨h, _⟩ | ⟨b, cap, cur, h, _, h4, _, _, h5, _⟩
      · injection h with e1 e2 e3
        exact .inl ⟨e1, e3⟩
      · injection h with e1 e2 e3
        subst e3
        exact .inr ⟨b, cur, e1, h4, by omega, by simp [bRow]⟩
    have HST := Lib.hid hst
    clear hst
    go_wp2_with fail
    go_loopw [7] (fun v7 wr => ∃ j : Nat, j ≤ M1 ∧ v7 = .int .i64 j ∧ Hid (BFill w3 wr At1 ct (xs.length / 2) j)) (fun v7 _ => M1 - (intOf v7).toNat)
    case atStart => exact ⟨0, Nat.zero_le _, rfl, HST⟩
    case round =>
      obtain ⟨j, hj, rfl, HF⟩ := hrel
      by_cases hjM : j < M1
      · rcases HF.out.row with ⟨_, h0⟩ | ⟨b, cur, rfl, hcur, hcs, _⟩
        · omega
        · have hf : wr.frozen? ⟨b, j, none⟩ = false := Lib.frozen_of_heap hcur _
          obtain ⟨u, hcu⟩ : ∃ u, wr.cell? ⟨b, j, none⟩ = some u := ⟨cur[j]'(by omega), by rw [Lib.cell_of_heap hcur]; exact Array.getElem?_eq_getElem _⟩
          have HN := Lib.hid (HF.out.next (by omega : j < ct))
          have HNB := Lib.hid (number_any xs.length j (by omega) (by omega) wr)
          clear hcur g0
          go_wp2_with (go_at_call 43; refine HNB.out.mono ?_; rintro e w9 ⟨rfl, rfl⟩)
          go_roundw
          case rel => exact ⟨j + 1, by omega, by go_num, HN⟩
          case measure => simp [intOf]; omega
      · obtain rfl : j = M1 := by omega
        go_upto_region 9 with (fail)
        have hBF := HF.out.own (B := B) (by omega) hct (fun k hk => (row_tyN HOB.out (by rw [block_map]; exact hk)).1)
        have hBK := HB3.out.1
        have hBr : B ≤ wr.heap.size := by have := (HB3.out.1.range (k := gb) (.inl rfl)); have := HF.out.same.2.2.2.1; omega
        have hx1 : ∀ k, At1.map (·.block) = some k → (∃ c, w3.heap[k]? = some (.cells c 5 (0, 0))) ∧ ¬ BF gb xs ls (.slice A1 xs.length c1) (.slice A2 ls.length c2) k := fun k hk => by
          obtain ⟨_, cc, h⟩ := row_tyN HOB.out (j := k) (by rw [block_map]; exact hk)
          exact ⟨⟨cc, HB3.out.2.at h fun e => ty_ne2 h HB.out.blk (by decide) e⟩, hdb k hk⟩
        have hgbr : wr.heap[gb]? = some (.cells #[.slice A1 xs.length c1, .slice A2 ls.length c2, .int .i64 q] 55 (0, 0)) := HF.out.same.at HB3.out.1.blk fun e => (hx1 gb e).2 (.inl rfl)
        have k0 : wr.cell? ⟨gb, 0, none⟩ = some (.slice A1 xs.length c1) := by rw [Lib.cell_of_heap hgbr]; rfl
        have k1 : (wr.alloc (.cells #[.int .u8 (nv (xs.length / 2) j)] 5)).cell? ⟨gb, 0, none⟩ = some (.slice A1 xs.length c1) := cell_below k0 (below_alloc _ _)
        have HX := Lib.hid (And.intro hBF (And.intro hBr (And.intro hx1 hgbr)))
        clear hBF hBr hx1 hgbr hBK g0
        go_cut [] from 57 to 73 (fun wz => Hid (MidB B gb w3 wz xs ls (.slice A1 xs.length c1) (.slice A2 ls.length c2) q At1 j ct))
        case first =>
          go_region_law
            (first
            | (refine step_app_b (by rfl) (.tmp 63) (.tmp 68) (by rfl) B (.slice At1 j ct) j (xs.length / 2) (by rfl) (World.ownsRow.alloc HX.out.1 _) (by omega) wr.heap.size (by rfl) one_cell (by simp; exact Nat.le_succ_of_le HX.out.2.1) ?_; intro A4 c4 w4 r1 r2 r3' r4; have r3 := grown_drew r3'; have H4 := Lib.hid (book_at4 HB3.out.1 HF.out HX.out.2.2.1 r3); have k2 : w4.cell? ⟨gb, 0, none⟩ = some (.slice A1 xs.length c1) := (Lib.cell_of_heap H4.out.1 0).trans rfl; have k3 : (w4.alloc (.cells #[.slice At1 j ct, .slice A4 (j + 1) c4] 25)).cell? ⟨gb, 0, none⟩ = some (.slice A1 xs.length c1) := cell_below k2 (below_alloc _ _); have HR4 := Lib.hid (And.intro r1 (And.intro r2 (And.intro r3 r4))); clear r1 r2 r3 r3' r4)
            | (refine step_app_x (by rfl) (.tmp 61) (.tmp 70) (by rfl) B (.slice A1 xs.length c1) xs [.slice At1 j ct, .slice A4 (j + 1) c4] (by rfl) (World.ownsRow.alloc H4.out.2.1 _) (by simp; exact Nat.le_succ_of_le H4.out.2.2) w4.heap.size (by rfl) (by rfl) two_cell (pair_one _ _ _ _ _ _) (by omega) ?_; intro A5 c5 w5 r5 r6 r7; have H5 := Lib.hid (book_at5 H4.out.1 H4.out.2.1 r6); have k4 : w5.cell? ⟨gb, 0, none⟩ = some (.slice A1 xs.length c1) := (Lib.cell_of_heap H5.out 0).trans rfl; have f4 : w5.frozen? ⟨gb, 0, none⟩ = false := Lib.frozen_of_heap H5.out _; have HR5 := Lib.hid (And.intro r5 (And.intro r6 r7)); clear r5 r6 r7)
            | (go_simp; go_at_call 43; refine (number_any xs.length j (by omega) (by omega) _).mono ?_; rintro e w9 ⟨rfl, rfl⟩))
          all_goals go_wp2
          all_goals go_meet
          all_goals (case rel => exact Lib.hid (take_b_end HB3.out.1 hev.1 (by omega) HF.out HX.out.2.2.1 HR4.out.1 HR4.out.2.1 HR4.out.2.2.1 HR4.out.2.2.2 HR5.out.1 HR5.out.2.1 HR5.out.2.2))
        case rest =>
        have HMB := Lib.hid hcut.out
        clear hcut HX k0 k1 HF
        obtain ⟨wz, hwz⟩ : ∃ x, x = wc := ⟨_, rfl⟩
        subst hwz
        obtain ⟨v1', v', hbz, hsz, hv1', hv'⟩ := HMB.out
        have gz : wz.cell? ⟨gb, 1, none⟩ = some (.slice A2 ls.length c2) := by rw [Lib.cell_of_heap hbz.blk]; rfl
        have HBZ := Lib.hid (And.intro hbz (And.intro hsz (And.intro hv1' hv')))
        clear hbz hsz hv1' hv' HMB
        have hdv : ((ls.length / 2 : Nat) : Int) = (ls.length : Int) / 2 := by omega
        go_upto_region 11 with (fail)
        have hb6 := below_alloc wz (.cells #[.string ⟨#[]⟩, .int .i64 0, .int .i64 0, .int .i64 (-5 - (ls.length : Int) / 2)] 70)
        have hm6 := alloc_is wz (.cells #[.string ⟨#[]⟩, .int .i64 0, .int .i64 0, .int .i64 (-5 - (ls.length : Int) / 2)] 70)
        generalize wz.alloc (.cells #[.string ⟨#[]⟩, .int .i64 0, .int .i64 0, .int .i64 (-5 - (ls.length : Int) / 2)] 70) = w6 at hb6 hm6 ⊢
        have hb6k := HBZ.out.1.below_ hb6
        have hs6 : Same (fun k => k = gb ∨ (Value.slice A1 xs.length c1).ownBlock = some k ∨ At1.map (·.block) = some k) w w6 := ((HB3.out.2.imp fun k e => .inl e).trans HBZ.out.2.1).trans (Same.below hb6)
        have hol6 : w6.ownsRow B 70 4 (.slice Al1 nl cl) nl xl := row_farN HOL.out hs6 fun k hk e => by
          obtain ⟨_, cc, h⟩ := row_tyN HOL.out hk
          rcases e with e | e | e
          · exact ty_ne2 h HB.out.blk (by decide) e
          · obtain ⟨_, c', h'⟩ := HB.out.t1 e; exact ty_ne2 h h' (by decide) rfl
          · obtain ⟨_, c', h'⟩ := row_tyN HOB.out (j := k) (by rw [block_map]; exact e); exact ty_ne2 h h' (by decide) rfl
        have hst : LFill w6 w6 Al1 cl (ls.length / 2) 0 := by
          refine ⟨Same.refl _, ?_⟩
          rcases hol6.2 with ⟨h, _⟩ | ⟨b, cap, cur, h, _, h4, _, _, h5, _⟩
          · injection h with e1 e2 e3
            exact .inl ⟨e1, e3⟩
          · injection h with e1 e2 e3
            subst e3
            exact .inr ⟨b, cur, e1, h4, by omega, by simp [hRow]⟩
        have hAlz : ∀ k, Al1.map (·.block) = some k → k ≠ wz.heap.size := fun k hk => by
          obtain ⟨_, cc, h⟩ := row_tyN HOL.out (j := k) (by rw [block_map]; exact hk)
          have := at_lt h
          have := HB3.out.2.2.2.2.1
          have := HBZ.out.2.1.2.2.2.1
          omega
        have H6 := Lib.hid (And.intro hb6 (And.intro hm6 (And.intro hb6k (And.intro hs6 (And.intro hol6 hAlz)))))
        have HST := Lib.hid hst
        clear hst hb6 hm6 hb6k hs6 hol6 gz hAlz
        go_wp2_with fail
        go_loopw [9] (fun v9 wr => ∃ j : Nat, j ≤ M2 ∧ v9 = .int .i64 j ∧ Hid (LFill w6 wr Al1 cl (ls.length / 2) j)) (fun v9 _ => M2 - (intOf v9).toNat)
        case atStart => exact ⟨0, Nat.zero_le _, rfl, HST⟩
        case round =>
          obtain ⟨i, hi, rfl, HF⟩ := hrel
          have hmr := HF.out.same.at H6.out.2.1 fun e => H6.out.2.2.2.2.2 _ e rfl
          have m0 : wr.cell? ⟨wz.heap.size, 0, none⟩ = some (.string ⟨#[]⟩) := by rw [Lib.cell_of_heap hmr]; rfl
          have m1 : wr.cell? ⟨wz.heap.size, 1, none⟩ = some (.int .i64 0) := by rw [Lib.cell_of_heap hmr]; rfl
          have m2 : wr.cell? ⟨wz.heap.size, 2, none⟩ = some (.int .i64 0) := by rw [Lib.cell_of_heap hmr]; rfl
          have m3 : wr.cell? ⟨wz.heap.size, 3, none⟩ = some (.int .i64 (-5 - (ls.length : Int) / 2)) := by rw [Lib.cell_of_heap hmr]; rfl
          clear hmr
          by_cases hiM : i < M2
          · rcases HF.out.row with ⟨_, h0⟩ | ⟨b, cur, rfl, hcur, hcs, _⟩
            · omega
            · have hf := fun r => (Lib.frozen_of_heap (w := wr) hcur r : wr.frozen? ⟨b, r, none⟩ = false)
              have f0 := hf (i * 4)
              have f1 := hf (i * 4 + 1)
              have f2 := hf (i * 4 + 2)
              have f3 := hf (i * 4 + 3)
              have hcu : ∀ r, r < 4 → ∃ u, wr.cell? ⟨b, i * 4 + r, none⟩ = some u := fun r hr => ⟨cur[i * 4 + r]'(by omega), by rw [Lib.cell_of_heap hcur]; exact Array.getElem?_eq_getElem _⟩
              obtain ⟨u0, y0⟩ := hcu 0 (by decide)
              obtain ⟨u1, y1⟩ := hcu 1 (by decide)
              obtain ⟨u2, y2⟩ := hcu 2 (by decide)
              obtain ⟨u3, y3⟩ := hcu 3 (by decide)
              rw [Nat.add_zero] at y0
              have hN := HF.out.next (by omega : i < cl)
              rw [hdv] at hN
              have HN := Lib.hid hN
              clear hcur hf hcu hN
              go_wp2
              go_roundw
              case rel => exact ⟨i + 1, by omega, by go_num, HN⟩
              case measure => simp [intOf]; omega
          · obtain rfl : i = M2 := by omega
            go_upto_region 15 with (fail)
            have hLF := HF.out.own (B := B) (by omega) hcl (fun k hk => (row_tyN HOL.out (by rw [block_map]; exact hk)).1)
            have hBr : B ≤ wr.heap.size := by have := (H6.out.2.2.1.range (k := gb) (.inl rfl)); have := HF.out.same.2.2.2.1; omega
            have hx1 : ∀ k, Al1.map (·.block) = some k → (∃ c, w6.heap[k]? = some (.cells c 70 (0, 0))) ∧ ¬ BF gb (xs ++ [.slice At1 j ct, v']) ls v1' (.slice A2 ls.length c2) k := fun k hk => by
              obtain ⟨_, cc, h⟩ := row_tyN H6.out.2.2.2.2.1 (j := k) (by rw [block_map]; exact hk)
              obtain ⟨_, c0, h0⟩ := row_tyN HOL.out (j := k) (by rw [block_map]; exact hk)
              refine ⟨⟨cc, h⟩, fun e => ?_⟩
              rcases e with e | e | e | ⟨y, hy, e⟩ | ⟨y, hy, e⟩
              · exact ty_ne2 h H6.out.2.2.1.blk (by decide) e
              · obtain ⟨_, c', h'⟩ := H6.out.2.2.1.t1 e; exact ty_ne2 h h' (by decide) rfl
              · exact hdl k hk (.inr (.inr (.inl e)))
              · obtain ⟨_, c', h'⟩ := H6.out.2.2.1.tx hy e; exact ty_ne2 h h' (by decide) rfl
              · exact hdl k hk (.inr (.inr (.inr (.inr ⟨y, hy, e⟩))))
            have hgbr : wr.heap[gb]? = some (.cells #[v1', .slice A2 ls.length c2, .int .i64 q] 55 (0, 0)) := HF.out.same.at H6.out.2.2.1.blk fun e => (hx1 gb e).2 (.inl rfl)
            have k0 : wr.cell? ⟨gb, 1, none⟩ = some (.slice A2 ls.length c2) := by rw [Lib.cell_of_heap hgbr]; rfl
            have k1 : (wr.alloc (.cells #[.string ⟨#[]⟩, .int .i64 0, .int .i64 0, .int .i64 (-5 - (ls.length : Int) / 2)] 70)).cell? ⟨gb, 1, none⟩ = some (.slice A2 ls.length c2) := cell_below k0 (below_alloc _ _)
            have HC4 := Lib.hid (four_cell (w := wr) (m := ls.length / 2) (t := 70))
            rw [hdv] at HC4
            have HX := Lib.hid (And.intro hLF (And.intro hBr (And.intro hx1 hgbr)))
            clear hLF hBr hx1 hgbr
            go_region_law
                (first
                | (refine step_app_l (by rfl) (.tmp 98) (.tmp 100) (by rfl) B (.slice Al1 i cl) i (ls.length / 2) (by rfl) (World.ownsRow.alloc HX.out.1 _) (by omega) wr.heap.size (by rfl) HC4.out (by simp; exact Nat.le_succ_of_le HX.out.2.1) ?_; intro A4 c4 w4 r1 r2 r3' r4; have r3 := grown_drew r3'; have H4 := Lib.hid (book_at4l H6.out.2.2.1 HF.out HX.out.2.2.1 r3); have k2 : w4.cell? ⟨gb, 1, none⟩ = some (.slice A2 ls.length c2) := (Lib.cell_of_heap H4.out.1 1).trans rfl; have k3 : (w4.alloc (.cells #[.slice Al1 i cl, .slice A4 (i + 1) c4] 40)).cell? ⟨gb, 1, none⟩ = some (.slice A2 ls.length c2) := cell_below k2 (below_alloc _ _); have HR4 := Lib.hid (And.intro r1 (And.intro r2 (And.intro r3 r4))); clear r1 r2 r3 r3' r4)
                | (refine step_app_y (by rfl) (.tmp 96) (.tmp 102) (by rfl) B (.slice A2 ls.length c2) ls [.slice Al1 i cl, .slice A4 (i + 1) c4] (by rfl) (World.ownsRow.alloc H4.out.2.1 _) (by simp; exact Nat.le_succ_of_le H4.out.2.2) w4.heap.size (by rfl) (by rfl) two_cell (pair_one _ _ _ _ _ _) (by omega) ?_; intro A5 c5 w5 r5 r6 r7; have H5 := Lib.hid (book_at5l H4.out.1 H4.out.2.1 r6); have k4 : w5.cell? ⟨gb, 1, none⟩ = some (.slice A2 ls.length c2) := (Lib.cell_of_heap H5.out 1).trans rfl; have f4 : w5.frozen? ⟨gb, 1, none⟩ = false := Lib.frozen_of_heap H5.out _; have HR5 := Lib.hid (And.intro r5 (And.intro r6 r7)); clear r5 r6 r7)
                | fail)
            all_goals have HY := Lib.hid (take_l_end H6.out.2.2.1 hev.2 (by omega) HF.out HX.out.2.2.1 HR4.out.1 HR4.out.2.1 HR4.out.2.2.1 HR4.out.2.2.2 HR5.out.1 HR5.out.2.1 HR5.out.2.2)
            all_goals go_wp2
            all_goals go_end0
            all_goals exact ⟨rfl, take_all HB.out HB3.out.2 HBZ.out H6.out.1 HY.out hev⟩
end Go.Proofs.YtancenklmfamnaaGreat.Sh
