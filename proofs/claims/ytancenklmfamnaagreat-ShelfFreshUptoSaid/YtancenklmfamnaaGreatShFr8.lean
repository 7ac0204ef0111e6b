/- ShelfFresh: asked. -/
import Derived.Test.YtancenklmfamnaaGreatShFr8a
set_option linter.unusedVariables false
set_option linter.unusedSimpArgs false
namespace Go.Proofs.YtancenklmfamnaaGreat.Sh
open Go.RowKit Go.Maps Go.Sort Go.Shelf
open Go.Proofs Go.MuLone
open Go.Proofs.YtancenklmfamnaaGreatW.PrintWords (Reps OwnRow Kd ReadsRow)
open PShelfPlays (S70 S104 S115 k70 k104 k115)

/-- A load under another name: so that 'go_region_held3' does not try to take it first (its cell is written by the same region). -/
def ldQ (t : TypeId) (o : Operand) : Op := .load t o
theorem ldQ_eq (t : TypeId) (o : Operand) : ldQ t o = Op.load t o := rfl
attribute [local go_sem] ldQ_eq
set_option maxHeartbeats 16000000 in
set_option maxRecDepth 1000000 in
theorem asked_any {w0 w : World} {p g h n0 gq : Nat} {L : Lay} {F : Nat → Prop} {A : Option Addr} {gots wants : List An} {ts : List Tx} {v1 v2 : Value} {much : Int} (hc : Core w0 w p g L F h A n0) (htc : L.touch < 1099511627776) (hq : QK w0.heap.size w gq gots wants ts v1 v2 much) (hqc : ∀ k, QF gq gots wants v1 v2 k → ¬ CF p L h A F k) (hn : gots.length ≤ 1000000000)
    (o : Op1) (Ab : Option Addr) (nb cb : Nat) (ho : OpV w0 Ab nb cb o) :
    Calls Tryz.prog 16 #[.pointer (some ⟨gq, 0, none⟩), .pointer (some ⟨h, 0, none⟩), .agg #[.pointer (some ⟨p, 0, none⟩), .pointer (some ⟨g, 0, none⟩)], .agg (opC o.kind o.which o.nm o.ver (.slice Ab nb cb))] w fun e w' => e = .returned (.bool true) ∧ AskEnd w0 w w' p g h gq L F A gots wants v1 v2 := by
  have hbA : Below w.heap.size w ((w.alloc (.cells #[.pointer (some ⟨p, 0, none⟩), .pointer (some ⟨g, 0, none⟩)] 32)).alloc (.cells (opC o.kind o.which o.nm o.ver (.slice Ab nb cb)) 39)) := ((Below.refl _ w).alloc (Nat.le_refl _) _).alloc (by simp) _
  have hpA : ((w.alloc (.cells #[.pointer (some ⟨p, 0, none⟩), .pointer (some ⟨g, 0, none⟩)] 32)).alloc (.cells (opC o.kind o.which o.nm o.ver (.slice Ab nb cb)) 39)).heap[w.heap.size]? = some (.cells #[.pointer (some ⟨p, 0, none⟩), .pointer (some ⟨g, 0, none⟩)] 32 (0, 0)) := by
    rw [Below.heap_alloc _ _ _ (by simp)]
    exact alloc_is w _
  have hoA : ((w.alloc (.cells #[.pointer (some ⟨p, 0, none⟩), .pointer (some ⟨g, 0, none⟩)] 32)).alloc (.cells (opC o.kind o.which o.nm o.ver (.slice Ab nb cb)) 39)).heap[w.heap.size + 1]? = some (.cells (opC o.kind o.which o.nm o.ver (.slice Ab nb cb)) 39 (0, 0)) := by
    have := alloc_is (w.alloc (.cells #[.pointer (some ⟨p, 0, none⟩), .pointer (some ⟨g, 0, none⟩)] 32)) (.cells (opC o.kind o.which o.nm o.ver (.slice Ab nb cb)) 39)
    simpa using this
  have hzA : ((w.alloc (.cells #[.pointer (some ⟨p, 0, none⟩), .pointer (some ⟨g, 0, none⟩)] 32)).alloc (.cells (opC o.kind o.which o.nm o.ver (.slice Ab nb cb)) 39)).heap.size = w.heap.size + 2 := by simp
  generalize hwA : (w.alloc (.cells #[.pointer (some ⟨p, 0, none⟩), .pointer (some ⟨g, 0, none⟩)] 32)).alloc (.cells (opC o.kind o.which o.nm o.ver (.slice Ab nb cb)) 39) = wA at hbA hpA hoA hzA
  have cA := hc.below_ hbA
  have qA := hq.below_ hbA
  have hov := (ho.below cA.below).at hoA
  have hbo : ∀ x, Ab.map (·.block) = some x → o.dat ≠ [] → ¬ Foot2 p L h A x ∧ x < wA.heap.size := fun x hx hd => by
    have h1 := ho.rd.lt (k := x) (by rw [block_map]; exact hx) hd
    refine ⟨fun e => ?_, Nat.lt_of_lt_of_le h1 cA.below.size⟩
    have h2 := cA.range (k := x) (.inl e)
    omega
  have HT := Lib.hid (told_c cA.at_ (by omega) o hov hbo)
  have q0 : wA.cell? ⟨w.heap.size, 0, none⟩ = some (.pointer (some ⟨p, 0, none⟩)) := by rw [Lib.cell_of_heap hpA]; rfl
  have x0 := hov.c0
  have x1 : wA.cell? ⟨w.heap.size + 1, 1, none⟩ = some (.int .i64 o.which) := hov.c1
  have x2 : wA.cell? ⟨w.heap.size + 1, 2, none⟩ = some (.string o.nm) := hov.c2
  have x3 : wA.cell? ⟨w.heap.size + 1, 3, none⟩ = some (.int .i64 o.ver) := hov.c3
  have x4 : wA.cell? ⟨w.heap.size + 1, 4, none⟩ = some (.slice Ab nb cb) := hov.c4
  have HA := Lib.hid (And.intro cA (And.intro qA (And.intro hbA (And.intro hpA (And.intro hoA hzA)))))
  have HQ := Lib.hid (And.intro hc (And.intro hq hqc))
  have HOP := Lib.hid ho
  clear hc hq hqc cA qA hov hbo hbA hpA hoA ho
  go_enter Tryz.func16, Tryz.ntmps16
  go_upto_region 1 with (fail)
  go_cut [9, 10] from 12 to 19 (fun v9 v10 w4 => ∃ tk L' A' n' At1 nt ct tdat tv Al1 nl1 cl1 tls te, v9 = .pointer (some ⟨tk, 0, none⟩) ∧ v10 = .bool true ∧ Hid (ToldS w0.heap.size p h L A wA o.kind o.nm o.ver o.dat w4 tk L' A' n' At1 nt ct tdat tv Al1 nl1 cl1 tls te))
  case first =>
    as_aux_lemma => -- told
      go_wp2_with (refine HT.out.mono ?_; rintro e w3 ⟨L', A', n', At1, nt, ct, tdat, tv, Al1, nl1, cl1, tls, te, rfl, H3⟩)
      go_meet
      case rel => exact ⟨_, L', A', n', At1, nt, ct, tdat, tv, Al1, nl1, cl1, tls, te, rfl, rfl, H3⟩
  case rest =>
  obtain ⟨tk, L', A', n', At1, nt, ct, tdat, tv, Al1, nl, cl, tls, te, rfl, rfl, H4⟩ := hcut
  obtain ⟨w4, hw4⟩ : ∃ x, x = wc := ⟨_, rfl⟩
  subst hw4
  clear HT x0 x1 x2 x3 x4 q0
  have hw1 : wA.heap.size ≤ w4.heap.size := H4.out.mv.1.2.2.2.1
  have hkeep : ∀ (k : Nat) (ob : Obj), wA.heap[k]? = some ob → ¬ CF p L h A F k → w4.heap[k]? = some ob := fun k ob h1 h2 => H4.out.mv.1.at h1 fun e => h2 (by
    rcases e with e | e
    · exact .inl (.inl (.inl e))
    · exact .inl (.inr e))
  have hfar : ∀ k, w.heap.size ≤ k → ¬ CF p L h A F k := fun k hk e => by have := (HQ.out.1.range e).2; omega
  have hp4 := hkeep _ _ HA.out.2.2.2.1 (hfar _ (Nat.le_refl _))
  have ho4 := hkeep _ _ HA.out.2.2.2.2.1 (hfar _ (by omega))
  have q1 : w4.cell? ⟨w.heap.size, 1, none⟩ = some (.pointer (some ⟨g, 0, none⟩)) := by rw [Lib.cell_of_heap hp4]; rfl
  have x0 : w4.cell? ⟨w.heap.size + 1, 0, none⟩ = some (.int .i64 o.kind) := by rw [Lib.cell_of_heap ho4]; rfl
  have x1 : w4.cell? ⟨w.heap.size + 1, 1, none⟩ = some (.int .i64 o.which) := by rw [Lib.cell_of_heap ho4]; rfl
  have x2 : w4.cell? ⟨w.heap.size + 1, 2, none⟩ = some (.string o.nm) := by rw [Lib.cell_of_heap ho4]; rfl
  have x3 : w4.cell? ⟨w.heap.size + 1, 3, none⟩ = some (.int .i64 o.ver) := by rw [Lib.cell_of_heap ho4]; rfl
  have x4 : w4.cell? ⟨w.heap.size + 1, 4, none⟩ = some (.slice Ab nb cb) := by rw [Lib.cell_of_heap ho4]; rfl
  have HW := Lib.hid (ask_a (Below.refl _ w4) HA.out.1 H4.out HOP.out (by omega))
  have HFAR := Lib.hid (And.intro hfar hw1)
  clear hkeep hfar hp4 ho4 hw1
  go_upto_region 2 with (fail)
  go_cut [11] from 20 to 23 (fun v11 w6 => ∃ tk2 A1 n1 c1 A2 n2 c2, v11 = .pointer (some ⟨tk2, 0, none⟩) ∧ Hid (∃ F', AskW w0 wA w6 p g h L F A L' F' A' n' ⟨At1, nt, ct, Al1, nl, cl⟩ ⟨tdat, tv, tls, te⟩ ⟨A1, n1, c1, A2, n2, c2⟩ tk tk2))
  case first =>
    as_aux_lemma => -- want
      go_wp2_with (refine HW.out.mono ?_; rintro e w5 ⟨A1, n1, c1, A2, n2, c2, rfl, H5⟩)
      go_meet
      case rel => exact ⟨_, A1, n1, c1, A2, n2, c2, rfl, H5⟩
  case rest =>
  obtain ⟨tk2, A1, n1, c1, A2, n2, c2, rfl, H6⟩ := hcut
  obtain ⟨w6, hw6⟩ : ∃ x, x = wc := ⟨_, rfl⟩
  subst hw6
  clear HW x0 x1 x2 x3 x4 q1
  obtain ⟨F', HW⟩ : ∃ F', Hid (AskW w0 wA w6 p g h L F A L' F' A' n' ⟨At1, nt, ct, Al1, nl, cl⟩ ⟨tdat, tv, tls, te⟩ ⟨A1, n1, c1, A2, n2, c2⟩ tk tk2) := by
    obtain ⟨F', h⟩ := H6.out
    exact ⟨F', Lib.hid h⟩
  clear H6
  have hqA : ∀ k, QF gq gots wants v1 v2 k → ¬ CF p L h A F k := HQ.out.2.2
  have q6 : QK w0.heap.size w6 gq gots wants ts v1 v2 much := HA.out.2.1.off HW.out.same hqA
  have hb2 := HW.out.b2
  have d0 : w6.cell? ⟨tk2, 0, none⟩ = some (.slice A1 n1 c1) := by rw [Lib.cell_of_heap hb2]; rfl
  have d2 : w6.cell? ⟨tk2, 2, none⟩ = some (.slice A2 n2 c2) := by rw [Lib.cell_of_heap hb2]; rfl
  have hn1 := HW.out.rd.1.1
  have hn2 := HW.out.rd.2.1
  have hsm := HW.out.own.2.2.2
  have hl1 : n1 ≤ 2000000000000 := by have h1 : n1 = tdat.length := hn1; have h2 : tdat.length ≤ 2000000000000 := hsm.1; omega
  have hl2 : n2 ≤ 256 := by have h1 : n2 = tls.length := hn2; have h2 : tls.length ≤ 256 := hsm.2; omega
  have e1 : IntKind.i64.wrap (2 * (n1 : Int)) = 2 * (n1 : Int) := Go.IntWalk.i64_in _ (by omega)
  have e2 : IntKind.i64.wrap (1600 + 2 * (n1 : Int)) = 1600 + 2 * (n1 : Int) := Go.IntWalk.i64_in _ (by omega)
  have e3 : IntKind.i64.wrap (96 * (n2 : Int)) = 96 * (n2 : Int) := Go.IntWalk.i64_in _ (by omega)
  have e4 : IntKind.i64.wrap (1600 + 2 * (n1 : Int) + 96 * (n2 : Int)) = 1600 + 2 * (n1 : Int) + 96 * (n2 : Int) := Go.IntWalk.i64_in _ (by omega)
  have HOV := Lib.hid (qover_any gq v1 v2 much (1600 + 2 * (n1 : Int) + 96 * (n2 : Int)) w6 q6.blk)
  have HQ6 := Lib.hid q6
  clear hb2 q6 hqA hn1 hn2 hsm
  go_wp2_with fail
  refine HOV.out.mono ?_
  rintro e w7 ⟨q, rfl, hw7⟩
  have q7 : QK w0.heap.size w7 gq gots wants ts v1 v2 q := by rw [hw7]; exact HQ6.out.muchTo q
  have s7 : Same (fun k => k = gq) w6 w7 := by rw [hw7]; exact same9 _ _ 2 _
  have H7 := Lib.hid (And.intro q7 s7)
  clear q7 s7 hw7 HOV HQ6 d0 d2 e1 e2 e3 e4
  generalize decide (33554432 < q) = bq
  go_upto_if 36 with (fail)
  go_cut [] from 37 to 66 (fun wz => ∃ gots' wants' ts' v1' v2' much', Hid (AskZ w0 w w6 wz p g h gq L F A gots wants v1 v2 L' F' A' n' ⟨At1, nt, ct, Al1, nl, cl⟩ ⟨tdat, tv, tls, te⟩ ⟨A1, n1, c1, A2, n2, c2⟩ tk tk2 gots' wants' ts' v1' v2' much'))
  case first =>
    cases bq
    · as_aux_lemma => -- keep
        obtain ⟨Ag, cg, rfl⟩ := own_slice' H7.out.1.o1
        obtain ⟨Aw, cw, rfl⟩ := own_slice' H7.out.1.o2
        have hz := HA.out.2.2.1.size
        have hS7 : ∀ x, (x = gq ∨ (Value.slice Ag gots.length cg).ownBlock = some x ∨ (Value.slice Aw wants.length cw).ownBlock = some x) → w0.heap.size ≤ x ∧ x < wA.heap.size ∧ ¬ CF p L h A F x := fun x hx => by
          have h1 : QF gq gots wants (.slice Ag gots.length cg) (.slice Aw wants.length cw) x := by
            rcases hx with hx | hx | hx
            · exact .inl hx
            · exact .inr (.inl hx)
            · exact .inr (.inr (.inl hx))
          exact ⟨(HQ.out.2.1.range h1).1, by have := (HQ.out.2.1.range h1).2; omega, HQ.out.2.2 x h1⟩
        have HS7 := Lib.hid hS7
        obtain ⟨m1, m2, m3, m4, m5⟩ := HW.out.move (H7.out.2.imp fun _ => .inl) hS7
        have k0 : w7.cell? ⟨gq, 0, none⟩ = some (.slice Ag gots.length cg) := by rw [Lib.cell_of_heap H7.out.1.blk]; rfl
        have k1 : (w7.alloc (.cells (tdC (.slice At1 nt ct) tv (.slice Al1 nl cl) te) 43)).cell? ⟨gq, 0, none⟩ = some (.slice Ag gots.length cg) := cell_below k0 (below_alloc _ _)
        have d0 : w7.cell? ⟨tk, 0, none⟩ = some (.slice At1 nt ct) := by rw [Lib.cell_of_heap m4]; rfl
        have d1 : w7.cell? ⟨tk, 1, none⟩ = some (.int .i64 tv) := by rw [Lib.cell_of_heap m4]; rfl
        have d2 : w7.cell? ⟨tk, 2, none⟩ = some (.slice Al1 nl cl) := by rw [Lib.cell_of_heap m4]; rfl
        have d3 : w7.cell? ⟨tk, 3, none⟩ = some (.int .i64 te) := by rw [Lib.cell_of_heap m4]; rfl
        have hB7 : w0.heap.size ≤ w7.heap.size := m1.below.size
        have M7 := Lib.hid (And.intro m2 (And.intro hB7 hz))
        clear m1 m2 m3 m4 m5 hS7 hB7
        go_upto_region 4 with (fail)
        go_cut [] from 37 to 46 (fun wx => ∃ A8 c8, Hid (Mid4 w0.heap.size gq w7 wx gots ts (.slice Ag gots.length cg) (.slice Aw wants.length cw) q ⟨At1, nt, ct, Al1, nl, cl⟩ ⟨tdat, tv, tls, te⟩ A8 c8))
        case first =>
          as_aux_lemma => -- r4
            go_region_law
              (first
              | (refine step_app_t (by rfl) (.tmp 41) (.tmp 43) (by rfl) w0.heap.size (.slice Ag gots.length cg) gots.length (ansC gots ts) (An.cells ⟨At1, nt, ct, Al1, nl, cl⟩ ⟨tdat, tv, tls, te⟩) (by rfl) (World.ownsRow.alloc H7.out.1.o1 _) (by simp; exact Nat.le_succ_of_le M7.out.2.1) w7.heap.size (by rfl) (by rfl) td_cell td_one (by omega) ?_; intro A8 c8 w8 r1 r2' r3; have r2 := grown_drew' r2'; have H8 := Lib.hid (q4_at H7.out.1 r2); have k2 : w8.cell? ⟨gq, 0, none⟩ = some (.slice Ag gots.length cg) := (Lib.cell_of_heap H8.out 0).trans rfl; have f2 : w8.frozen? ⟨gq, 0, none⟩ = false := Lib.frozen_of_heap H8.out _; have HR := Lib.hid (And.intro r1 (And.intro r2 r3)); clear r1 r2 r2' r3)
              | fail)
            all_goals go_wp2
            all_goals go_meet
            all_goals (case rel => exact ⟨_, _, Lib.hid (q4_end H7.out.1 HR.out.2.1 HR.out.1 HR.out.2.2)⟩)
        case rest =>
        obtain ⟨A8, c8, HM4⟩ := hcut
        obtain ⟨wx, hwx⟩ : ∃ x, x = wc := ⟨_, rfl⟩
        subst hwx
        clear k0 k1 d0 d1 d2 d3
        have sx : Same (fun k => k = gq ∨ (Value.slice Ag gots.length cg).ownBlock = some k ∨ (Value.slice Aw wants.length cw).ownBlock = some k) w6 wx := (H7.out.2.imp fun _ => .inl).trans (HM4.out.2.2.1.imp fun k e => by
          rcases e with e | e
          · exact .inl e
          · exact .inr (.inl e))
        obtain ⟨m1, m2, m3, m4, m5⟩ := HW.out.move sx HS7.out
        have k0 : wx.cell? ⟨gq, 1, none⟩ = some (.slice Aw wants.length cw) := by rw [Lib.cell_of_heap HM4.out.1]; rfl
        have d0 : wx.cell? ⟨tk2, 0, none⟩ = some (.slice A1 n1 c1) := by rw [Lib.cell_of_heap m5]; rfl
        have d1 : wx.cell? ⟨tk2, 1, none⟩ = some (.int .i64 tv) := by rw [Lib.cell_of_heap m5]; rfl
        have d2 : wx.cell? ⟨tk2, 2, none⟩ = some (.slice A2 n2 c2) := by rw [Lib.cell_of_heap m5]; rfl
        have d3 : wx.cell? ⟨tk2, 3, none⟩ = some (.int .i64 te) := by rw [Lib.cell_of_heap m5]; rfl
        have hBx : w0.heap.size ≤ wx.heap.size := m1.below.size
        have MX := Lib.hid (And.intro m3 (And.intro hBx (And.intro m5 sx)))
        have hdl : tdat.length ≤ 2000000000000 := HW.out.own.2.2.2.1
        have htl : tls.length ≤ 256 := HW.out.own.2.2.2.2
        clear m1 m2 m3 m4 m5 hBx sx
        have hwl : wants.length ≤ 1000000000 := by have h1 := HQ.out.2.1.l1; have h2 := HQ.out.2.1.l2; omega
        have key : ∀ W : World, Below wx.heap.size wx W → W.cell? ⟨gq, 1, none⟩ = some (.slice Aw wants.length cw) ∧ W.cell? ⟨tk2, 0, none⟩ = some (.slice A1 n1 c1) ∧ W.cell? ⟨tk2, 1, none⟩ = some (.int .i64 tv) ∧ W.cell? ⟨tk2, 2, none⟩ = some (.slice A2 n2 c2) ∧ W.cell? ⟨tk2, 3, none⟩ = some (.int .i64 te) := fun W hb => ⟨cell_below k0 hb, cell_below d0 hb, cell_below d1 hb, cell_below d2 hb, cell_below d3 hb⟩
        have KEY := Lib.hid key
        clear key
        go_upto_region 5 with (fail)
        rw [show Op.load 58 (.tmp 50) = ldQ 58 (.tmp 50) from rfl]
        go_region_held3 (fun w' => w'.cell? ⟨tk2, 0, none⟩ = some (.slice A1 n1 c1) ∧ w'.cell? ⟨tk2, 1, none⟩ = some (.int .i64 tv) ∧ w'.cell? ⟨tk2, 2, none⟩ = some (.slice A2 n2 c2) ∧ w'.cell? ⟨tk2, 3, none⟩ = some (.int .i64 te))
          ((first | assumption | (refine ⟨?_, ?_, ?_, ?_⟩ <;> assumption)))
          (first
          | (refine step_copy_b (by rfl) (.tmp 53) (by rfl) w0.heap.size A1 n1 c1 tdat (by rfl) (MX.out.1.1.below (below_drewN (Below.refl _ _) 1)) hdl MX.out.2.1 ?_; intro A9 c9 w9 r1 r2' r3; have r2 : Below wx.heap.size wx w9 := (below_drewN (Below.refl _ _) 1).trans r2'; obtain ⟨b0, b1, b2, b3, b4⟩ := KEY.out w9 r2; have H9 := Lib.hid (And.intro r1 (And.intro r2 r3)); clear r1 r2 r2' r3)
          | (refine step_copy_l (by rfl) (.tmp 58) (by rfl) w0.heap.size A2 n2 c2 tls (by rfl) (MX.out.1.2.below H9.out.2.1) htl (Nat.le_trans MX.out.2.1 H9.out.2.1.size) ?_; intro A10 c10 w10 r4 r5' r6; have r5 : Below wx.heap.size wx w10 := H9.out.2.1.trans (r5'.mono H9.out.2.1.size); have HC0 := KEY.out w10 r5; obtain ⟨b0, b1, b2, b3, b4⟩ := HC0; have HC1 := KEY.out (w10.alloc (.cells (tdC (.slice A9 tdat.length c9) tv (.slice A10 tls.length c10) te) 43)) (r5.trans ((below_alloc w10 _).mono r5.size)); obtain ⟨g0, g1, g2, g3, g4⟩ := HC1; have H10 := Lib.hid (And.intro r4 (And.intro r5 (And.intro r6 r5'))); clear r4 r5 r5' r6)
          | (refine step_app_t (by rfl) (.tmp 51) (.tmp 63) (by rfl) w0.heap.size (.slice Aw wants.length cw) wants.length (ansC wants ts) (An.cells ⟨A9, tdat.length, c9, A10, tls.length, c10⟩ ⟨tdat, tv, tls, te⟩) (by rfl) (World.ownsRow.alloc (q5_row H7.out.1 HM4.out H10.out.2.1).1 _) (by simp; exact Nat.le_succ_of_le (q5_row H7.out.1 HM4.out H10.out.2.1).2) w10.heap.size (by rfl) (by rfl) td_cell td_one (by omega) ?_; intro A11 c11 w11 r7 r8 r9; have H11 := Lib.hid (q5_at H7.out.1 HM4.out H10.out.2.1 r8); have h1 : w11.cell? ⟨gq, 1, none⟩ = some (.slice Aw wants.length cw) := (Lib.cell_of_heap H11.out 1).trans rfl; have hf : w11.frozen? ⟨gq, 1, none⟩ = false := Lib.frozen_of_heap H11.out _; have HE := Lib.hid (q5_end (b := ⟨A9, tdat.length, c9, A10, tls.length, c10⟩) H7.out.1 HM4.out H10.out.2.1 r8 r7 r9 M7.out.1 (keep_own H9.out H10.out hdl htl) (keep_low H9.out H10.out) (fun k hk e => keep_off HQ.out.2.1 HW.out.low hk e M7.out.2.2)); have HB2 := Lib.hid (keep_tk2 MX.out.2.2.1 HM4.out H10.out.2.1 r8 H7.out.1 HW.out.lo2 M7.out.2.2 H7.out.2 (fun k hk => (HQ.out.2.1.range (.inr (.inr (.inl hk)))).2) (HQ.out.2.1.range (.inl rfl)).2); obtain ⟨⟨p0, p1, p2, p3⟩, ⟨s0, s1, s2, s3⟩⟩ := HB2.out A11 c11; clear r7 r8 r9)
          | fail)
        all_goals go_wp2
        all_goals go_meet
        all_goals (case rel => exact ⟨_, _, _, _, _, q, Lib.hid (ask_kept HW.out HQ.out.2.1 HQ.out.2.2 HA.out.2.2.1 H7.out.2 HM4.out HE.out (keep_low H9.out H10.out) HS7.out)⟩)
    · go_wp2
      go_meet
      case rel => exact ⟨gots, wants, ts, v1, v2, q, Lib.hid (ask_not HW.out HQ.out.2.1 HQ.out.2.2 HA.out.2.2.1 H7.out.1 H7.out.2)⟩
  case rest =>
  obtain ⟨gots', wants', ts', v1', v2', much', HZ⟩ := hcut
  obtain ⟨wz, hwz⟩ : ∃ x, x = wc := ⟨_, rfl⟩
  subst hwz
  have hb1 := HZ.out.b1
  have hb2 := HZ.out.b2
  have d0 : wz.cell? ⟨tk, 0, none⟩ = some (.slice At1 nt ct) := by rw [Lib.cell_of_heap hb1]; rfl
  have d1 : wz.cell? ⟨tk, 1, none⟩ = some (.int .i64 tv) := by rw [Lib.cell_of_heap hb1]; rfl
  have d2 : wz.cell? ⟨tk, 2, none⟩ = some (.slice Al1 nl cl) := by rw [Lib.cell_of_heap hb1]; rfl
  have d3 : wz.cell? ⟨tk, 3, none⟩ = some (.int .i64 te) := by rw [Lib.cell_of_heap hb1]; rfl
  have e0 : wz.cell? ⟨tk2, 0, none⟩ = some (.slice A1 n1 c1) := by rw [Lib.cell_of_heap hb2]; rfl
  have e1 : wz.cell? ⟨tk2, 1, none⟩ = some (.int .i64 tv) := by rw [Lib.cell_of_heap hb2]; rfl
  have e2 : wz.cell? ⟨tk2, 2, none⟩ = some (.slice A2 n2 c2) := by rw [Lib.cell_of_heap hb2]; rfl
  have e3 : wz.cell? ⟨tk2, 3, none⟩ = some (.int .i64 te) := by rw [Lib.cell_of_heap hb2]; rfl
  have HEQ := Lib.hid (eq_c tv te (dat := tdat) (tls := tls) (by have := HW.out.own.2.2.2.1; exact this) (by have h2 : tls.length ≤ 256 := HW.out.own.2.2.2.2; omega) HZ.out.ra.1 HZ.out.ra.2 HZ.out.rb.1 HZ.out.rb.2)
  clear hb1 hb2
  go_wp2_with (refine HEQ.out.mono ?_; rintro e w9 ⟨rfl, hb9⟩; have HB9 := Lib.hid hb9; clear hb9)
  go_ret
  exact ⟨rfl, ask_end HW.out HQ.out.2.1 HA.out.2.2.1 HZ.out HB9.out⟩
end Go.Proofs.YtancenklmfamnaaGreat.Sh
