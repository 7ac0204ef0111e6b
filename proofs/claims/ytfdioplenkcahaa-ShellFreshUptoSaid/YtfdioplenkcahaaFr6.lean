/- heddlelaw31's ShellFresh, walked. -/
import Derived.Test.YtfdioplenkcahaaFr5
set_option linter.unusedVariables false
set_option linter.unusedSimpArgs false
namespace Go.Proofs.Ytfdioplenkcahaa.Fresh
open Go.RowKit Go.Proofs.Ytfdioplenkcahaa.PShellFresh Go.Proofs.YtfdioplenkcahaaW.PrintWords Go.Proofs.YtfdioplenkcahaaW.PrintLast Go.Proofs.YtfdioplenkcahaaW.PrintMore

/-- the book of the first round -/
structure Ph1 (wd : Nat → ByteArray) (w W : World) (gb n : Nat) (xs : List Value) (much : Int) : Prop where
  below : Below w.heap.size w W
  book : BookIs w.heap.size W gb xs much
  good : Good wd W xs
  even : xs.length % 2 = 0
  len : xs.length ≤ n

theorem Ph1.old {wd : Nat → ByteArray} {w W : World} {gb n : Nat} {xs : List Value} {much : Int} (h : Ph1 wd w W gb n xs much) {x : Value} (hx : x ∈ xs) {k : Nat} (hk : x.ownBlock = some k) : k < W.heap.size := by
  obtain ⟨i, hi⟩ := List.getElem?_of_mem hx
  obtain ⟨cur, hc⟩ := (h.good i x hi).typed hk
  exact (Array.getElem?_eq_some_iff.1 hc).1
theorem Ph1.move {wd : Nat → ByteArray} {w W W1 : World} {gb n : Nat} {xs : List Value} {much : Int} (h : Ph1 wd w W gb n xs much) (hb : Below W.heap.size W W1) : Ph1 wd w W1 gb n xs much := by
  obtain ⟨h1, v, h2, h3⟩ := h.book
  have hs : Same (fun _ => False) W W1 := Same.below hb
  exact ⟨h.below.trans (hb.mono h.below.size), ⟨h1, v, hs.at h2 (fun e => e), own_far h3 hs (fun _ _ e => e)⟩, good_far h.good hs (fun _ _ _ _ e => e), h.even, h.len⟩
theorem Ph1.took {wd : Nat → ByteArray} {w W W1 : World} {gb n : Nat} {A : Option Addr} {xs : List Value} {much : Int} (h : Ph1 wd w W gb n xs much) (hA : ∀ k, A.map (·.block) = some k → w.heap.size ≤ k) (he : TakeEnd wd w.heap.size W W1 gb xs A) : ∃ xs' much', Ph1 wd w W1 gb (n + 2) xs' much' := by
  obtain ⟨xs', much', h1, h2, h3, h4, h5, h6, h7, h8, h9, h10⟩ := he
  have := h.len
  exact ⟨xs', much', h.below.trans ⟨h6, h7, h8, h9, fun k hk => h10 k hk fun e => by have := hA k e.symm; omega⟩, h1, h2, h3, by omega⟩
theorem Ph1.zero {wd : Nat → ByteArray} {w W W1 : World} (hb : Below w.heap.size w W) (hb1 : Below w.heap.size W W1) (hn : W1.heap[W.heap.size]? = some (.cells #[.slice none 0 0, .int .i64 0] 35 (0, 0))) : Ph1 wd w W1 W.heap.size 0 [] 0 :=
  ⟨hb.trans hb1, ⟨hb.size, .slice none 0 0, hn, World.ownsRow_nil W1 _ 22 1⟩, fun i x hx => by simp at hx, rfl, by simp⟩
theorem quiet_zero {W W1 : World} (hn : W1.heap[W.heap.size]? = some (.cells #[.slice none 0 0, .slice none 0 0, .int .i64 0] 39 (0, 0))) : QuietIs W.heap.size W1 W.heap.size [] [] [] 0 (.slice none 0 0) (.slice none 0 0) where
  low := Nat.le_refl _
  blk := hn
  og := World.ownsRow_nil W1 _ 22 1
  ow := World.ownsRow_nil W1 _ 22 1
  apart := fun k hk => by cases hk
  lg := rfl
  lw := rfl
  good := fun i x t hx => by simp at hx
  goodw := fun i x t hx => by simp at hx
  lowg := fun x hx => by simp at hx
  dist := fun i j x y hx => by simp at hx
  distw := fun x hx => by simp at hx
  short := fun x hx => by simp at hx
theorem QuietIs.over {B g : Nat} {gots wants : List Value} {txt : List (List ByteArray)} {much : Int} {vg vw : Value} {w w1 : World} (h : QuietIs B w g gots wants txt much vg vw) (hb : Below w.heap.size w w1) : QuietIs B w1 g gots wants txt much vg vw :=
  h.far (Same.below hb) ((Same.below (S := fun _ => False) hb).at h.blk (fun e => e))
theorem rd_line {l : List ByteArray} {i : Nat} (hi : i < l.length) : rdOf ByteArray.empty l (i : Int) ∈ l := by
  have e : rdOf ByteArray.empty l (i : Int) = l[i]'hi := by simp [rdOf, List.getD, hi]
  rw [e]
  exact List.getElem_mem hi

theorem so_lst {W : World} {A : Option Addr} {c : Nat} {t : List ByteArray} (h : SOwn W (.slice A t.length c) t) : Lst W A t.length c := by
  obtain ⟨A', c', he, hl, _⟩ := h
  simp only [Value.slice.injEq] at he
  obtain ⟨rfl, _, rfl⟩ := he
  exact hl
theorem ph1_new {wd : Nat → ByteArray} {w W : World} {gb n m c : Nat} {A : Option Addr} {xs : List Value} {much : Int} (h : Ph1 wd w W gb n xs much) {x : Value} (hx : x ∈ xs) {k : Nat} (hk : x.ownBlock = some k)
    (hA : ∀ k, (Value.slice A m c).ownBlock = some k → W.heap.size ≤ k) : A.map (·.block) ≠ some k := by
  intro e
  have h1 := h.old hx hk
  have h2 := hA k (by cases A with | none => cases e | some a => exact e)
  omega
theorem ph1_low {wd : Nat → ByteArray} {w W : World} {gb n m c : Nat} {A : Option Addr} {xs : List Value} {much : Int} (h : Ph1 wd w W gb n xs much)
    (hA : ∀ k, (Value.slice A m c).ownBlock = some k → W.heap.size ≤ k) : ∀ k, A.map (·.block) = some k → w.heap.size ≤ k := by
  intro k e
  have h1 := h.below.size
  have h2 := hA k (by cases A with | none => cases e | some a => exact e)
  omega

set_option maxHeartbeats 8000000 in
set_option maxRecDepth 1000000 in
theorem fresh_any (A0 : Option Addr) (c0 : Nat) (l0 : List ByteArray) (w : World) (hr0 : Kd.C Kd.string w A0 l0.length l0) (hc0 : l0.length ≤ c0) (hlen : l0.length ≤ 1048576) (hsz : ∀ s ∈ l0, s.size ≤ 1048576) :
    Calls Try.prog 5 #[.slice A0 l0.length c0] w fun e w' => e = .returned (.bool true) ∧ Below w.heap.size w w' := by
  obtain ⟨wd, hwd⟩ := word_ex
  obtain ⟨kw, hkw⟩ := PureFresh.worded.rounds
  have HW := Lib.hid hwd
  have HKW := Lib.hid hkw
  have HR0 := Lib.hid hr0
  have HS := Lib.hid hsz
  clear hwd hkw hr0 hsz
  go_enter Try.func5, Try.ntmps5
  go_wp2_with (go_at_call 6; ((with_reducible refine (heddlelaw31_worded.calls kw true w HKW.out).mono ?_); rintro e w1 ⟨rfl, hb1⟩; have HB1 := Lib.hid hb1; clear hb1))
  go_loopw [4] (fun v4 wr => ∃ i : Nat, i ≤ l0.length ∧ v4 = .int .i64 i ∧ ∃ xs much, Ph1 wd w wr w1.heap.size (2 * i) xs much) (fun v4 wr => l0.length - (intOf v4).toNat)
  case atStart =>
    refine ⟨0, Nat.zero_le _, rfl, [], 0, Ph1.zero HB1.out ?_ ?_⟩
    · exact ((Below.refl _ w1).alloc HB1.out.size _)
    · exact heap_alloc_new w1 _
  case round =>
    obtain ⟨i, hi, rfl, xs, much, hP⟩ := hrel
    obtain ⟨wo, rfl⟩ : ∃ wo : World, wo = wr := ⟨_, rfl⟩
    have HP := Lib.hid hP
    by_cases hlt : i < l0.length
    · obtain ⟨ad, rfl, hcl⟩ := Kd.at_string HR0.out (i : Int) (by omega) (by omega)
      have hsl := HS.out _ (rd_line hlt)
      generalize rdOf ByteArray.empty l0 (i : Int) = line at *
      rw [Int.toNat_natCast] at hcl
      replace hcl := (hP.below.cell (World.block_lt_of_cell? w _ hcl)).trans hcl
      clear hP
      obtain ⟨R, ev1, ev2, hR⟩ := PureFresh.words_alike line hsl
      obtain ⟨k, hk1, hk2⟩ := together (shell_Words.mono line) (heddleref31_Words.mono line) ev1.rounds ev2.rounds
      obtain ⟨kt, hkt⟩ := (PureFresh.texts_refl R.1 (by omega)).rounds
      obtain ⟨ws, en⟩ := R
      simp only at hR hkt
      have HK1 := Lib.hid hk1
      have HK2 := Lib.hid hk2
      have HKT := Lib.hid hkt
      clear hk1 hk2 hkt ev1 ev2
      go_wp2_with (first
        | (go_at_call 7; ((with_reducible refine (shell_Words.calls k line ws en wo HK1.out).mono ?_); rintro e w2 ⟨v1, rfl, hr1, hb1⟩; have HR1 := Lib.hid (SOwn.of_R hr1); have HB2 := Lib.hid hb1; clear hr1 hb1; obtain ⟨A1, c1, rfl⟩ : ∃ A1 c1, v1 = .slice A1 ws.length c1 := HR1.out.1.imp fun _ h => h.imp fun _ h => h.1; have hcl2 : w2.cell? (ad.add i) = some (.string line) := (HB2.out.cell (World.block_lt_of_cell? wo _ hcl)).trans hcl))
        | (go_at_call 8; ((with_reducible refine (heddleref31_Words.calls k line ws en w2 HK2.out).mono ?_); rintro e w3 ⟨v2, rfl, hr2, hb2⟩; have HR2 := Lib.hid (SOwn.of_R hr2); have HB3 := Lib.hid hb2; clear hr2 hb2; obtain ⟨A2, c2, rfl⟩ : ∃ A2 c2, v2 = .slice A2 ws.length c2 := HR2.out.1.imp fun _ h => h.imp fun _ h => h.1; have so1 := Lib.hid (HR1.out.1.far (Same.below (S := fun _ => False) HB3.out) (fun _ _ e => e)); have rd1 := Lib.hid so1.out.reads; have rd2 := Lib.hid HR2.out.1.reads))
        | (go_at_call 9; ((with_reducible refine (heddlelaw31_texts.calls kt A1 c1 ws A2 c2 ws true _ rd1.out.2.2 rd1.out.2.1 rd2.out.2.2 rd2.out.2.1 HKT.out).mono ?_); rintro e w4 ⟨rfl, ⟨⟨nd, rfl⟩⟩⟩; have HA1 := Lib.hid (so_lst (SOwn.move (W1 := w3.drewN nd) so1.out (fun _ _ => rfl))); have HP4 := Lib.hid (((HP.out.move HB2.out).move HB3.out).move (below_drewN w3.heap.size w3 nd)); have HLO := Lib.hid (fun x hx k hk => ph1_new HP.out hx hk (fun k hk => (HR1.out.2 k hk).1) : ∀ x ∈ xs, ∀ k, x.ownBlock = some k → A1.map (·.block) ≠ some k)))
        | (go_at_call 13; ((refine (take_any wd HW.out w.heap.size w1.heap.size xs much A1 ws.length c1 (w3.drewN nd) HP4.out.book HP4.out.good HP4.out.even (by have := HP4.out.len; omega) (by omega) HA1.out HLO.out HP4.out.below.size).mono ?_); rintro e w5 ⟨rfl, hte⟩; obtain ⟨xs5, much5, hp5⟩ := HP4.out.took (ph1_low HP.out (fun k hk => (HR1.out.2 k hk).1)) hte; have HP5 := Lib.hid hp5; clear hte hp5))
        | (go_at_call 14; ((refine (whole_any wd HW.out w.heap.size w1.heap.size xs5 much5 w5 HP5.out.book HP5.out.good (by have := HP5.out.len; omega)).mono ?_); rintro e w6 ⟨rfl, hb6⟩; have HP6 := Lib.hid (HP5.out.move hb6); clear hb6)))
      · exact ⟨⟨i + 1, by omega, by go_num, xs5, much5, HP6.out⟩, by simp [intOf]; omega⟩
      · exact ⟨⟨i + 1, by omega, by go_num, xs5, much5, HP5.out⟩, by simp [intOf]; omega⟩
    · clear hP
      go_wp2
      go_loopw [10] (fun v10 wr => ∃ j : Nat, j ≤ l0.length ∧ v10 = .int .i64 j ∧ Below wo.heap.size wo wr ∧ ∃ gots wants txt much vg vw, QuietIs wo.heap.size wr wo.heap.size gots wants txt much vg vw ∧ gots.length ≤ 2 * j) (fun v10 wr => l0.length - (intOf v10).toNat)
      case atStart =>
        exact ⟨0, Nat.zero_le _, rfl, (Below.refl _ wo).alloc (Nat.le_refl _) _, [], [], [], 0, _, _, quiet_zero (heap_alloc_new wo _), by simp⟩
      case round =>
        obtain ⟨j, hj, rfl, hbl, gots, wants, txt, qm, vg, vw, hQ, hgl⟩ := hrel
        obtain ⟨wv, rfl⟩ : ∃ wv : World, wv = wr := ⟨_, rfl⟩
        have HBL := Lib.hid hbl
        have HQ := Lib.hid hQ
        clear hbl hQ
        by_cases hlt : j < l0.length
        · obtain ⟨ad, rfl, hcl⟩ := Kd.at_string HR0.out (j : Int) (by omega) (by omega)
          have hsl := HS.out _ (rd_line hlt)
          generalize rdOf ByteArray.empty l0 (j : Int) = line at *
          rw [Int.toNat_natCast] at hcl
          replace hcl := (HP.out.below.cell (World.block_lt_of_cell? w _ hcl)).trans hcl
          have hclv := (HBL.out.cell (World.block_lt_of_cell? wo _ hcl)).trans hcl
          have HCL := Lib.hid hcl
          clear hcl
          go_wp2_with (first
            | (go_at_call 15; ((refine (asked_any wo.heap.size wo.heap.size gots2 wants2 txt2 qm2 vg2 vw2 line w2 HQ2.out HB2.out.size (by omega) hsl).mono ?_); rintro e w3 ⟨rfl, gots3, wants3, txt3, qm3, vg3, vw3, hq3, hl3, hb3⟩; have HQ3 := Lib.hid hq3; have HB3 := Lib.hid (HB2.out.trans hb3); clear hq3 hb3))
            | (go_at_call 15; ((refine (asked_any wo.heap.size wo.heap.size gots wants txt qm vg vw line wv HQ.out HBL.out.size (by omega) hsl).mono ?_); rintro e w2 ⟨rfl, gots2, wants2, txt2, qm2, vg2, vw2, hq2, hl2, hb2⟩; have HQ2 := Lib.hid hq2; have HB2 := Lib.hid (HBL.out.trans hb2); have hclw := (HB2.out.cell (World.block_lt_of_cell? wo _ HCL.out)).trans HCL.out; clear hq2 hb2 hclv)))
          go_roundw
          case rel => exact ⟨j + 1, by omega, by go_num, HB3.out, gots3, wants3, txt3, qm3, vg3, vw3, HQ3.out, by omega⟩
          case measure => simp [intOf]; omega
        · go_wp2_with (first
            | (go_at_call 14; ((refine (whole_any wd HW.out w.heap.size w1.heap.size xs much wv (HP.out.move HBL.out).book (HP.out.move HBL.out).good (by have := HP.out.len; omega)).mono ?_); rintro e w2 ⟨rfl, hb2⟩; have HQ2 := Lib.hid (HQ.out.over hb2); have HB2 := Lib.hid (HBL.out.trans (hb2.mono HBL.out.size)); clear hb2))
            | (go_at_call 16; ((refine (untouched_any wd HW.out wo.heap.size wo.heap.size gots wants txt qm vg vw w2 HQ2.out HB2.out.size (by omega)).mono ?_); rintro e w3 ⟨rfl, hb3⟩; have HB3 := Lib.hid (HP.out.below.trans ((HB2.out.trans hb3).mono HP.out.below.size)); clear hb3)))
          go_ret
          exact ⟨rfl, HB3.out⟩
end Go.Proofs.Ytfdioplenkcahaa.Fresh
