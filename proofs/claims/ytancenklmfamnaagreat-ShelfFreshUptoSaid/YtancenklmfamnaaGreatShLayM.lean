/- Lay. -/
import Derived.Test.YtancenklmfamnaaGreatShPut
set_option linter.unusedVariables false
set_option linter.unusedSimpArgs false
namespace Go.Proofs.YtancenklmfamnaaGreat.Sh
open Go.RowKit Go.Maps Go.Sort Go.Shelf
open Go.Proofs Go.MuLone

/-- what Lay answers -/
def LayMP (B p : Nat) (w : World) (L : Lay) (nm : ByteArray) (ver : Int) (dat : List Int) (e : Ending) (w' : World) : Prop :=
  ∃ err, e = .returned (.int .i64 err) ∧ ((Nm.nameOk nm = false ∧ err = 50 ∧ Step B w w' p L L) ∨
  (Nm.nameOk nm = true ∧ (ver < 1 ∨ 4611686018427387904 < ver) ∧ err = 270 ∧ Step B w w' p L L) ∨
  (Nm.nameOk nm = true ∧ (1 ≤ ver ∧ ver ≤ 4611686018427387904) ∧ 16777216 < dat.length ∧ err = 2 ∧ Step B w w' p L L) ∨
  (Nm.nameOk nm = true ∧ (1 ≤ ver ∧ ver ≤ 4611686018427387904) ∧ dat.length ≤ 16777216 ∧ (L.modOf nm ver).isSome = true ∧ err = 5 ∧ Step B w w' p L L) ∨
  (Nm.nameOk nm = true ∧ (1 ≤ ver ∧ ver ≤ 4611686018427387904) ∧ dat.length ≤ 16777216 ∧ L.modOf nm ver = none ∧ LaidP B p w L nm ver dat err w'))

set_option maxHeartbeats 8000000 in
set_option maxRecDepth 100000 in
theorem layM_any (B p : Nat) (L : Lay) (w : World) (h : ShelfIs B w p L) (g : Good L) (hl : L.lk = 0) (htc : L.touch < 4611686018427387904) (nm : ByteArray) (hnm : nm.size ≤ 140737488355328) (ver : Int) (hvw : (Lit.int .i64 ver).wf = true) (sv : Value) (dat : List Int) (B0 : Nat) (hrow : RdB w sv dat)
    (hdl : dat.length ≤ 140737488355328) (hsv : ∀ k, sv.ownBlock = some k → ¬ Owned p L k) :
    Calls Tryz.prog 23 #[.pointer (some ⟨p, 0, none⟩), .string nm, .int .i64 ver, sv] w (LayMP B p w L nm ver dat) := by
  obtain ⟨sem, hblk⟩ := h.blk
  rw [hl] at hblk
  have c0 : w.cell? ⟨p, 0, none⟩ = some (.int .i32 0) := by rw [Lib.cell_of_heap hblk]; rfl
  have f0 : w.frozen? ⟨p, 0, none⟩ = false := Lib.frozen_of_heap hblk _
  have s1 := h.setLock 1
  obtain ⟨A, c, rfl⟩ := RdB.len hrow
  have hnx : nm.size ≤ maxLen := by unfold maxLen; omega
  have S1 := Lib.hid s1
  have H := Lib.hid h
  have HL := Lib.hid hl
  have G := Lib.hid g
  have HR := Lib.hid hrow
  have HS := Lib.hid hsv
  have HN := Lib.hid (named_w nm (by omega))
  have HU : ∀ w2 : World, Step B w w2 p L { L with lk := 1 } → Step B w (w2.setCell ⟨p, 0, none⟩ (.int .i32 0)) p L L := fun w2 S => by
    have := S.unlock
    rwa [show ({ ({ L with lk := 1 } : Lay) with lk := 0 } : Lay) = L from unlk HL.out] at this
  have HUU := Lib.hid HU
  clear h g hblk hl hrow hsv s1 HU
  generalize hno : Nm.nameOk nm = no at HN
  have HNO := Lib.hid hno
  clear hno
  cases no with
  | false =>
    go_enter_defers Tryz.func23, Tryz.ntmps23
    go_wp2_with (go_at_call 33; refine (lock_free Tryz.muLib ⟨p, 0, none⟩ _ c0 f0).mono ?_; rintro e w' ⟨rfl, rfl⟩)
    refine (HN.out _).mono ?_
    rintro e w2 ⟨rfl, q, rfl⟩
    have S2 := Lib.hid (S1.out.trans (Step.drewN S1.out.is q))
    go_wp2
    refine leaves_cons (f := 34) (args := #[.pointer (some ⟨p, 0, none⟩)]) (by simp) (by simp [go_sem]) ?_
    refine (unlock_deferred Tryz.muLib ⟨p, 0, none⟩ .returning _ S2.out.is.lockCell.1 S2.out.is.lockCell.2).mono ?_
    rintro e u' w'' ⟨rfl, rfl, rfl⟩
    exact ⟨_, results_tmp rfl _ _ _, _, rfl, .inl ⟨HNO.out, rfl, HUU.out _ S2.out⟩⟩
  | true =>
    rcases (show ver < 1 ∨ 4611686018427387904 < ver ∨ (1 ≤ ver ∧ ver ≤ 4611686018427387904) by omega) with hv | hv | ⟨hv1, hv2⟩
    · have hd : decide (ver < 1) = true := by simpa using hv
      go_enter_defers Tryz.func23, Tryz.ntmps23
      go_wp2_with (go_at_call 33; refine (lock_free Tryz.muLib ⟨p, 0, none⟩ _ c0 f0).mono ?_; rintro e w' ⟨rfl, rfl⟩)
      refine (HN.out _).mono ?_
      rintro e w2 ⟨rfl, q, rfl⟩
      have S2 := Lib.hid (S1.out.trans (Step.drewN S1.out.is q))
      go_wp2
      refine leaves_cons (f := 34) (args := #[.pointer (some ⟨p, 0, none⟩)]) (by simp) (by simp [go_sem]) ?_
      refine (unlock_deferred Tryz.muLib ⟨p, 0, none⟩ .returning _ S2.out.is.lockCell.1 S2.out.is.lockCell.2).mono ?_
      rintro e u' w'' ⟨rfl, rfl, rfl⟩
      exact ⟨_, results_tmp rfl _ _ _, _, rfl, .inr (.inl ⟨HNO.out, .inl hv, rfl, HUU.out _ S2.out⟩)⟩
    · have hd1 : decide (ver < 1) = false := by simp; omega
      have hd2 : decide (4611686018427387904 < ver) = true := by simpa using hv
      go_enter_defers Tryz.func23, Tryz.ntmps23
      go_wp2_with (go_at_call 33; refine (lock_free Tryz.muLib ⟨p, 0, none⟩ _ c0 f0).mono ?_; rintro e w' ⟨rfl, rfl⟩)
      refine (HN.out _).mono ?_
      rintro e w2 ⟨rfl, q, rfl⟩
      have S2 := Lib.hid (S1.out.trans (Step.drewN S1.out.is q))
      go_wp2
      refine leaves_cons (f := 34) (args := #[.pointer (some ⟨p, 0, none⟩)]) (by simp) (by simp [go_sem]) ?_
      refine (unlock_deferred Tryz.muLib ⟨p, 0, none⟩ .returning _ S2.out.is.lockCell.1 S2.out.is.lockCell.2).mono ?_
      rintro e u' w'' ⟨rfl, rfl, rfl⟩
      exact ⟨_, results_tmp rfl _ _ _, _, rfl, .inr (.inl ⟨HNO.out, .inr hv, rfl, HUU.out _ S2.out⟩)⟩
    have hd1 : decide (ver < 1) = false := by simp; omega
    have hd2 : decide (4611686018427387904 < ver) = false := by simp; omega
    have hlen : dat.length ≤ 16777216 ∨ 16777216 < dat.length := by omega
    rcases hlen with hlen | hlen
    rotate_left
    · have hd3 : decide (16777216 < (dat.length : Int)) = true := by simp; omega
      go_enter_defers Tryz.func23, Tryz.ntmps23
      go_wp2_with (go_at_call 33; refine (lock_free Tryz.muLib ⟨p, 0, none⟩ _ c0 f0).mono ?_; rintro e w' ⟨rfl, rfl⟩)
      refine (HN.out _).mono ?_
      rintro e w2 ⟨rfl, q, rfl⟩
      have S2 := Lib.hid (S1.out.trans (Step.drewN S1.out.is q))
      go_wp2
      refine leaves_cons (f := 34) (args := #[.pointer (some ⟨p, 0, none⟩)]) (by simp) (by simp [go_sem]) ?_
      refine (unlock_deferred Tryz.muLib ⟨p, 0, none⟩ .returning _ S2.out.is.lockCell.1 S2.out.is.lockCell.2).mono ?_
      rintro e u' w'' ⟨rfl, rfl, rfl⟩
      exact ⟨_, results_tmp rfl _ _ _, _, rfl, .inr (.inr (.inl ⟨HNO.out, ⟨hv1, hv2⟩, hlen, rfl, HUU.out _ S2.out⟩))⟩
    · have hd3 : decide (16777216 < (dat.length : Int)) = false := by simp; omega
      have hlk : ∀ (w2 : World), Step B w w2 p L { L with lk := 1 } → (Instr.lookup 85 (.map (some L.mm)) (.string nm) false).run Tryz.prog w2 = .ok (.map (L.innOf nm)) w2 ∧ (Instr.lookup 112 (.map (L.innOf nm)) (.int .i64 ver) false).run Tryz.prog w2 = .ok (.pointer ((L.modOf nm ver).map fun m => ⟨m.blk, 0, none⟩)) w2 ∧ w2.cell? ⟨p, 6, none⟩ = some (.map (some L.mm)) := fun w2 S => by
        obtain ⟨sem2, hblk2⟩ := S.is.blk
        refine ⟨S.is.lookOuter nm hnx, ?_, by rw [Lib.cell_of_heap hblk2]; rfl⟩
        cases e : L.innOf nm with
        | some b => exact S.is.lookInner e ver hvw
        | none =>
          have hm : L.modOf nm ver = none := List.find?_eq_none.2 fun m hm => by
            simp
            intro e1
            obtain ⟨ib, hib⟩ := H.out.home hm
            rw [e1, e] at hib
            cases hib
          rw [hm]
          exact lookNil ver hvw
      have HLK := Lib.hid hlk
      clear hlk
      cases hmo : L.modOf nm ver with
      | some m =>
        have HMO := Lib.hid hmo
        clear hmo
        go_enter_defers Tryz.func23, Tryz.ntmps23
        go_wp2_with (go_at_call 33; refine (lock_free Tryz.muLib ⟨p, 0, none⟩ _ c0 f0).mono ?_; rintro e w' ⟨rfl, rfl⟩)
        refine (HN.out _).mono ?_
        rintro e w2 ⟨rfl, q, rfl⟩
        have S2 := Lib.hid (S1.out.trans (Step.drewN S1.out.is q))
        obtain ⟨hlk1, hlk2, c6⟩ := HLK.out _ S2.out
        rw [HMO.out] at hlk2
        generalize L.innOf nm = oi at hlk1 hlk2
        go_wp2
        refine leaves_cons (f := 34) (args := #[.pointer (some ⟨p, 0, none⟩)]) (by simp) (by simp [go_sem]) ?_
        refine (unlock_deferred Tryz.muLib ⟨p, 0, none⟩ .returning _ S2.out.is.lockCell.1 S2.out.is.lockCell.2).mono ?_
        rintro e u' w'' ⟨rfl, rfl, rfl⟩
        exact ⟨_, results_tmp rfl _ _ _, _, rfl, .inr (.inr (.inr (.inl ⟨HNO.out, ⟨hv1, hv2⟩, hlen, by rw [HMO.out]; rfl, rfl, HUU.out _ S2.out⟩)))⟩
      | none =>
        have HMO := Lib.hid hmo
        clear hmo
        go_enter_defers Tryz.func23, Tryz.ntmps23
        go_wp2_with (go_at_call 33; refine (lock_free Tryz.muLib ⟨p, 0, none⟩ _ c0 f0).mono ?_; rintro e w' ⟨rfl, rfl⟩)
        refine (HN.out _).mono ?_
        rintro e w2 ⟨rfl, q, rfl⟩
        have S2 := Lib.hid (S1.out.trans (Step.drewN S1.out.is q))
        obtain ⟨hlk1, hlk2, c6⟩ := HLK.out _ S2.out
        rw [HMO.out] at hlk2
        generalize L.innOf nm = oi at hlk1 hlk2
        have hla := lay_any B p _ _ S2.out.is (G.out.locked 1) nm ver _ dat B0 (RdB.far HR.out S2.out.1 HS.out) hlen (nameOk_size HNO.out) ⟨hv1, hv2⟩ HMO.out htc HS.out
        have HLA := Lib.hid hla
        clear hla
        go_wp2_with fail
        refine HLA.out.mono ?_
        rintro e w3 hla
        obtain ⟨err, rfl, herr, ⟨L2, S3, hl2⟩, hP⟩ := laid_of HL.out S2.out hla
        have HP := Lib.hid hP
        have S75 := Lib.hid S3
        have HL2 := Lib.hid hl2
        clear hla hP S3 hl2
        rcases herr with rfl | rfl
        all_goals
          go_wp2
          refine leaves_cons (f := 34) (args := #[.pointer (some ⟨p, 0, none⟩)]) (by simp) (by simp [go_sem]) ?_
          refine (unlock_deferred Tryz.muLib ⟨p, 0, none⟩ .returning _ (S75.out.is.lockCell.1.trans (by rw [HL2.out])) S75.out.is.lockCell.2).mono ?_
          rintro e u' w'' ⟨rfl, rfl, rfl⟩
          exact ⟨_, results_tmp rfl _ _ _, _, rfl, .inr (.inr (.inr (.inr ⟨HNO.out, ⟨hv1, hv2⟩, hlen, HMO.out, HP.out⟩)))⟩
end Go.Proofs.YtancenklmfamnaaGreat.Sh
