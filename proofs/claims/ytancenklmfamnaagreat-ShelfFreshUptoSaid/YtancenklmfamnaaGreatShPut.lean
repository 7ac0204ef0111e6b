/- Put, Lay. -/
import Derived.Test.YtancenklmfamnaaGreatShDrop
import Derived.Test.YtancenklmfamnaaGreatShNamed
set_option linter.unusedVariables false
set_option linter.unusedSimpArgs false
namespace Go.Proofs.YtancenklmfamnaaGreat.Sh
open Go.RowKit Go.Maps Go.Sort Go.Shelf
open Go.Proofs Go.MuLone

/-- what a call that lays a model answers: the error, the shelf -/
def LaidP (B p : Nat) (w : World) (L : Lay) (nm : ByteArray) (ver : Int) (dat : List Int) (err : Int) (w' : World) : Prop :=
  (err = 4 ∧ Step B w w' p L L ∧ NoRoom L nm dat.length) ∨
  (err = 0 ∧ ¬ NoRoom L nm dat.length ∧ ∃ (L' : Lay) (i : Nat) (new : LM), Step B w w' p L L' ∧ Good L' ∧ pickL L dat.length = some i ∧ new.name = nm ∧ new.ver = ver ∧ new.dat = dat ∧ new.used = 0 ∧ new.touched = L.touch + 1 ∧
    L'.ms = keepL L ((unusedL L).take i) ++ [new] ∧ L'.room = L.room ∧ L'.touch = L.touch + 1 ∧ L'.last = setLast L.last nm (max ((L.lastOf nm).getD 0) ver) ∧ L'.lk = L.lk)
theorem named_w (s : ByteArray) (hs : s.size ≤ 4611686018427387904) (w : World) : Calls Tryz.prog 45 #[.string s] w fun e w' => e = .returned (.bool (Nm.nameOk s)) ∧ ∃ q, w' = w.drewN q := by
  refine (Nm.named_any s hs w).mono fun e w' ⟨h1, h2⟩ => ⟨h1, h2.out⟩
/-- what Put answers -/
def PutP (B p : Nat) (w : World) (L : Lay) (nm : ByteArray) (dat : List Int) (e : Ending) (w' : World) : Prop :=
  (Nm.nameOk nm = false ∧ e = .returned (.tuple #[.int .i64 0, .int .i64 50]) ∧ Step B w w' p L L) ∨
  (Nm.nameOk nm = true ∧ 16777216 < dat.length ∧ e = .returned (.tuple #[.int .i64 0, .int .i64 2]) ∧ Step B w w' p L L) ∨
  (Nm.nameOk nm = true ∧ dat.length ≤ 16777216 ∧ (L.lastOf nm).getD 0 = 4611686018427387904 ∧ e = .returned (.tuple #[.int .i64 0, .int .i64 4]) ∧ Step B w w' p L L) ∨
  (Nm.nameOk nm = true ∧ dat.length ≤ 16777216 ∧ (L.lastOf nm).getD 0 < 4611686018427387904 ∧ ∃ err, e = .returned (.tuple #[.int .i64 (if err = 0 then (L.lastOf nm).getD 0 + 1 else 0), .int .i64 err]) ∧ LaidP B p w L nm ((L.lastOf nm).getD 0 + 1) dat err w')

theorem last_bd {L : Lay} (g : Good L) (nm : ByteArray) : 0 ≤ (L.lastOf nm).getD 0 ∧ (L.lastOf nm).getD 0 ≤ 4611686018427387904 := by
  cases e : L.lastOf nm with
  | none => simp
  | some v =>
    have := g.lasts _ (lastOf_mem e)
    simp at this ⊢
    omega
theorem next_new {L : Lay} (g : Good L) (nm : ByteArray) : L.modOf nm ((L.lastOf nm).getD 0 + 1) = none := by
  refine List.find?_eq_none.2 fun m hm => ?_
  simp
  intro e
  obtain ⟨v, h1, h2⟩ := g.known m hm
  rw [e] at h1
  rw [h1]
  simp
  omega
theorem nameOk_size {nm : ByteArray} (h : Nm.nameOk nm = true) : nm.size ≤ 32 := by
  simp [Nm.nameOk] at h
  exact h.1.2
theorem laid_of {B p : Nat} {w w1 w2 : World} {L : Lay} {nm : ByteArray} {ver : Int} {dat : List Int} (hl : L.lk = 0) (s1 : Step B w w1 p L { L with lk := 1 }) {e : Ending} (h : LayP B p w1 { L with lk := 1 } nm ver dat e w2) :
    ∃ err, e = .returned (.int .i64 err) ∧ (err = 4 ∨ err = 0) ∧ (∃ L2, Step B w w2 p L L2 ∧ L2.lk = 1) ∧ LaidP B p w L nm ver dat err (w2.setCell ⟨p, 0, none⟩ (.int .i32 0)) := by
  rcases h with ⟨rfl, st, hn⟩ | ⟨rfl, hn, L', i, new, st, g, h1, h2, h3, h4, h5, h6, h7, h8, h9, h10, h11⟩
  · have S := s1.trans st
    refine ⟨4, rfl, .inl rfl, ⟨_, S, rfl⟩, .inl ⟨rfl, ?_, hn⟩⟩
    have := S.unlock
    rwa [show ({ ({ L with lk := 1 } : Lay) with lk := 0 } : Lay) = L from unlk hl] at this
  · have S := s1.trans st
    exact ⟨0, rfl, .inr rfl, ⟨_, S, h11⟩, .inr ⟨rfl, hn, { L' with lk := 0 }, i, new, S.unlock, g.locked 0, h1, h2, h3, h4, h5, h6, h7, h8, h9, h10, hl.symm⟩⟩

set_option maxHeartbeats 8000000 in
set_option maxRecDepth 100000 in
theorem put_any (B p : Nat) (L : Lay) (w : World) (h : ShelfIs B w p L) (g : Good L) (hl : L.lk = 0) (htc : L.touch < 4611686018427387904) (nm : ByteArray) (hnm : nm.size ≤ 140737488355328) (sv : Value) (dat : List Int) (B0 : Nat) (hrow : RdB w sv dat)
    (hdl : dat.length ≤ 140737488355328) (hsv : ∀ k, sv.ownBlock = some k → ¬ Owned p L k) :
    Calls Tryz.prog 19 #[.pointer (some ⟨p, 0, none⟩), .string nm, sv] w (PutP B p w L nm dat) := by
  obtain ⟨sem, hblk⟩ := h.blk
  rw [hl] at hblk
  have c0 : w.cell? ⟨p, 0, none⟩ = some (.int .i32 0) := by rw [Lib.cell_of_heap hblk]; rfl
  have f0 : w.frozen? ⟨p, 0, none⟩ = false := Lib.frozen_of_heap hblk _
  have s1 := h.setLock 1
  obtain ⟨A, c, rfl⟩ := RdB.len hrow
  have hnx : nm.size ≤ maxLen := by unfold maxLen; omega
  have S1 := Lib.hid s1
  have H := Lib.hid h
  have HL := Lib.hid hl
  have G := Lib.hid g
  have HR := Lib.hid hrow
  have HS := Lib.hid hsv
  have HN := Lib.hid (named_w nm (by omega))
  obtain ⟨hb1, hb2⟩ := last_bd g nm
  have HU : ∀ w2 : World, Step B w w2 p L { L with lk := 1 } → Step B w (w2.setCell ⟨p, 0, none⟩ (.int .i32 0)) p L L := fun w2 S => by
    have := S.unlock
    rwa [show ({ ({ L with lk := 1 } : Lay) with lk := 0 } : Lay) = L from unlk HL.out] at this
  have HUU := Lib.hid HU
  clear h g hblk hl hrow hsv s1 HU
  generalize hno : Nm.nameOk nm = no at HN
  have HNO := Lib.hid hno
  clear hno
  cases no with
  | false =>
    go_enter_defers Tryz.func19, Tryz.ntmps19
    go_wp2_with (go_at_call 33; refine (lock_free Tryz.muLib ⟨p, 0, none⟩ _ c0 f0).mono ?_; rintro e w' ⟨rfl, rfl⟩)
    refine (HN.out _).mono ?_
    rintro e w2 ⟨rfl, q, rfl⟩
    have S2 := Lib.hid (S1.out.trans (Step.drewN S1.out.is q))
    go_wp2
    refine leaves_cons (f := 34) (args := #[.pointer (some ⟨p, 0, none⟩)]) (by simp) (by simp [go_sem]) ?_
    refine (unlock_deferred Tryz.muLib ⟨p, 0, none⟩ .returning _ S2.out.is.lockCell.1 S2.out.is.lockCell.2).mono ?_
    rintro e u' w'' ⟨rfl, rfl, rfl⟩
    exact ⟨_, results_tmp2 rfl _ _ _, .inl ⟨HNO.out, rfl, HUU.out _ S2.out⟩⟩
  | true =>
    have hlen : dat.length ≤ 16777216 ∨ 16777216 < dat.length := by omega
    rcases hlen with hlen | hlen
    rotate_left
    · go_enter_defers Tryz.func19, Tryz.ntmps19
      go_wp2_with (go_at_call 33; refine (lock_free Tryz.muLib ⟨p, 0, none⟩ _ c0 f0).mono ?_; rintro e w' ⟨rfl, rfl⟩)
      refine (HN.out _).mono ?_
      rintro e w2 ⟨rfl, q, rfl⟩
      have S2 := Lib.hid (S1.out.trans (Step.drewN S1.out.is q))
      go_wp2
      refine leaves_cons (f := 34) (args := #[.pointer (some ⟨p, 0, none⟩)]) (by simp) (by simp [go_sem]) ?_
      refine (unlock_deferred Tryz.muLib ⟨p, 0, none⟩ .returning _ S2.out.is.lockCell.1 S2.out.is.lockCell.2).mono ?_
      rintro e u' w'' ⟨rfl, rfl, rfl⟩
      exact ⟨_, results_tmp2 rfl _ _ _, .inr (.inl ⟨HNO.out, hlen, rfl, HUU.out _ S2.out⟩)⟩
    · generalize hvv : (L.lastOf nm).getD 0 = v at hb1 hb2
      have HV := Lib.hid hvv
      clear hvv
      have hlk : ∀ (w2 : World), Step B w w2 p L { L with lk := 1 } → (Instr.lookup 86 (.map (some L.ml)) (.string nm) false).run Tryz.prog w2 = .ok (.int .i64 v) w2 ∧ w2.cell? ⟨p, 7, none⟩ = some (.map (some L.ml)) := fun w2 S => by
        obtain ⟨sem2, hblk2⟩ := S.is.blk
        refine ⟨?_, by rw [Lib.cell_of_heap hblk2]; rfl⟩
        have h1 := (S.is.lookLast nm hnx).1
        rw [← HV.out]
        exact h1
      have HLK := Lib.hid hlk
      clear hlk
      by_cases hv : v = 4611686018427387904
      · have hvb : (v == 4611686018427387904) = true := by simp [hv]
        have HVE := Lib.hid hv
        clear hv
        go_enter_defers Tryz.func19, Tryz.ntmps19
        go_wp2_with (go_at_call 33; refine (lock_free Tryz.muLib ⟨p, 0, none⟩ _ c0 f0).mono ?_; rintro e w' ⟨rfl, rfl⟩)
        refine (HN.out _).mono ?_
        rintro e w2 ⟨rfl, q, rfl⟩
        have S2 := Lib.hid (S1.out.trans (Step.drewN S1.out.is q))
        obtain ⟨hlk, c7⟩ := HLK.out _ S2.out
        go_wp2
        refine leaves_cons (f := 34) (args := #[.pointer (some ⟨p, 0, none⟩)]) (by simp) (by simp [go_sem]) ?_
        refine (unlock_deferred Tryz.muLib ⟨p, 0, none⟩ .returning _ S2.out.is.lockCell.1 S2.out.is.lockCell.2).mono ?_
        rintro e u' w'' ⟨rfl, rfl, rfl⟩
        exact ⟨_, results_tmp2 rfl _ _ _, .inr (.inr (.inl ⟨HNO.out, hlen, HV.out.trans HVE.out, rfl, HUU.out _ S2.out⟩))⟩
      · have hvb : (v == 4611686018427387904) = false := by simp [hv]
        have hvl : v < 4611686018427387904 := by omega
        have HVN := Lib.hid hv
        clear hv
        go_enter_defers Tryz.func19, Tryz.ntmps19
        go_wp2_with (go_at_call 33; refine (lock_free Tryz.muLib ⟨p, 0, none⟩ _ c0 f0).mono ?_; rintro e w' ⟨rfl, rfl⟩)
        refine (HN.out _).mono ?_
        rintro e w2 ⟨rfl, q, rfl⟩
        have S2 := Lib.hid (S1.out.trans (Step.drewN S1.out.is q))
        obtain ⟨hlk, c7⟩ := HLK.out _ S2.out
        have hla := lay_any B p _ _ S2.out.is (G.out.locked 1) nm (v + 1) _ dat B0 (RdB.far HR.out S2.out.1 HS.out) hlen (nameOk_size HNO.out) ⟨by omega, by omega⟩ (by rw [← HV.out]; exact next_new G.out nm) htc HS.out
        have HLA := Lib.hid hla
        clear hla
        go_wp2_with fail
        refine HLA.out.mono ?_
        rintro e w3 hla
        obtain ⟨err, rfl, herr, ⟨L2, S3, hl2⟩, hP⟩ := laid_of HL.out S2.out hla
        have HP := Lib.hid hP
        have S75 := Lib.hid S3
        have HL2 := Lib.hid hl2
        clear hla hP S3 hl2
        rcases herr with rfl | rfl
        all_goals
          go_wp2
          refine leaves_cons (f := 34) (args := #[.pointer (some ⟨p, 0, none⟩)]) (by simp) (by simp [go_sem]) ?_
          refine (unlock_deferred Tryz.muLib ⟨p, 0, none⟩ .returning _ (S75.out.is.lockCell.1.trans (by rw [HL2.out])) S75.out.is.lockCell.2).mono ?_
          rintro e u' w'' ⟨rfl, rfl, rfl⟩
          refine ⟨_, results_tmp2 rfl _ _ _, .inr (.inr (.inr ⟨HNO.out, hlen, by rw [HV.out]; exact hvl, _, ?_, by rw [HV.out]; exact HP.out⟩))⟩
          rw [HV.out]
          rfl
end Go.Proofs.YtancenklmfamnaaGreat.Sh
