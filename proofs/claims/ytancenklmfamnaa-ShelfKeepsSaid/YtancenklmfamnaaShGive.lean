/- the methods: Give first. -/
import Derived.Test.YtancenklmfamnaaShFind
import Derived.Test.YtancenklmfamnaaLocks
set_option linter.unusedVariables false
set_option linter.unusedSimpArgs false
namespace Go.Proofs.Ytancenklmfamnaa.Sh
open Go.RowKit Go.Maps Go.Sort Go.Shelf
open Go.Proofs Go.MuLone

/-- locked -/
abbrev Lay.locked (L : Lay) : Lay := { L with lk := 1 }
theorem Good.locked {L : Lay} (g : Good L) (x : Int) : Good { L with lk := x } := ⟨g.room, g.bytes, g.count, g.fits, g.touch, g.touched, g.tnodup, g.used, g.vers, g.names, g.full, g.lasts, g.lastFew, g.known⟩
theorem find_mem {L : Lay} {nm : ByteArray} {v : Int} {nw : Bool} {m : LM} (h : (L.find nm v nw).1 = some m) : m ∈ L.ms ∧ m.name = nm ∧ m.ver = L.which nm v nw ∧ (L.find nm v nw).2 = 0 := by
  unfold Lay.find at *
  by_cases hn : L.nOf nm = 0
  · rw [if_pos hn] at h
    cases h
  · rw [if_neg hn] at h ⊢
    cases e : L.modOf nm (L.which nm v nw) with
    | none => rw [e] at h; cases h
    | some m' =>
      rw [e] at h
      simp at h
      subst h
      obtain ⟨h1, h2, h3⟩ := find_key e
      exact ⟨h1, h2, h3, rfl⟩
theorem find_none {L : Lay} {nm : ByteArray} {v : Int} {nw : Bool} (h : (L.find nm v nw).1 = none) : (L.find nm v nw).2 = 3 ∨ (L.find nm v nw).2 = 270 := by
  unfold Lay.find at *
  by_cases hn : L.nOf nm = 0
  · rw [if_pos hn]
    exact .inl rfl
  · rw [if_neg hn] at h ⊢
    cases e : L.modOf nm (L.which nm v nw) with
    | none => exact .inr rfl
    | some m' => rw [e] at h; cases h
theorem ShelfIs.lockCell {B p : Nat} {W : World} {L : Lay} (h : ShelfIs B W p L) : W.cell? ⟨p, 0, none⟩ = some (.int .i32 L.lk) ∧ W.frozen? ⟨p, 0, none⟩ = false := by
  obtain ⟨sem, hblk⟩ := h.blk
  exact ⟨by rw [Lib.cell_of_heap hblk]; rfl, Lib.frozen_of_heap hblk _⟩
theorem Step.unlock {B p : Nat} {w w2 : World} {L L2 : Lay} (h : Step B w w2 p L L2) : Step B w (w2.setCell ⟨p, 0, none⟩ (.int .i32 0)) p L { L2 with lk := 0 } := h.trans (h.is.setLock 0)
theorem unlk {L : Lay} (h : L.lk = 0) : { L with lk := 0 } = L := by cases L; simp at h; subst h; rfl

/-- what Give does -/
def Lay.give (L : Lay) (nm : ByteArray) (v : Int) : Lay × Int :=
  match (L.find nm v false).1 with
  | none => (L, (L.find nm v false).2)
  | some m => if m.used = 0 then (L, 1) else ({ L with ms := L.ms.map (setUsed m.blk (m.used - 1)) }, 0)

set_option maxHeartbeats 4000000 in
set_option maxRecDepth 100000 in
theorem give_any (B p : Nat) (L : Lay) (w : World) (h : ShelfIs B w p L) (g : Good L) (hl : L.lk = 0) (nm : ByteArray) (hnm : nm.size ≤ maxLen) (v : Int) (hv : (Lit.int .i64 v).wf = true) :
    Calls Try.prog 10 #[.pointer (some ⟨p, 0, none⟩), .string nm, .int .i64 v] w fun e w' => e = .returned (.int .i64 (L.give nm v).2) ∧ Step B w w' p L (L.give nm v).1 := by
  obtain ⟨sem, hblk⟩ := h.blk
  rw [hl] at hblk
  have c0 : w.cell? ⟨p, 0, none⟩ = some (.int .i32 0) := by rw [Lib.cell_of_heap hblk]; rfl
  have f0 : w.frozen? ⟨p, 0, none⟩ = false := Lib.frozen_of_heap hblk _
  have s1 := h.setLock 1
  have S1 := Lib.hid s1
  have H := Lib.hid h
  have HL := Lib.hid hl
  have F := find_any B p _ _ s1.is (g.locked 1) nm hnm v hv false
  change Calls Try.prog 23 _ _ fun e w' => e = .returned (.tuple #[mptr (L.find nm v false).1, .int .i64 (L.find nm v false).2]) ∧ _ at F
  cases hfd : (L.find nm v false).1 with
  | none =>
    have hgv : L.give nm v = (L, (L.find nm v false).2) := by unfold Lay.give; rw [hfd]
    rw [hgv]
    rw [hfd] at F
    change Calls Try.prog 23 _ _ fun e w' => e = .returned (.tuple #[.pointer none, .int .i64 (L.find nm v false).2]) ∧ _ at F
    have hr := find_none hfd
    clear hfd hgv
    generalize (L.find nm v false).2 = r at F hr
    have F2 := Lib.hid F
    clear h hblk hl s1 F
    rcases hr with rfl | rfl
    all_goals
      go_enter_defers Try.func10, Try.ntmps10
      go_wp2_with (go_at_call 19; refine (lock_free Try.muLib ⟨p, 0, none⟩ _ c0 f0).mono ?_; rintro e w' ⟨rfl, rfl⟩)
      refine F2.out.mono ?_
      rintro e w2 ⟨rfl, hb⟩
      have S2 := Lib.hid (S1.out.trans (Step.refl S1.out.is hb))
      clear hb
      go_wp2
      refine leaves_cons (f := 20) (args := #[.pointer (some ⟨p, 0, none⟩)]) (by simp) (by simp [go_sem]) ?_
      refine (unlock_deferred Try.muLib ⟨p, 0, none⟩ .returning _ S2.out.is.lockCell.1 S2.out.is.lockCell.2).mono ?_
      rintro e u' w'' ⟨rfl, rfl, rfl⟩
      refine ⟨_, results_tmp rfl _ _ _, rfl, ?_⟩
      have := S2.out.unlock
      rwa [show ({ ({ L with lk := 1 } : Lay) with lk := 0 } : Lay) = L from unlk HL.out] at this
  | some m =>
    obtain ⟨hm, _, _, h0⟩ := find_mem hfd
    rw [hfd, h0] at F
    change Calls Try.prog 23 _ _ fun e w' => e = .returned (.tuple #[.pointer (some ⟨m.blk, 0, none⟩), .int .i64 0]) ∧ _ at F
    have hus := g.used m hm
    obtain ⟨hu1, hu2⟩ := hus
    have hmd := (s1.is.mods m hm).1
    have d3 : (w.setCell ⟨p, 0, none⟩ (.int .i32 1)).cell? ⟨m.blk, 3, none⟩ = some (.int .i64 m.used) := by rw [Lib.cell_of_heap hmd]; rfl
    have F2 := Lib.hid F
    have D3 := Lib.hid d3
    have HM := Lib.hid hm
    by_cases hu : m.used = 0
    · have hgv : L.give nm v = (L, 1) := by unfold Lay.give; rw [hfd]; simp [hu]
      rw [hgv]
      have hub : (m.used == 0) = true := by simp [hu]
      clear h hblk hl s1 F hfd hgv hmd d3 hm hu
      go_enter_defers Try.func10, Try.ntmps10
      go_wp2_with (go_at_call 19; refine (lock_free Try.muLib ⟨p, 0, none⟩ _ c0 f0).mono ?_; rintro e w' ⟨rfl, rfl⟩)
      refine F2.out.mono ?_
      rintro e w2 ⟨rfl, hb⟩
      have S2 := Lib.hid (S1.out.trans (Step.refl S1.out.is hb))
      have d3 : w2.cell? ⟨m.blk, 3, none⟩ = some (.int .i64 m.used) := by rw [Lib.cell_of_heap (S2.out.is.mods m HM.out).1]; rfl
      clear hb
      go_wp2
      refine leaves_cons (f := 20) (args := #[.pointer (some ⟨p, 0, none⟩)]) (by simp) (by simp [go_sem]) ?_
      refine (unlock_deferred Try.muLib ⟨p, 0, none⟩ .returning _ S2.out.is.lockCell.1 S2.out.is.lockCell.2).mono ?_
      rintro e u' w'' ⟨rfl, rfl, rfl⟩
      refine ⟨_, results_tmp rfl _ _ _, rfl, ?_⟩
      have := S2.out.unlock
      rwa [show ({ ({ L with lk := 1 } : Lay) with lk := 0 } : Lay) = L from unlk HL.out] at this
    · have hgv : L.give nm v = ({ L with ms := L.ms.map (setUsed m.blk (m.used - 1)) }, 0) := by unfold Lay.give; rw [hfd]; simp [hu]
      rw [hgv]
      have hub : (m.used == 0) = false := by simp [hu]
      clear h hblk hl s1 F hfd hgv hmd d3 hm hu
      go_enter_defers Try.func10, Try.ntmps10
      go_wp2_with (go_at_call 19; refine (lock_free Try.muLib ⟨p, 0, none⟩ _ c0 f0).mono ?_; rintro e w' ⟨rfl, rfl⟩)
      refine F2.out.mono ?_
      rintro e w2 ⟨rfl, hb⟩
      have S2 := Lib.hid (S1.out.trans (Step.refl S1.out.is hb))
      have d3 : w2.cell? ⟨m.blk, 3, none⟩ = some (.int .i64 m.used) := by rw [Lib.cell_of_heap (S2.out.is.mods m HM.out).1]; rfl
      have df : w2.frozen? ⟨m.blk, 3, none⟩ = false := Lib.frozen_of_heap (S2.out.is.mods m HM.out).1 _
      have S3 := Lib.hid (S2.out.trans (S2.out.is.putUsed (m := m) HM.out (m.used - 1)))
      clear hb
      go_wp2
      refine leaves_cons (f := 20) (args := #[.pointer (some ⟨p, 0, none⟩)]) (by simp) (by simp [go_sem]) ?_
      refine (unlock_deferred Try.muLib ⟨p, 0, none⟩ .returning _ S3.out.is.lockCell.1 S3.out.is.lockCell.2).mono ?_
      rintro e u' w'' ⟨rfl, rfl, rfl⟩
      refine ⟨_, results_tmp rfl _ _ _, rfl, ?_⟩
      have := S3.out.unlock
      have e : ({ ({ ({ L with lk := 1 } : Lay) with ms := L.ms.map (setUsed m.blk (m.used - 1)) } : Lay) with lk := 0 } : Lay) = { L with ms := L.ms.map (setUsed m.blk (m.used - 1)) } := unlk (L := { L with ms := L.ms.map (setUsed m.blk (m.used - 1)) }) HL.out
      rwa [e] at this
end Go.Proofs.Ytancenklmfamnaa.Sh
