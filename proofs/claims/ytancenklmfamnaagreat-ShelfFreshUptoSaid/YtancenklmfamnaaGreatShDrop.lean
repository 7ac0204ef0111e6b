/- The numbers under which this translation holds sync.Mutex. the methods: Give first. Drop, Take. -/
import Derived.Test.YtancenklmfamnaaGreatProg
import Derived.Conc.MuData
import Derived.Conc.MuLone
import Derived.KernelRfl
import Derived.Test.YtancenklmfamnaaGreatShLayW
import Derived.Deep.RegionHeld3
set_option linter.unusedVariables false
set_option linter.unusedSimpArgs false
namespace Go.Proofs
abbrev Tryz.muLink : Go.Conc.Locks.MuLink := { lock := 33, unlock := 34, ilock := 57, iunlock := 58, lockSlow := 76, unlockSlow := 79, disable := 72, enable := 74, acquire := 75, relMerge := 77, cas32 := 73, add32 := 78, tMutex := 84, tIMutex := 82, tPMutex := 120, tPIMutex := 141, tPI32 := 143, tUP := 145, tNoCopy := 79, tU32 := 80 }
theorem Tryz.muLib : Go.Conc.Locks.MuLib Tryz.prog Tryz.muLink :=
  ⟨Tryz.func33, Tryz.func34, Tryz.func57, Tryz.func58, Tryz.func72, Tryz.func74, Tryz.func75, Tryz.func77, Tryz.func73, Tryz.func78, Tryz.underlying82, Tryz.runUnderlying82, Tryz.sizeOf82, Tryz.isAgg82, Tryz.zeroValue82, Tryz.underlying84, Tryz.runUnderlying84, Tryz.sizeOf84, Tryz.isAgg84, Tryz.zeroValue84, Tryz.underlying120, Tryz.runUnderlying120, Tryz.sizeOf120, Tryz.isAgg120, Tryz.zeroValue120, Tryz.underlying141, Tryz.runUnderlying141, Tryz.sizeOf141, Tryz.isAgg141, Tryz.zeroValue141, Tryz.underlying143, Tryz.runUnderlying143, Tryz.sizeOf143, Tryz.isAgg143, Tryz.zeroValue143, Tryz.underlying145, Tryz.runUnderlying145, Tryz.sizeOf145, Tryz.isAgg145, Tryz.zeroValue145, Tryz.underlying79, Tryz.runUnderlying79, Tryz.sizeOf79, Tryz.isAgg79, Tryz.zeroValue79, Tryz.underlying21, Tryz.runUnderlying21, Tryz.sizeOf21, Tryz.isAgg21, Tryz.zeroValue21, (by kernel_rfl)⟩
end Go.Proofs
namespace Go.Proofs.YtancenklmfamnaaGreat.Sh
open Go.RowKit Go.Maps Go.Sort Go.Shelf
open Go.Proofs Go.MuLone

/-- locked -/
abbrev Lay.locked (L : Lay) : Lay := { L with lk := 1 }
theorem Good.locked {L : Lay} (g : Good L) (x : Int) : Good { L with lk := x } := ⟨g.room, g.bytes, g.count, g.fits, g.touch, g.touched, g.tnodup, g.used, g.vers, g.names, g.full, g.lasts, g.lastFew, g.known⟩
theorem find_mem {L : Lay} {nm : ByteArray} {v : Int} {nw : Bool} {m : LM} (h : (L.find nm v nw).1 = some m) : m ∈ L.ms ∧ m.name = nm ∧ m.ver = L.which nm v nw ∧ (L.find nm v nw).2 = 0 := by
  unfold Lay.find at *
  by_cases hn : L.nOf nm = 0
  · rw [if_pos hn] at h
    cases h
  · rw [if_neg hn] at h ⊢
    cases e : L.modOf nm (L.which nm v nw) with
    | none => rw [e] at h; cases h
    | some m' =>
      rw [e] at h
      simp at h
      subst h
      obtain ⟨h1, h2, h3⟩ := find_key e
      exact ⟨h1, h2, h3, rfl⟩
theorem find_none {L : Lay} {nm : ByteArray} {v : Int} {nw : Bool} (h : (L.find nm v nw).1 = none) : (L.find nm v nw).2 = 3 ∨ (L.find nm v nw).2 = 270 := by
  unfold Lay.find at *
  by_cases hn : L.nOf nm = 0
  · rw [if_pos hn]
    exact .inl rfl
  · rw [if_neg hn] at h ⊢
    cases e : L.modOf nm (L.which nm v nw) with
    | none => exact .inr rfl
    | some m' => rw [e] at h; cases h
theorem ShelfIs.lockCell {B p : Nat} {W : World} {L : Lay} (h : ShelfIs B W p L) : W.cell? ⟨p, 0, none⟩ = some (.int .i32 L.lk) ∧ W.frozen? ⟨p, 0, none⟩ = false := by
  obtain ⟨sem, hblk⟩ := h.blk
  exact ⟨by rw [Lib.cell_of_heap hblk]; rfl, Lib.frozen_of_heap hblk _⟩
theorem Step.unlock {B p : Nat} {w w2 : World} {L L2 : Lay} (h : Step B w w2 p L L2) : Step B w (w2.setCell ⟨p, 0, none⟩ (.int .i32 0)) p L { L2 with lk := 0 } := h.trans (h.is.setLock 0)
theorem unlk {L : Lay} (h : L.lk = 0) : { L with lk := 0 } = L := by cases L; simp at h; subst h; rfl

/-- what Give does -/
def Lay.give (L : Lay) (nm : ByteArray) (v : Int) : Lay × Int :=
  match (L.find nm v false).1 with
  | none => (L, (L.find nm v false).2)
  | some m => if m.used = 0 then (L, 1) else ({ L with ms := L.ms.map (setUsed m.blk (m.used - 1)) }, 0)

set_option maxHeartbeats 4000000 in
set_option maxRecDepth 100000 in
theorem give_any (B p : Nat) (L : Lay) (w : World) (h : ShelfIs B w p L) (g : Good L) (hl : L.lk = 0) (nm : ByteArray) (hnm : nm.size ≤ maxLen) (v : Int) (hv : (Lit.int .i64 v).wf = true) :
    Calls Tryz.prog 24 #[.pointer (some ⟨p, 0, none⟩), .string nm, .int .i64 v] w fun e w' => e = .returned (.int .i64 (L.give nm v).2) ∧ Step B w w' p L (L.give nm v).1 := by
  obtain ⟨sem, hblk⟩ := h.blk
  rw [hl] at hblk
  have c0 : w.cell? ⟨p, 0, none⟩ = some (.int .i32 0) := by rw [Lib.cell_of_heap hblk]; rfl
  have f0 : w.frozen? ⟨p, 0, none⟩ = false := Lib.frozen_of_heap hblk _
  have s1 := h.setLock 1
  have S1 := Lib.hid s1
  have H := Lib.hid h
  have HL := Lib.hid hl
  have F := find_any B p _ _ s1.is (g.locked 1) nm hnm v hv false
  change Calls Tryz.prog 47 _ _ fun e w' => e = .returned (.tuple #[mptr (L.find nm v false).1, .int .i64 (L.find nm v false).2]) ∧ _ at F
  cases hfd : (L.find nm v false).1 with
  | none =>
    have hgv : L.give nm v = (L, (L.find nm v false).2) := by unfold Lay.give; rw [hfd]
    rw [hgv]
    rw [hfd] at F
    change Calls Tryz.prog 47 _ _ fun e w' => e = .returned (.tuple #[.pointer none, .int .i64 (L.find nm v false).2]) ∧ _ at F
    have hr := find_none hfd
    clear hfd hgv
    generalize (L.find nm v false).2 = r at F hr
    have F2 := Lib.hid F
    clear h hblk hl s1 F
    rcases hr with rfl | rfl
    all_goals
      go_enter_defers Tryz.func24, Tryz.ntmps24
      go_wp2_with (go_at_call 33; refine (lock_free Tryz.muLib ⟨p, 0, none⟩ _ c0 f0).mono ?_; rintro e w' ⟨rfl, rfl⟩)
      refine F2.out.mono ?_
      rintro e w2 ⟨rfl, hb⟩
      have S2 := Lib.hid (S1.out.trans (Step.refl S1.out.is hb))
      clear hb
      go_wp2
      refine leaves_cons (f := 34) (args := #[.pointer (some ⟨p, 0, none⟩)]) (by simp) (by simp [go_sem]) ?_
      refine (unlock_deferred Tryz.muLib ⟨p, 0, none⟩ .returning _ S2.out.is.lockCell.1 S2.out.is.lockCell.2).mono ?_
      rintro e u' w'' ⟨rfl, rfl, rfl⟩
      refine ⟨_, results_tmp rfl _ _ _, rfl, ?_⟩
      have := S2.out.unlock
      rwa [show ({ ({ L with lk := 1 } : Lay) with lk := 0 } : Lay) = L from unlk HL.out] at this
  | some m =>
    obtain ⟨hm, _, _, h0⟩ := find_mem hfd
    rw [hfd, h0] at F
    change Calls Tryz.prog 47 _ _ fun e w' => e = .returned (.tuple #[.pointer (some ⟨m.blk, 0, none⟩), .int .i64 0]) ∧ _ at F
    have hus := g.used m hm
    obtain ⟨hu1, hu2⟩ := hus
    have hmd := (s1.is.mods m hm).1
    have d3 : (w.setCell ⟨p, 0, none⟩ (.int .i32 1)).cell? ⟨m.blk, 3, none⟩ = some (.int .i64 m.used) := by rw [Lib.cell_of_heap hmd]; rfl
    have F2 := Lib.hid F
    have D3 := Lib.hid d3
    have HM := Lib.hid hm
    by_cases hu : m.used = 0
    · have hgv : L.give nm v = (L, 1) := by unfold Lay.give; rw [hfd]; simp [hu]
      rw [hgv]
      have hub : (m.used == 0) = true := by simp [hu]
      clear h hblk hl s1 F hfd hgv hmd d3 hm hu
      go_enter_defers Tryz.func24, Tryz.ntmps24
      go_wp2_with (go_at_call 33; refine (lock_free Tryz.muLib ⟨p, 0, none⟩ _ c0 f0).mono ?_; rintro e w' ⟨rfl, rfl⟩)
      refine F2.out.mono ?_
      rintro e w2 ⟨rfl, hb⟩
      have S2 := Lib.hid (S1.out.trans (Step.refl S1.out.is hb))
      have d3 : w2.cell? ⟨m.blk, 3, none⟩ = some (.int .i64 m.used) := by rw [Lib.cell_of_heap (S2.out.is.mods m HM.out).1]; rfl
      clear hb
      go_wp2
      refine leaves_cons (f := 34) (args := #[.pointer (some ⟨p, 0, none⟩)]) (by simp) (by simp [go_sem]) ?_
      refine (unlock_deferred Tryz.muLib ⟨p, 0, none⟩ .returning _ S2.out.is.lockCell.1 S2.out.is.lockCell.2).mono ?_
      rintro e u' w'' ⟨rfl, rfl, rfl⟩
      refine ⟨_, results_tmp rfl _ _ _, rfl, ?_⟩
      have := S2.out.unlock
      rwa [show ({ ({ L with lk := 1 } : Lay) with lk := 0 } : Lay) = L from unlk HL.out] at this
    · have hgv : L.give nm v = ({ L with ms := L.ms.map (setUsed m.blk (m.used - 1)) }, 0) := by unfold Lay.give; rw [hfd]; simp [hu]
      rw [hgv]
      have hub : (m.used == 0) = false := by simp [hu]
      clear h hblk hl s1 F hfd hgv hmd d3 hm hu
      go_enter_defers Tryz.func24, Tryz.ntmps24
      go_wp2_with (go_at_call 33; refine (lock_free Tryz.muLib ⟨p, 0, none⟩ _ c0 f0).mono ?_; rintro e w' ⟨rfl, rfl⟩)
      refine F2.out.mono ?_
      rintro e w2 ⟨rfl, hb⟩
      have S2 := Lib.hid (S1.out.trans (Step.refl S1.out.is hb))
      have d3 : w2.cell? ⟨m.blk, 3, none⟩ = some (.int .i64 m.used) := by rw [Lib.cell_of_heap (S2.out.is.mods m HM.out).1]; rfl
      have df : w2.frozen? ⟨m.blk, 3, none⟩ = false := Lib.frozen_of_heap (S2.out.is.mods m HM.out).1 _
      have S3 := Lib.hid (S2.out.trans (S2.out.is.putUsed (m := m) HM.out (m.used - 1)))
      clear hb
      go_wp2
      refine leaves_cons (f := 34) (args := #[.pointer (some ⟨p, 0, none⟩)]) (by simp) (by simp [go_sem]) ?_
      refine (unlock_deferred Tryz.muLib ⟨p, 0, none⟩ .returning _ S3.out.is.lockCell.1 S3.out.is.lockCell.2).mono ?_
      rintro e u' w'' ⟨rfl, rfl, rfl⟩
      refine ⟨_, results_tmp rfl _ _ _, rfl, ?_⟩
      have := S3.out.unlock
      have e : ({ ({ ({ L with lk := 1 } : Lay) with ms := L.ms.map (setUsed m.blk (m.used - 1)) } : Lay) with lk := 0 } : Lay) = { L with ms := L.ms.map (setUsed m.blk (m.used - 1)) } := unlk (L := { L with ms := L.ms.map (setUsed m.blk (m.used - 1)) }) HL.out
      rwa [e] at this
end Go.Proofs.YtancenklmfamnaaGreat.Sh
namespace Go.Proofs.YtancenklmfamnaaGreat.Sh
open Go.RowKit Go.Maps Go.Sort Go.Shelf
open Go.Proofs Go.MuLone

theorem rem_unlk {L : Lay} (h : L.lk = 0) (m : LM) : ({ (({ L with lk := 1 } : Lay).rem m) with lk := 0 } : Lay) = L.rem m := by
  by_cases hc : (L.drop m).nOf m.name = 0
  · have e1 : L.rem1 m = { L.drop m with inn := L.inn.filter fun x => decide (x.1 ≠ m.name) } := by unfold Lay.rem1; rw [if_pos hc]
    have e2 : ({ L with lk := 1 } : Lay).rem1 m = { ({ L with lk := 1 } : Lay).drop m with inn := L.inn.filter fun x => decide (x.1 ≠ m.name) } := by unfold Lay.rem1; exact if_pos hc
    unfold Lay.rem
    rw [e1, e2]
    cases L
    simp at h
    subst h
    rfl
  · have e1 : L.rem1 m = L.drop m := by unfold Lay.rem1; rw [if_neg hc]
    have e2 : ({ L with lk := 1 } : Lay).rem1 m = ({ L with lk := 1 } : Lay).drop m := by unfold Lay.rem1; exact if_neg hc
    unfold Lay.rem
    rw [e1, e2]
    cases L
    simp at h
    subst h
    rfl

/-- what Drop does -/
def Lay.dropM (L : Lay) (nm : ByteArray) (v : Int) : Lay × Int :=
  match (L.find nm v false).1 with
  | none => (L, (L.find nm v false).2)
  | some m => if 0 < m.used then (L, 271) else (L.rem m, 0)

set_option maxHeartbeats 4000000 in
set_option maxRecDepth 100000 in
theorem drop_any (B p : Nat) (L : Lay) (w : World) (h : ShelfIs B w p L) (g : Good L) (hl : L.lk = 0) (nm : ByteArray) (hnm : nm.size ≤ maxLen) (v : Int) (hv : (Lit.int .i64 v).wf = true) :
    Calls Tryz.prog 25 #[.pointer (some ⟨p, 0, none⟩), .string nm, .int .i64 v] w fun e w' => e = .returned (.int .i64 (L.dropM nm v).2) ∧ Step B w w' p L (L.dropM nm v).1 := by
  obtain ⟨sem, hblk⟩ := h.blk
  rw [hl] at hblk
  have c0 : w.cell? ⟨p, 0, none⟩ = some (.int .i32 0) := by rw [Lib.cell_of_heap hblk]; rfl
  have f0 : w.frozen? ⟨p, 0, none⟩ = false := Lib.frozen_of_heap hblk _
  have s1 := h.setLock 1
  have S1 := Lib.hid s1
  have H := Lib.hid h
  have HL := Lib.hid hl
  have F := find_any B p _ _ s1.is (g.locked 1) nm hnm v hv false
  change Calls Tryz.prog 47 _ _ fun e w' => e = .returned (.tuple #[mptr (L.find nm v false).1, .int .i64 (L.find nm v false).2]) ∧ _ at F
  cases hfd : (L.find nm v false).1 with
  | none =>
    have hgv : L.dropM nm v = (L, (L.find nm v false).2) := by unfold Lay.dropM; rw [hfd]
    rw [hgv]
    rw [hfd] at F
    change Calls Tryz.prog 47 _ _ fun e w' => e = .returned (.tuple #[.pointer none, .int .i64 (L.find nm v false).2]) ∧ _ at F
    have hr := find_none hfd
    clear hfd hgv
    generalize (L.find nm v false).2 = r at F hr
    have F2 := Lib.hid F
    clear h hblk hl s1 F
    rcases hr with rfl | rfl
    all_goals
      go_enter_defers Tryz.func25, Tryz.ntmps25
      go_wp2_with (go_at_call 33; refine (lock_free Tryz.muLib ⟨p, 0, none⟩ _ c0 f0).mono ?_; rintro e w' ⟨rfl, rfl⟩)
      refine F2.out.mono ?_
      rintro e w2 ⟨rfl, hb⟩
      have S2 := Lib.hid (S1.out.trans (Step.refl S1.out.is hb))
      clear hb
      go_wp2
      refine leaves_cons (f := 34) (args := #[.pointer (some ⟨p, 0, none⟩)]) (by simp) (by simp [go_sem]) ?_
      refine (unlock_deferred Tryz.muLib ⟨p, 0, none⟩ .returning _ S2.out.is.lockCell.1 S2.out.is.lockCell.2).mono ?_
      rintro e u' w'' ⟨rfl, rfl, rfl⟩
      refine ⟨_, results_tmp rfl _ _ _, rfl, ?_⟩
      have := S2.out.unlock
      rwa [show ({ ({ L with lk := 1 } : Lay) with lk := 0 } : Lay) = L from unlk HL.out] at this
  | some m =>
    obtain ⟨hm, -, -, h0⟩ := find_mem hfd
    rw [hfd, h0] at F
    change Calls Tryz.prog 47 _ _ fun e w' => e = .returned (.tuple #[.pointer (some ⟨m.blk, 0, none⟩), .int .i64 0]) ∧ _ at F
    have hus := g.used m hm
    obtain ⟨hu1, hu2⟩ := hus
    have hmd := (s1.is.mods m hm).1
    have d3 : (w.setCell ⟨p, 0, none⟩ (.int .i32 1)).cell? ⟨m.blk, 3, none⟩ = some (.int .i64 m.used) := by rw [Lib.cell_of_heap hmd]; rfl
    have F2 := Lib.hid F
    have D3 := Lib.hid d3
    have HM := Lib.hid hm
    by_cases hu : 0 < m.used
    · have hgv : L.dropM nm v = (L, 271) := by unfold Lay.dropM; rw [hfd]; simp [hu]
      rw [hgv]
      clear h hblk hl s1 F hfd hgv hmd d3 hm
      go_enter_defers Tryz.func25, Tryz.ntmps25
      go_wp2_with (go_at_call 33; refine (lock_free Tryz.muLib ⟨p, 0, none⟩ _ c0 f0).mono ?_; rintro e w' ⟨rfl, rfl⟩)
      refine F2.out.mono ?_
      rintro e w2 ⟨rfl, hb⟩
      have S2 := Lib.hid (S1.out.trans (Step.refl S1.out.is hb))
      have d3 : w2.cell? ⟨m.blk, 3, none⟩ = some (.int .i64 m.used) := by rw [Lib.cell_of_heap (S2.out.is.mods m HM.out).1]; rfl
      clear hb
      go_wp2
      refine leaves_cons (f := 34) (args := #[.pointer (some ⟨p, 0, none⟩)]) (by simp) (by simp [go_sem]) ?_
      refine (unlock_deferred Tryz.muLib ⟨p, 0, none⟩ .returning _ S2.out.is.lockCell.1 S2.out.is.lockCell.2).mono ?_
      rintro e u' w'' ⟨rfl, rfl, rfl⟩
      refine ⟨_, results_tmp rfl _ _ _, rfl, ?_⟩
      have := S2.out.unlock
      rwa [show ({ ({ L with lk := 1 } : Lay) with lk := 0 } : Lay) = L from unlk HL.out] at this
    · have hgv : L.dropM nm v = (L.rem m, 0) := by unfold Lay.dropM; rw [hfd]; simp [hu]
      rw [hgv]
      have hbn : (m.dat.length : Int) ≤ L.bytes ∧ L.bytes ≤ 1099511627776 := ⟨g.size_le hm, by have := g.fits; have := g.room; omega⟩
      have hcn : 1 ≤ L.count ∧ L.count ≤ 256 := by
        have h1 := g.count
        have h2 := h.few
        have h3 := List.length_pos_of_mem hm
        omega
      have HBN := Lib.hid hbn
      have HCN := Lib.hid hcn
      have G := Lib.hid g
      have hu0 : m.used = 0 := by omega
      have HU0 := Lib.hid hu0
      clear h hblk hl s1 F hfd hgv hmd d3 hm hbn hcn g hu0
      go_enter_defers Tryz.func25, Tryz.ntmps25
      go_wp2_with (go_at_call 33; refine (lock_free Tryz.muLib ⟨p, 0, none⟩ _ c0 f0).mono ?_; rintro e w' ⟨rfl, rfl⟩)
      refine F2.out.mono ?_
      rintro e w2 ⟨rfl, hb⟩
      have S2 := Lib.hid (S1.out.trans (Step.refl S1.out.is hb))
      have d3 : w2.cell? ⟨m.blk, 3, none⟩ = some (.int .i64 m.used) := by rw [Lib.cell_of_heap (S2.out.is.mods m HM.out).1]; rfl
      rw [HU0.out] at d3
      clear hb
      go_wp2_with fail
      refine (remove_any B p _ _ S2.out.is m HM.out (G.out.nm HM.out) (G.out.wf HM.out) HBN.out HCN.out).mono ?_
      rintro e w3 ⟨rfl, st3⟩
      have S3 := Lib.hid (S2.out.trans st3)
      clear st3
      go_wp2
      refine leaves_cons (f := 34) (args := #[.pointer (some ⟨p, 0, none⟩)]) (by simp) (by simp [go_sem]) ?_
      refine (unlock_deferred Tryz.muLib ⟨p, 0, none⟩ .returning _ (S3.out.is.lockCell.1.trans (by rw [(rem_same _ m).2.2.2.2.1])) S3.out.is.lockCell.2).mono ?_
      rintro e u' w'' ⟨rfl, rfl, rfl⟩
      refine ⟨_, results_tmp rfl _ _ _, rfl, ?_⟩
      have := S3.out.unlock
      rwa [rem_unlk HL.out m] at this

theorem ShelfIs.foot_lt {B p : Nat} {W : World} {L : Lay} (h : ShelfIs B W p L) {k : Nat} (hk : Foot p L k) : k < W.heap.size := by
  rcases hk with hk | ⟨m, hm, hk⟩
  · exact h.lt hk
  · obtain ⟨_, cur, hc⟩ := row_ty (h.mods m hm).2 hk
    exact (Array.getElem?_eq_some_iff.1 hc).1
/-- what Take does: the shelf, the version, the error -/
def Lay.take (L : Lay) (nm : ByteArray) (v : Int) : Lay × Option LM × Int :=
  match (L.find nm v true).1 with
  | none => (L, none, (L.find nm v true).2)
  | some m => if m.used = 2147483647 then (L, none, 4) else ({ L with touch := L.touch + 1, ms := (L.ms.map (setUsed m.blk (m.used + 1))).map (setTouched m.blk (L.touch + 1)) }, some m, 0)
def TakeP (B p : Nat) (w : World) (L : Lay) (nm : ByteArray) (v : Int) (e : Ending) (w' : World) : Prop :=
  Step B w w' p L (L.take nm v).1 ∧ match (L.take nm v).2.1 with
    | none => e = .returned (.tuple #[.slice none 0 0, .int .i64 0, .int .i64 (L.take nm v).2.2])
    | some m => ∃ v', e = .returned (.tuple #[v', .int .i64 m.ver, .int .i64 0]) ∧ w'.ownsRow w.heap.size 5 1 v' m.dat.length (m.dat.map encB) ∧ ∀ k, v'.ownBlock = some k → ¬ Foot p (L.take nm v).1 k

set_option maxHeartbeats 4000000 in
set_option maxRecDepth 100000 in
theorem take_any (B p : Nat) (L : Lay) (w : World) (h : ShelfIs B w p L) (g : Good L) (hl : L.lk = 0) (htc : L.touch < 4611686018427387904) (nm : ByteArray) (hnm : nm.size ≤ maxLen) (v : Int) (hv : (Lit.int .i64 v).wf = true) :
    Calls Tryz.prog 20 #[.pointer (some ⟨p, 0, none⟩), .string nm, .int .i64 v] w (TakeP B p w L nm v) := by
  obtain ⟨sem, hblk⟩ := h.blk
  rw [hl] at hblk
  have c0 : w.cell? ⟨p, 0, none⟩ = some (.int .i32 0) := by rw [Lib.cell_of_heap hblk]; rfl
  have f0 : w.frozen? ⟨p, 0, none⟩ = false := Lib.frozen_of_heap hblk _
  have s1 := h.setLock 1
  have S1 := Lib.hid s1
  have H := Lib.hid h
  have HL := Lib.hid hl
  have F := find_any B p _ _ s1.is (g.locked 1) nm hnm v hv true
  change Calls Tryz.prog 47 _ _ fun e w' => e = .returned (.tuple #[mptr (L.find nm v true).1, .int .i64 (L.find nm v true).2]) ∧ _ at F
  cases hfd : (L.find nm v true).1 with
  | none =>
    have hgv : L.take nm v = (L, none, (L.find nm v true).2) := by unfold Lay.take; rw [hfd]
    have hT : ∀ e w', e = .returned (.tuple #[.slice none 0 0, .int .i64 0, .int .i64 (L.find nm v true).2]) → Step B w w' p L L → TakeP B p w L nm v e w' := fun e w' h1 h2 => by
      unfold TakeP
      rw [hgv]
      exact ⟨h2, h1⟩
    rw [hfd] at F
    change Calls Tryz.prog 47 _ _ fun e w' => e = .returned (.tuple #[.pointer none, .int .i64 (L.find nm v true).2]) ∧ _ at F
    have hr := find_none hfd
    clear hfd hgv
    generalize (L.find nm v true).2 = r at F hr hT
    have F2 := Lib.hid F
    clear h hblk hl s1 F
    rcases hr with rfl | rfl
    all_goals
      have HT := Lib.hid hT
      clear hT
      go_enter_defers Tryz.func20, Tryz.ntmps20
      go_wp2_with (go_at_call 33; refine (lock_free Tryz.muLib ⟨p, 0, none⟩ _ c0 f0).mono ?_; rintro e w' ⟨rfl, rfl⟩)
      refine F2.out.mono ?_
      rintro e w2 ⟨rfl, hb⟩
      have S2 := Lib.hid (S1.out.trans (Step.refl S1.out.is hb))
      clear hb
      go_wp2
      refine leaves_cons (f := 34) (args := #[.pointer (some ⟨p, 0, none⟩)]) (by simp) (by simp [go_sem]) ?_
      refine (unlock_deferred Tryz.muLib ⟨p, 0, none⟩ .returning _ S2.out.is.lockCell.1 S2.out.is.lockCell.2).mono ?_
      rintro e u' w'' ⟨rfl, rfl, rfl⟩
      refine ⟨_, results_tmp3 rfl _ _ _, HT.out _ _ rfl ?_⟩
      have := S2.out.unlock
      rwa [show ({ ({ L with lk := 1 } : Lay) with lk := 0 } : Lay) = L from unlk HL.out] at this
  | some m =>
    obtain ⟨hm, -, -, h0⟩ := find_mem hfd
    rw [hfd, h0] at F
    change Calls Tryz.prog 47 _ _ fun e w' => e = .returned (.tuple #[.pointer (some ⟨m.blk, 0, none⟩), .int .i64 0]) ∧ _ at F
    have hus := g.used m hm
    obtain ⟨hu1, hu2⟩ := hus
    have F2 := Lib.hid F
    have HM := Lib.hid hm
    by_cases hu : m.used = 2147483647
    · have hgv : L.take nm v = (L, none, 4) := by unfold Lay.take; rw [hfd]; simp [hu]
      have hT : ∀ e w', e = .returned (.tuple #[.slice none 0 0, .int .i64 0, .int .i64 4]) → Step B w w' p L L → TakeP B p w L nm v e w' := fun e w' h1 h2 => by
        unfold TakeP
        rw [hgv]
        exact ⟨h2, h1⟩
      have HT := Lib.hid hT
      have HU := Lib.hid hu
      clear h hblk hl s1 F hfd hgv hm hu hT
      go_enter_defers Tryz.func20, Tryz.ntmps20
      go_wp2_with (go_at_call 33; refine (lock_free Tryz.muLib ⟨p, 0, none⟩ _ c0 f0).mono ?_; rintro e w' ⟨rfl, rfl⟩)
      refine F2.out.mono ?_
      rintro e w2 ⟨rfl, hb⟩
      have S2 := Lib.hid (S1.out.trans (Step.refl S1.out.is hb))
      have d3 : w2.cell? ⟨m.blk, 3, none⟩ = some (.int .i64 2147483647) := by rw [Lib.cell_of_heap (S2.out.is.mods m HM.out).1, ← HU.out]; rfl
      clear hb
      go_wp2
      refine leaves_cons (f := 34) (args := #[.pointer (some ⟨p, 0, none⟩)]) (by simp) (by simp [go_sem]) ?_
      refine (unlock_deferred Tryz.muLib ⟨p, 0, none⟩ .returning _ S2.out.is.lockCell.1 S2.out.is.lockCell.2).mono ?_
      rintro e u' w'' ⟨rfl, rfl, rfl⟩
      refine ⟨_, results_tmp3 rfl _ _ _, HT.out _ _ rfl ?_⟩
      have := S2.out.unlock
      rwa [show ({ ({ L with lk := 1 } : Lay) with lk := 0 } : Lay) = L from unlk HL.out] at this
    · have hgv : L.take nm v = ({ L with touch := L.touch + 1, ms := (L.ms.map (setUsed m.blk (m.used + 1))).map (setTouched m.blk (L.touch + 1)) }, some m, 0) := by unfold Lay.take; rw [hfd]; simp [hu]
      have hT : ∀ e w', (∃ v', e = .returned (.tuple #[v', .int .i64 m.ver, .int .i64 0]) ∧ w'.ownsRow w.heap.size 5 1 v' m.dat.length (m.dat.map encB) ∧ ∀ k, v'.ownBlock = some k → ¬ Foot p { L with touch := L.touch + 1, ms := (L.ms.map (setUsed m.blk (m.used + 1))).map (setTouched m.blk (L.touch + 1)) } k) →
          Step B w w' p L { L with touch := L.touch + 1, ms := (L.ms.map (setUsed m.blk (m.used + 1))).map (setTouched m.blk (L.touch + 1)) } → TakeP B p w L nm v e w' := fun e w' h1 h2 => by
        unfold TakeP
        rw [hgv]
        exact ⟨h2, h1⟩
      have HT := Lib.hid hT
      have hub : (m.used == 2147483647) = false := by simp [hu]
      have ht0 := g.touch
      have hmd := g.size_le (m := m) hm
      have hmf := g.fits
      have hmr := g.room.2
      clear h hblk hl s1 F hfd hgv hm hu hT
      go_enter_defers Tryz.func20, Tryz.ntmps20
      go_wp2_with (go_at_call 33; refine (lock_free Tryz.muLib ⟨p, 0, none⟩ _ c0 f0).mono ?_; rintro e w' ⟨rfl, rfl⟩)
      refine F2.out.mono ?_
      rintro e w2 ⟨rfl, hb⟩
      have S2 := Lib.hid (S1.out.trans (Step.refl S1.out.is hb))
      have d3 : w2.cell? ⟨m.blk, 3, none⟩ = some (.int .i64 m.used) := by rw [Lib.cell_of_heap (S2.out.is.mods m HM.out).1]; rfl
      have df : w2.frozen? ⟨m.blk, 3, none⟩ = false := Lib.frozen_of_heap (S2.out.is.mods m HM.out).1 _
      have S3 := Lib.hid (S2.out.trans (S2.out.is.putUsed (m := m) HM.out (m.used + 1)))
      clear hb
      have hm1 : ({ m with used := m.used + 1 } : LM) ∈ L.ms.map (setUsed m.blk (m.used + 1)) := List.mem_map.2 ⟨m, HM.out, by simp [setUsed]⟩
      have hm2 : ({ m with used := m.used + 1, touched := L.touch + 1 } : LM) ∈ (L.ms.map (setUsed m.blk (m.used + 1))).map (setTouched m.blk (L.touch + 1)) := List.mem_map.2 ⟨_, hm1, by simp [setTouched]⟩
      have HM1 := Lib.hid hm1
      have HM2 := Lib.hid hm2
      clear hm1 hm2
      go_wp2_with fail
      refine (wanted_step S3.out.is (m := { m with used := m.used + 1 }) HM1.out ⟨ht0, htc⟩).mono ?_
      rintro e w4 ⟨rfl, st4⟩
      have S4 := Lib.hid (S3.out.trans st4)
      have h4 := S4.out.is.mods _ HM2.out
      obtain ⟨hd4, hr4⟩ := h4
      have C : ∀ W : World, W.heap = w4.heap → Calls Tryz.prog 49 #[m.val] W fun e w' => ∃ v', e = .returned v' ∧ w'.ownsRow w4.heap.size 5 1 v' m.dat.length (m.dat.map encB) ∧ Below w4.heap.size W w' ∧ (w'.cell? ⟨m.blk, 1, none⟩ = some (.int .i64 m.ver) ∧ w'.cell? ⟨m.blk, 2, none⟩ = some m.val) := fun W hW => by
        have hr : W.ownsRow B 5 1 m.val m.dat.length (m.dat.map encB) := by unfold World.ownsRow at hr4 ⊢; rw [hW]; exact hr4
        refine (clone_any B m.val m.dat W (RdB.of_row hr) (by omega)).mono fun e w' ⟨v', h1, h2, h3⟩ => ⟨v', h1, by rw [← hW]; exact h2, by rw [← hW]; exact h3, ?_⟩
        have h4 : w'.heap[m.blk]? = some (.cells #[.string m.name, .int .i64 m.ver, m.val, .int .i64 (m.used + 1), .int .i64 (L.touch + 1)] 93 (0, 0)) := by
          rw [h3.block _ (by rw [hW]; exact (Array.getElem?_eq_some_iff.1 hd4).1), hW]
          exact hd4
        exact ⟨by rw [Lib.cell_of_heap h4]; rfl, by rw [Lib.cell_of_heap h4]; rfl⟩
      have HC := Lib.hid C
      obtain ⟨A, c, hval⟩ := row_len hr4
      have e1 : w4.cell? ⟨m.blk, 1, none⟩ = some (.int .i64 m.ver) := by rw [Lib.cell_of_heap hd4]; rfl
      have e2 : w4.cell? ⟨m.blk, 2, none⟩ = some m.val := by rw [Lib.cell_of_heap hd4]; rfl
      have HV := Lib.hid hval
      clear st4 hd4 hr4 hval C
      generalize hmv : m.val = mv at e2 HC
      have HMV := Lib.hid hmv
      clear hmv
      go_wp2_with fail
      go_region_held3 (fun w' => w'.cell? ⟨m.blk, 1, none⟩ = some (.int .i64 m.ver) ∧ w'.cell? ⟨m.blk, 2, none⟩ = some mv) (go_keep) ((go_at_call 49; refine (HC.out _ (by rfl)).mono ?_; rintro e w5 ⟨v', rfl, hr5, hb5, k1, k2⟩; have HR5 := Lib.hid hr5; have HB5 := Lib.hid hb5; clear hr5 hb5))
      go_wp2
      have bw : Below w4.heap.size w4 w5 := (show Below w4.heap.size w4 w4.drew from ⟨rfl, rfl, rfl, Nat.le_refl _, fun _ _ => rfl⟩).trans HB5.out
      have S5 := Lib.hid (S4.out.trans (Step.refl S4.out.is bw))
      refine leaves_cons (f := 34) (args := #[.pointer (some ⟨p, 0, none⟩)]) (by simp) (by simp [go_sem]) ?_
      refine (unlock_deferred Tryz.muLib ⟨p, 0, none⟩ .returning _ S5.out.is.lockCell.1 S5.out.is.lockCell.2).mono ?_
      rintro e u' w'' ⟨rfl, rfl, rfl⟩
      have hfoot : ∀ k, v'.ownBlock = some k → w4.heap.size ≤ k := fun k hk => (row_ty HR5.out hk).1
      have hsz : w.heap.size ≤ w4.heap.size := S4.out.size
      refine ⟨_, results_tmp3 rfl _ _ _, HT.out _ _ ⟨v', rfl, row_base (row_far HR5.out (Same.set (S := fun k => k = p) _ _ _ rfl) fun k hk e => ?_) hsz, fun k hk hF => ?_⟩ ?_⟩
      · have h1 := hfoot k hk
        have h2 := S4.out.is.lt (k := p) (.inl rfl)
        omega
      · have h1 := hfoot k hk
        have h2 := S4.out.is.foot_lt (k := k) hF
        omega
      · have := S5.out.unlock
        have e := unlk (L := { L with touch := L.touch + 1, ms := (L.ms.map (setUsed m.blk (m.used + 1))).map (setTouched m.blk (L.touch + 1)) }) HL.out
        rw [← e]
        exact this
end Go.Proofs.YtancenklmfamnaaGreat.Sh
