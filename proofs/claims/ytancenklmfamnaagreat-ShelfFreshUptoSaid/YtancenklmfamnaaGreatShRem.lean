/- (*Shelf).remove. -/
import Derived.Test.YtancenklmfamnaaGreatShMaps
import Derived.WalkSpells
import Derived.Deep.QuietTactic
import Derived.BigQuiet
import Derived.StillTailTactics
set_option linter.unusedVariables false
set_option linter.unusedSimpArgs false
namespace Go.Proofs.YtancenklmfamnaaGreat.Sh
open Go.RowKit Go.Maps Go.Sort Go.Shelf
open Go.Proofs

def Lay.rem1 (L : Lay) (m : LM) : Lay := if (L.drop m).nOf m.name = 0 then { L.drop m with inn := L.inn.filter fun x => decide (x.1 ≠ m.name) } else L.drop m
def Lay.rem (L : Lay) (m : LM) : Lay := { L.rem1 m with bytes := L.bytes - m.dat.length, count := L.count - 1 }

theorem ShelfIs.home {B p : Nat} {W : World} {L : Lay} (h : ShelfIs B W p L) {m : LM} (hm : m ∈ L.ms) : ∃ ib, L.innOf m.name = some ib := by
  obtain ⟨x, hx, e⟩ := List.mem_map.1 (h.homed m hm)
  exact ⟨x.2, e ▸ h.inn_of hx⟩
theorem row_len {W : World} {B n : Nat} {t : TypeId} {v : Value} {xs : List Value} (h : W.ownsRow B t 1 v n xs) : ∃ A c, v = .slice A n c := by
  rcases h.2 with ⟨rfl, h0⟩ | ⟨b, cp, cur, rfl, _⟩
  · exact ⟨none, 0, by rw [h0]⟩
  · exact ⟨_, _, rfl⟩
theorem wf_of {v : Int} (h : 1 ≤ v ∧ v ≤ 4611686018427387904) : (Lit.int .i64 v).wf = true := by
  have e1 : IntKind.i64.min = -9223372036854775808 := by decide +kernel
  have e2 : IntKind.i64.max = 9223372036854775807 := by decide +kernel
  simp only [Lit.wf, e1, e2, Bool.and_eq_true, decide_eq_true_eq]
  omega
theorem Same.drewN {S : Nat → Prop} (w : World) (n : Nat) : Same S w (w.drewN n) := ⟨rfl, rfl, rfl, Nat.le_refl _, fun _ _ _ => rfl⟩
theorem ShelfIs.drewN {B p : Nat} {W : World} {L : Lay} (h : ShelfIs B W p L) (n : Nat) : ShelfIs B (W.drewN n) p L := h.aside (S := fun _ => False) (Same.drewN W n) (fun _ _ h => h)
theorem Step.drewN {B p : Nat} {W : World} {L : Lay} (h : ShelfIs B W p L) (n : Nat) : Step B W (W.drewN n) p L L := ⟨Same.drewN W n, h.drewN n, fun _ h => .inl h, fun _ h => .inl h⟩

theorem nOf_drop_iff {B p : Nat} {W : World} {L : Lay} (h : ShelfIs B W p L) (nm : ByteArray) : L.nOf nm = 0 ↔ ∀ x ∈ L.ms, x.name ≠ nm := by
  simp [Lay.nOf, List.filter_eq_nil_iff]

set_option maxHeartbeats 4000000 in
set_option maxRecDepth 1000000 in
theorem remove_any (B p : Nat) (L : Lay) (w : World) (h : ShelfIs B w p L) (m : LM) (hm : m ∈ L.ms) (hnm : m.name.size ≤ maxLen) (hv : (Lit.int .i64 m.ver).wf = true) (hb : (m.dat.length : Int) ≤ L.bytes ∧ L.bytes ≤ 1099511627776) (hcn : 1 ≤ L.count ∧ L.count ≤ 256) :
    Calls Tryz.prog 50 #[.pointer (some ⟨p, 0, none⟩), .pointer (some ⟨m.blk, 0, none⟩)] w fun e w' => e = .returned (.tuple #[]) ∧ Step B w w' p L (L.rem m) := by
  obtain ⟨ib, hib⟩ := h.home hm
  obtain ⟨hb1, hb2⟩ := hb
  obtain ⟨hc1, hc2⟩ := hcn
  obtain ⟨sem, hblk⟩ := h.blk
  obtain ⟨hmd, hrow⟩ := h.mods m hm
  obtain ⟨A, c, hval⟩ := row_len hrow
  have hlo : ∀ nq, (Instr.lookup 85 (.map (some L.mm)) (.string m.name) false).run Tryz.prog (w.drewN nq) = .ok (.map (some ib)) (w.drewN nq) := fun nq => by rw [← hib]; exact (h.drewN nq).lookOuter m.name hnm
  have c6 : w.cell? ⟨p, 6, none⟩ = some (.map (some L.mm)) := by rw [Lib.cell_of_heap hblk]; rfl
  have d0 : w.cell? ⟨m.blk, 0, none⟩ = some (.string m.name) := by rw [Lib.cell_of_heap hmd]; rfl
  have d1 : w.cell? ⟨m.blk, 1, none⟩ = some (.int .i64 m.ver) := by rw [Lib.cell_of_heap hmd]; rfl
  have HH := Lib.hid h
  have HV := Lib.hid hval
  have HB := Lib.hid hib
  clear h hblk hmd hrow hval hib
  go_enter Tryz.func50, Tryz.ntmps50
  go_wp2_with fail
  go_quiet (fail)
  rename_i nq
  obtain ⟨W1, hdel, st1, sm1⟩ := (HH.out.drewN nq).delMod hm HB.out hv 0
  have h1 := st1.is
  have hlen := h1.lenInner (nm := m.name) (b := ib) HB.out 3
  have hmd1 : W1.heap[m.blk]? = some (.cells #[.string m.name, .int .i64 m.ver, m.val, .int .i64 m.used, .int .i64 m.touched] 93 (0, 0)) := sm1.at (HH.out.mods m hm).1 (fun e => by
    obtain ⟨n, D, _, ho, _⟩ := HH.out.inner _ (HH.out.inn_mem HB.out)
    exact (HH.out.map_block ho).2 (e ▸ List.mem_map_of_mem hm))
  obtain ⟨sem1, hblk1⟩ := h1.blk
  have c6' : W1.cell? ⟨p, 6, none⟩ = some (.map (some L.mm)) := by rw [Lib.cell_of_heap hblk1]; rfl
  have c3' : W1.cell? ⟨p, 3, none⟩ = some (.int .i64 L.bytes) := by rw [Lib.cell_of_heap hblk1]; rfl
  have c4' : W1.cell? ⟨p, 4, none⟩ = some (.int .i64 L.count) := by rw [Lib.cell_of_heap hblk1]; rfl
  have e0 : W1.cell? ⟨m.blk, 0, none⟩ = some (.string m.name) := by rw [Lib.cell_of_heap hmd1]; rfl
  have e2 : W1.cell? ⟨m.blk, 2, none⟩ = some (.slice A m.dat.length c) := by rw [Lib.cell_of_heap hmd1, ← HV.out]; rfl
  have ST1 := Lib.hid st1
  have HMD1 := Lib.hid hmd1
  have HB1 := Lib.hid hblk1
  have H1 := Lib.hid h1
  clear st1 sm1 hmd1 hblk1 h1 hlo d0 c6
  have hw2 : ShelfIs B W1.drew p (L.drop m) := H1.out.drewN 1
  by_cases hn : (L.drop m).nOf m.name = 0
  · have hno : ∀ x ∈ (L.drop m).ms, x.name ≠ m.name := (nOf_drop_iff H1.out m.name).1 hn
    obtain ⟨W2, hdel2, st2, sm2⟩ := hw2.delInn hnm hno 0
    have hmd2 := sm2.at (show W1.drew.heap[m.blk]? = _ from HMD1.out) (fun e => by
      obtain ⟨n, D, _, ho, _⟩ := H1.out.outer
      obtain ⟨es, clock, o1, _⟩ := ho
      rw [e] at HMD1
      have := HMD1.out.symm.trans o1
      cases this)
    obtain ⟨sem2, hblk2⟩ := st2.is.blk
    have q3 : W2.cell? ⟨p, 3, none⟩ = some (.int .i64 L.bytes) := by rw [Lib.cell_of_heap hblk2]; rfl
    have q4 : W2.cell? ⟨p, 4, none⟩ = some (.int .i64 L.count) := by rw [Lib.cell_of_heap hblk2]; rfl
    have q2 : W2.cell? ⟨m.blk, 2, none⟩ = some (.slice A m.dat.length c) := by rw [Lib.cell_of_heap hmd2, ← HV.out]; rfl
    have f3 : W2.frozen? ⟨p, 3, none⟩ = false := Lib.frozen_of_heap hblk2 _
    have f4 : W2.frozen? ⟨p, 4, none⟩ = false := Lib.frozen_of_heap hblk2 _
    have ST2 : Hid (Step B w W2 p L (L.rem1 m)) := Lib.hid (by
      unfold Lay.rem1
      rw [if_pos hn]
      exact ((Step.drewN HH.out nq).trans (ST1.out.trans (Step.drewN H1.out 1))).trans st2)
    rw [hn] at hlen
    change (Builtin.delete_ #[85, 9] 0 #[.map (some L.mm), .string m.name]).run Tryz.prog W1.drew = _ at hdel2
    clear hw2 st2 sm2 hmd2 hblk2 hno
    go_wp2_with fail
    go_still_tail 8, (by kernel_rfl)
    change wpList _ _ _ _ _ W1.drew
    go_wp2_with fail
    go_still_tail 12, (by kernel_rfl)
    change wpList _ _ _ _ _ W2.drew
    go_wp2_with fail
    go_end0
    refine ⟨rfl, ?_⟩
    have s1 := ST2.out.trans (ST2.out.is.setBytes (L.bytes - m.dat.length))
    have s2 := s1.trans (s1.is.setCount (L.count - 1))
    exact s2.trans (Step.drewN s2.is 1)
  · have q2 : W1.cell? ⟨m.blk, 2, none⟩ = some (.slice A m.dat.length c) := e2
    have f3 : W1.frozen? ⟨p, 3, none⟩ = false := Lib.frozen_of_heap HB1.out _
    have f4 : W1.frozen? ⟨p, 4, none⟩ = false := Lib.frozen_of_heap HB1.out _
    have ST2 : Hid (Step B w W1 p L (L.rem1 m)) := Lib.hid (by
      unfold Lay.rem1
      rw [if_neg hn]
      exact (Step.drewN HH.out nq).trans ST1.out)
    have hd : (((L.drop m).nOf m.name : Int) == 0) = false := by rw [beq_eq_false_iff_ne]; omega
    clear hw2
    go_wp2_with fail
    go_still_tail 12, (by kernel_rfl)
    change wpList _ _ _ _ _ W1.drew
    go_wp2_with fail
    go_end0
    refine ⟨rfl, ?_⟩
    have s1 := ST2.out.trans (ST2.out.is.setBytes (L.bytes - m.dat.length))
    have s2 := s1.trans (s1.is.setCount (L.count - 1))
    exact s2.trans (Step.drewN s2.is 1)
end Go.Proofs.YtancenklmfamnaaGreat.Sh
