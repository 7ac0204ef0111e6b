/- The document's shelf in memory. The document's shelf: last, find, place. The document's shelf: the plain laws of size, oldest, without, and of the models that go. -/
import Derived.Test.YtancenklmfamnaaGreatShBase
import Derived.Test.YtancenklmfamnaaGreatVRef
import Derived.Deep.QuietTactic
import Derived.BigQuiet
import Derived.Deep.CutBlock
set_option linter.unusedVariables false
set_option linter.unusedSimpArgs false
namespace Go.Proofs.YtancenklmfamnaaGreat.Sh
open Go.RowKit Go.Maps Go.Sort Go.Shelf
open Go.Proofs Go.MuLone
open Go.Proofs.YtancenklmfamnaaGreatW.PrintWords (Reps OwnRow Kd)
open PShelfPlays (S70 S104 S115 k70 k104 k115)

def DS (F : Nat → Prop) (g : Nat) (A2 : Option Addr) (k : Nat) : Prop := F k ∧ k ≠ g ∧ A2.map (·.block) ≠ some k
/-- the document's shelf at g; all that it holds lies in F -/
structure RefAt (B : Nat) (w : World) (g : Nat) (F : Nat → Prop) (room clock : Int) (ms : List S104) (ls : List S115) (A1 : Option Addr) (n1 c1 : Nat) (A2 : Option Addr) (n2 c2 : Nat) : Prop where
  blk : w.heap[g]? = some (.cells #[.int .i64 room, .slice A1 n1 c1, .slice A2 n2 c2, .int .i64 clock] 102 (0, 0))
  mods : Kd.N k104 104 w B (DS F g A2) (.slice A1 n1 c1) ms
  lasts : Kd.N k115 115 w B (fun k => F k ∧ k ≠ g) (.slice A2 n2 c2) ls
  self : F g
  foot : ∀ k, F k → B ≤ k ∧ k < w.heap.size
def RefIs (B : Nat) (w : World) (g : Nat) (F : Nat → Prop) (room clock : Int) (ms : List S104) (ls : List S115) : Prop := ∃ A1 n1 c1 A2 n2 c2, RefAt B w g F room clock ms ls A1 n1 c1 A2 n2 c2
/-- from world to world: what was written, and where all lies now -/
def RStep (w w' : World) (F F' : Nat → Prop) : Prop := Same F w w' ∧ ∀ k, F' k → F k ∨ w.heap.size ≤ k
theorem RStep.refl (w : World) (F : Nat → Prop) : RStep w w F F := ⟨Same.refl _, fun k hk => .inl hk⟩
theorem RStep.below {w w' : World} {F : Nat → Prop} (h : Below w.heap.size w w') : RStep w w' F F := ⟨Same.below h, fun k hk => .inl hk⟩
theorem RStep.trans {a b c : World} {F F' F'' : Nat → Prop} (h : RStep a b F F') (k : RStep b c F' F'') : RStep a c F F'' := by
  refine ⟨⟨k.1.1.trans h.1.1, k.1.2.1.trans h.1.2.1, k.1.2.2.1.trans h.1.2.2.1, Nat.le_trans h.1.2.2.2.1 k.1.2.2.2.1, fun i hi hS => ?_⟩, fun i hi => ?_⟩
  · refine (k.1.2.2.2.2 i (Nat.lt_of_lt_of_le hi h.1.2.2.2.1) fun e => ?_).trans (h.1.2.2.2.2 i hi hS)
    rcases h.2 i e with h1 | h1
    · exact hS h1
    · omega
  · rcases k.2 i hi with h1 | h1
    · exact h.2 i h1
    · exact .inr (Nat.le_trans h.1.2.2.2.1 h1)
theorem RStep.drewN (w : World) (F : Nat → Prop) (n : Nat) : RStep w (w.drewN n) F F := RStep.below (below_drewN (Below.refl _ _) n)
section
variable {B g n1 c1 n2 c2 : Nat} {w w' : World} {F : Nat → Prop} {room clock : Int} {ms : List S104} {ls : List S115} {A1 A2 : Option Addr}
theorem RefAt.off {S : Nat → Prop} (t : RefAt B w g F room clock ms ls A1 n1 c1 A2 n2 c2) (hs : Same S w w') (hf : ∀ k, F k → ¬ S k) : RefAt B w' g F room clock ms ls A1 n1 c1 A2 n2 c2 :=
  ⟨hs.at t.blk (hf g t.self), Kd.N_step t.mods fun k hk hlt => hs.2.2.2.2 k hlt (hf k hk.1), Kd.N_step t.lasts fun k hk hlt => hs.2.2.2.2 k hlt (hf k hk.1), t.self, fun k hk => ⟨(t.foot k hk).1, Nat.lt_of_lt_of_le (t.foot k hk).2 hs.2.2.2.1⟩⟩
theorem RefAt.below (t : RefAt B w g F room clock ms ls A1 n1 c1 A2 n2 c2) (hb : Below w.heap.size w w') : RefAt B w' g F room clock ms ls A1 n1 c1 A2 n2 c2 := t.off (S := fun _ => False) (Same.below hb) fun _ _ h => h
theorem RefIs.off {S : Nat → Prop} (t : RefIs B w g F room clock ms ls) (hs : Same S w w') (hf : ∀ k, F k → ¬ S k) : RefIs B w' g F room clock ms ls := by
  obtain ⟨A1, n1, c1, A2, n2, c2, h⟩ := t
  exact ⟨A1, n1, c1, A2, n2, c2, h.off hs hf⟩
theorem RefIs.below (t : RefIs B w g F room clock ms ls) (hb : Below w.heap.size w w') : RefIs B w' g F room clock ms ls := t.off (S := fun _ => False) (Same.below hb) fun _ _ h => h
theorem RefIs.foot (t : RefIs B w g F room clock ms ls) : ∀ k, F k → B ≤ k ∧ k < w.heap.size := by
  obtain ⟨A1, n1, c1, A2, n2, c2, h⟩ := t
  exact h.foot
theorem RefAt.len1 (t : RefAt B w g F room clock ms ls A1 n1 c1 A2 n2 c2) : n1 = ms.length ∧ n1 ≤ c1 := ⟨(Kd.N_reads' t.mods).1, (Kd.N_reads' t.mods).2.1⟩
theorem RefAt.len2 (t : RefAt B w g F room clock ms ls A1 n1 c1 A2 n2 c2) : n2 = ls.length ∧ n2 ≤ c2 := ⟨(Kd.N_reads' t.lasts).1, (Kd.N_reads' t.lasts).2.1⟩
theorem RefAt.cells (t : RefAt B w g F room clock ms ls A1 n1 c1 A2 n2 c2) : w.cell? ⟨g, 0, none⟩ = some (.int .i64 room) ∧ w.cell? ⟨g, 1, none⟩ = some (.slice A1 n1 c1) ∧ w.cell? ⟨g, 2, none⟩ = some (.slice A2 n2 c2) ∧ w.cell? ⟨g, 3, none⟩ = some (.int .i64 clock) ∧ ∀ i, w.frozen? ⟨g, i, none⟩ = false := by
  refine ⟨?_, ?_, ?_, ?_, fun i => Lib.frozen_of_heap t.blk _⟩ <;> rw [Lib.cell_of_heap t.blk] <;> rfl
/-- a model, by its place -/
theorem RefAt.mod (t : RefAt B w g F room clock ms ls A1 n1 c1 A2 n2 c2) {i : Nat} {x : S104} (hx : ms[i]? = some x) :
    i < n1 ∧ ∃ gm, A1 = some ⟨gm, 0, none⟩ ∧ DS F g A2 gm ∧ w.cell? ⟨gm, i * 5, none⟩ = some (.string x.f0) ∧ w.cell? ⟨gm, i * 5 + 1, none⟩ = some (.int .i64 x.f1) ∧ w.cell? ⟨gm, i * 5 + 3, none⟩ = some (.int .i64 x.f3) ∧ w.cell? ⟨gm, i * 5 + 4, none⟩ = some (.int .i64 x.f4) ∧
      (∀ j, w.frozen? ⟨gm, i * 5 + j, none⟩ = false) ∧ ∃ Ad cd, w.cell? ⟨gm, i * 5 + 2, none⟩ = some (.slice Ad x.f2.length cd) ∧ x.f2.length ≤ cd ∧ Kd.F (Kd.int .u8) w (fun k => DS F g A2 k ∧ k ≠ gm) Ad x.f2.length x.f2 := by
  have hi := (List.getElem?_eq_some_iff.1 hx).1
  have hn := t.len1.1
  obtain ⟨gm, cap, e, _, _, _⟩ := Kd.N_form t.mods (by omega)
  injection e with e1 e2 e3
  subst e1
  obtain ⟨c, h1, h2, h3, h4⟩ := Kd.N_elem t.mods PShelfPlays.z104 (i : Int) (by omega) (by omega)
  have hgd : ms.getD i PShelfPlays.z104 = x := by rw [List.getD_eq_getElem?_getD, hx]; rfl
  rw [Int.toNat_natCast, hgd] at h2
  rw [Int.toNat_natCast] at h3 h4
  have sz : k104.sz = 5 := rfl
  rw [sz] at h3 h4
  obtain ⟨Ad, cd, rfl, l2, hF⟩ := PShelfPlays.k104_openF h2
  exact ⟨by omega, gm, rfl, t.mods.1 gm rfl, h3 0 _ rfl, h3 1 _ rfl, h3 3 _ rfl, h3 4 _ rfl, h4, Ad, cd, h3 2 _ rfl, l2, hF⟩
theorem RefAt.modSet {gm : Nat} (t : RefAt B w g F room clock ms ls (some ⟨gm, 0, none⟩) n1 c1 A2 n2 c2) {i : Nat} {x : S104} (hx : ms[i]? = some x) (u : Int) :
    RefAt B (w.setCell ⟨gm, i * 5 + 3, none⟩ (.int .i64 u)) g F room clock (ms.set i { x with f3 := u }) ls (some ⟨gm, 0, none⟩) n1 c1 A2 n2 c2 ∧ RefAt B (w.setCell ⟨gm, i * 5 + 4, none⟩ (.int .i64 u)) g F room clock (ms.set i { x with f4 := u }) ls (some ⟨gm, 0, none⟩) n1 c1 A2 n2 c2 := by
  have hi := (List.getElem?_eq_some_iff.1 hx).1
  have hn := t.len1.1
  obtain ⟨c, h1, h2, h3, h4⟩ := Kd.N_elem t.mods PShelfPlays.z104 (i : Int) (by omega) (by omega)
  have hgd : ms.getD i PShelfPlays.z104 = x := by rw [List.getD_eq_getElem?_getD, hx]; rfl
  rw [Int.toNat_natCast, hgd] at h2
  obtain ⟨Ad, cd, rfl, l2, hF⟩ := PShelfPlays.k104_openF h2
  have sz : k104.sz = 5 := rfl
  have hgm := t.mods.1 gm rfl
  have far : ∀ (j : Nat) (v : Value), RefAt B (w.setCell ⟨gm, j, none⟩ v) g F room clock ms ls (some ⟨gm, 0, none⟩) n1 c1 A2 n2 c2 → True := fun _ _ _ => trivial
  have hl2 : ∀ (j : Nat) (v : Value), Kd.N k115 115 (w.setCell ⟨gm, j, none⟩ v) B (fun k => F k ∧ k ≠ g) (.slice A2 n2 c2) ls := fun j v => by
    have h5 : Kd.N k115 115 w B (fun k => (F k ∧ k ≠ g) ∧ A2.map (·.block) = some k) (.slice A2 n2 c2) ls := by
      obtain ⟨q1, rows, q2, q3, q4⟩ := t.lasts
      refine ⟨fun k hk => ⟨q1 k hk, by cases A2 <;> simp [Value.ownBlock] at hk ⊢; exact hk⟩, rows, q2, q3, fun j x c hx hc => ?_⟩
      have h6 := q4 j x c hx hc
      have h7 := PShelfPlays.k115_open (Kd.FK_now h6)
      subst h7
      exact PShelfPlays.k115_mkF _ _ _
    exact Kd.N_mono (Kd.N_far h5 (fun k hk e => hgm.2.2 (by have e' : k = gm := e; rw [← e']; exact hk.2)) v) fun k hk => hk.1
  have hblk : ∀ (j : Nat) (v : Value), (w.setCell ⟨gm, j, none⟩ v).heap[g]? = some (.cells #[.int .i64 room, .slice (some ⟨gm, 0, none⟩) n1 c1, .slice A2 n2 c2, .int .i64 clock] 102 (0, 0)) := fun j v => by
    rw [Below.heap_setCell w ⟨gm, j, none⟩ v g (fun e => hgm.2.1 e.symm)]
    exact t.blk
  have hfo : ∀ (j : Nat) (v : Value), ∀ k, F k → B ≤ k ∧ k < (w.setCell ⟨gm, j, none⟩ v).heap.size := fun j v k hk => ⟨(t.foot k hk).1, by simpa [World.setCell] using (t.foot k hk).2⟩
  constructor
  · have := (Kd.N_seg t.mods (i : Int) (by omega) (by omega) (c := [.string x.f0, .int .i64 x.f1, .slice Ad x.f2.length cd, .int .i64 x.f3, .int .i64 x.f4]) (seg := [.int .i64 u]) (j := 3) h1 h3 (by rw [sz]; exact (by decide : 3 + 1 ≤ 5)) (x' := { x with f3 := u }) (okp := fun k => DS F g A2 k ∧ k ≠ gm) (PShelfPlays.k104_mkF w _ { x with f3 := u } l2 hF) (fun k hk => hk)).1
    rw [Int.toNat_natCast, sz] at this
    exact ⟨hblk _ _, this, hl2 _ _, t.self, hfo _ _⟩
  · have := (Kd.N_seg t.mods (i : Int) (by omega) (by omega) (c := [.string x.f0, .int .i64 x.f1, .slice Ad x.f2.length cd, .int .i64 x.f3, .int .i64 x.f4]) (seg := [.int .i64 u]) (j := 4) h1 h3 (by rw [sz]; exact (by decide : 4 + 1 ≤ 5)) (x' := { x with f4 := u }) (okp := fun k => DS F g A2 k ∧ k ≠ gm) (PShelfPlays.k104_mkF w _ { x with f4 := u } l2 hF) (fun k hk => hk)).1
    rw [Int.toNat_natCast, sz] at this
    exact ⟨hblk _ _, this, hl2 _ _, t.self, hfo _ _⟩
theorem RefAt.clk (t : RefAt B w g F room clock ms ls A1 n1 c1 A2 n2 c2) (u : Int) : RefAt B (w.setCell ⟨g, 3, none⟩ (.int .i64 u)) g F room u ms ls A1 n1 c1 A2 n2 c2 := by
  refine ⟨?_, Kd.N_far t.mods (fun k hk => hk.2.1) _, Kd.N_far t.lasts (fun k hk => hk.2) _, t.self, fun k hk => ⟨(t.foot k hk).1, by simpa [World.setCell] using (t.foot k hk).2⟩⟩
  have := YtancenklmfamnaaGreatW.PrintWords.blk_set t.blk 3 (.int .i64 u)
  simpa using this
/-- a name, by its place -/
theorem RefAt.last (t : RefAt B w g F room clock ms ls A1 n1 c1 A2 n2 c2) {i : Nat} {x : S115} (hx : ls[i]? = some x) :
    i < n2 ∧ ∃ gl, A2 = some ⟨gl, 0, none⟩ ∧ F gl ∧ gl ≠ g ∧ w.cell? ⟨gl, i * 2, none⟩ = some (.string x.f0) ∧ w.cell? ⟨gl, i * 2 + 1, none⟩ = some (.int .i64 x.f1) ∧ (∀ j, w.frozen? ⟨gl, i * 2 + j, none⟩ = false) ∧
      ∀ u : Int, RefAt B (w.setCell ⟨gl, i * 2 + 1, none⟩ (.int .i64 u)) g F room clock ms (ls.set i { x with f1 := u }) A1 n1 c1 A2 n2 c2 := by
  have hi := (List.getElem?_eq_some_iff.1 hx).1
  have hn := t.len2.1
  obtain ⟨gl, cap, e, _, _, _⟩ := Kd.N_form t.lasts (by omega)
  injection e with e1 e2 e3
  subst e1
  obtain ⟨c, h1, h2, h3, h4⟩ := Kd.N_elem t.lasts PShelfPlays.z115 (i : Int) (by omega) (by omega)
  have hgd : ls.getD i PShelfPlays.z115 = x := by rw [List.getD_eq_getElem?_getD, hx]; rfl
  rw [Int.toNat_natCast, hgd] at h2
  have sz : k115.sz = 2 := rfl
  have h5 := PShelfPlays.k115_open (Kd.FK_now h2)
  subst h5
  have hgl := t.lasts.1 gl rfl
  refine ⟨by omega, gl, rfl, hgl.1, hgl.2, ?_, ?_, ?_, fun u => ?_⟩
  · have := h3 0 _ rfl; rwa [Int.toNat_natCast, sz] at this
  · have := h3 1 _ rfl; rwa [Int.toNat_natCast, sz] at this
  · rw [Int.toNat_natCast, sz] at h4; exact h4
  · have := (Kd.N_seg t.lasts (i : Int) (by omega) (by omega) (c := [.string x.f0, .int .i64 x.f1]) (seg := [.int .i64 u]) (j := 1) h1 h3 (by rw [sz]; exact (by decide : 1 + 1 ≤ 2)) (x' := { x with f1 := u }) (okp := fun _ => False) (PShelfPlays.k115_mkF w _ { x with f1 := u }) (fun k hk => hk.elim)).1
    rw [Int.toNat_natCast, sz] at this
    refine ⟨?_, Kd.N_far t.mods (fun k hk e => hk.2.2 (by rw [e]; rfl)) _, this, t.self, fun k hk => ⟨(t.foot k hk).1, by simpa [World.setCell] using (t.foot k hk).2⟩⟩
    rw [Below.heap_setCell w ⟨gl, _, none⟩ _ g (fun e => hgl.2 e.symm)]
    exact t.blk
end
end Go.Proofs.YtancenklmfamnaaGreat.Sh
namespace Go.Proofs.YtancenklmfamnaaGreat.Sh
open Go.RowKit Go.Maps Go.Sort Go.Shelf
open Go.Proofs Go.MuLone
open Go.Proofs.YtancenklmfamnaaGreatW.PrintWords (Reps OwnRow Kd)
open PShelfPlays (S70 S104 S115 k70 k104 k115)

def LastR (ls : List S115) (nm : ByteArray) (r : Int) : Prop := (r = -1 ∧ ∀ x ∈ ls, x.f0 ≠ nm) ∨ ∃ (i : Nat) (x : S115), r = i ∧ ls[i]? = some x ∧ x.f0 = nm
def FindR (ms : List S104) (nm : ByteArray) (v r : Int) : Prop := (r = -1 ∧ ∀ x ∈ ms, ¬ (x.f0 = nm ∧ x.f1 = v)) ∨ ∃ (i : Nat) (x : S104), r = i ∧ ms[i]? = some x ∧ x.f0 = nm ∧ x.f1 = v
def RetR (P : Int → Prop) (w : World) (e : Ending) (w' : World) : Prop := ∃ r : Int, e = .returned (.int .i64 r) ∧ P r ∧ ∃ a, w' = w.drewN a
theorem str_yes {a b : ByteArray} (h : a = b) : (a.toList == b.toList) = true ∧ (a.toList != b.toList) = false := by subst h; simp
theorem str_no {a b : ByteArray} (h : a ≠ b) : (a.toList == b.toList) = false ∧ (a.toList != b.toList) = true := by
  have h' : a.toList ≠ b.toList := fun e => h (toList_inj (by rw [ByteArray.toList_eq, ByteArray.toList_eq] at e; exact e))
  exact ⟨beq_eq_false_iff_ne.mpr h', bne_iff_ne.mpr h'⟩
section
variable {B g n1 c1 n2 c2 : Nat} {w : World} {F : Nat → Prop} {room clock : Int} {ms : List S104} {ls : List S115} {A1 A2 : Option Addr}
set_option maxHeartbeats 2000000 in
set_option maxRecDepth 100000 in
theorem ref_last (t : RefAt B w g F room clock ms ls A1 n1 c1 A2 n2 c2) (hn : n2 ≤ 1000000) (nm : ByteArray) : Calls Tryz.prog 52 #[.pointer (some ⟨g, 0, none⟩), .string nm] w (RetR (LastR ls nm) w) := by
  obtain ⟨_, _, x2, _, _⟩ := t.cells
  have hl := t.len2.1
  have T := Lib.hid t
  have HL := Lib.hid hl
  clear t hl
  go_enter Tryz.func52, Tryz.ntmps52
  go_wp2
  go_loopw [5] (fun v5 wr => ∃ i a : Nat, i ≤ n2 ∧ v5 = .int .i64 i ∧ wr = w.drewN a ∧ Hid (∀ j x, j < i → ls[j]? = some x → x.f0 ≠ nm)) (fun v5 _ => n2 - (intOf v5).toNat)
  case atStart => exact ⟨0, 0, by omega, rfl, rfl, Lib.hid fun j x hj => by omega⟩
  case round =>
    obtain ⟨i, a, hi, rfl, rfl, HN⟩ := hrel
    by_cases hlt : i < n2
    · obtain ⟨x, hx⟩ : ∃ x, ls[i]? = some x := ⟨_, List.getElem?_eq_getElem (by have := HL.out; omega)⟩
      obtain ⟨_, gl, rfl, _, _, f0, f1, _, _⟩ := T.out.last hx
      by_cases he : x.f0 = nm
      · obtain ⟨s1, s2⟩ := str_yes he
        have HR : Hid (LastR ls nm (i : Int)) := Lib.hid (.inr ⟨i, x, rfl, hx, he⟩)
        clear hx he
        go_wp2
        go_ret
        exact ⟨_, rfl, HR.out, _, rfl⟩
      · obtain ⟨s1, s2⟩ := str_no he
        have HN2 : Hid (∀ j y, j < i + 1 → ls[j]? = some y → y.f0 ≠ nm) := Lib.hid fun j y hj hy => by
          by_cases e : j = i
          · subst e
            rw [hx] at hy
            cases hy
            exact he
          · exact HN.out j y (by omega) hy
        clear hx he
        go_wp2
        go_roundw
        case rel => exact ⟨i + 1, _, by omega, by go_num, rfl, HN2⟩
        case measure => simp [intOf]; omega
    · have HR : Hid (LastR ls nm (-1)) := Lib.hid (.inl ⟨rfl, fun x hx e => by
        obtain ⟨j, hj⟩ := List.mem_iff_getElem?.1 hx
        have := (List.getElem?_eq_some_iff.1 hj).1
        exact HN.out j x (by have := HL.out; omega) hj e⟩)
      go_wp2
      go_ret
      exact ⟨_, rfl, HR.out, _, rfl⟩
set_option maxHeartbeats 2000000 in
set_option maxRecDepth 100000 in
theorem ref_find (t : RefAt B w g F room clock ms ls A1 n1 c1 A2 n2 c2) (hn : n1 ≤ 1000000) (nm : ByteArray) (v : Int) : Calls Tryz.prog 54 #[.pointer (some ⟨g, 0, none⟩), .string nm, .int .i64 v] w (RetR (FindR ms nm v) w) := by
  obtain ⟨_, x1, _, _, _⟩ := t.cells
  have hl := t.len1.1
  have T := Lib.hid t
  have HL := Lib.hid hl
  clear t hl
  go_enter Tryz.func54, Tryz.ntmps54
  go_wp2
  go_loopw [7] (fun v7 wr => ∃ i a : Nat, i ≤ n1 ∧ v7 = .int .i64 i ∧ wr = w.drewN a ∧ Hid (∀ j x, j < i → ms[j]? = some x → ¬ (x.f0 = nm ∧ x.f1 = v))) (fun v7 _ => n1 - (intOf v7).toNat)
  case atStart => exact ⟨0, 0, by omega, rfl, rfl, Lib.hid fun j x hj => by omega⟩
  case round =>
    obtain ⟨i, a, hi, rfl, rfl, HN⟩ := hrel
    by_cases hlt : i < n1
    · obtain ⟨x, hx⟩ : ∃ x, ms[i]? = some x := ⟨_, List.getElem?_eq_getElem (by have := HL.out; omega)⟩
      obtain ⟨_, gm, rfl, _, f0, f1, _, _, _, _⟩ := T.out.mod hx
      by_cases he : x.f0 = nm
      · obtain ⟨s1, s2⟩ := str_yes he
        by_cases hv : x.f1 = v
        · have s3 : (x.f1 == v) = true := by simpa using hv
          have HR : Hid (FindR ms nm v (i : Int)) := Lib.hid (.inr ⟨i, x, rfl, hx, he, hv⟩)
          clear hx he hv
          go_wp2
          repeat (go_quiet (fail); try go_wp2)
          go_ret
          exact ⟨_, rfl, HR.out, _, rfl⟩
        · have s3 : (x.f1 == v) = false := by simpa using hv
          have HN2 : Hid (∀ j y, j < i + 1 → ms[j]? = some y → ¬ (y.f0 = nm ∧ y.f1 = v)) := Lib.hid fun j y hj hy => by
            by_cases e : j = i
            · subst e
              rw [hx] at hy
              cases hy
              exact fun h => hv h.2
            · exact HN.out j y (by omega) hy
          clear hx he hv
          go_wp2
          repeat (go_quiet (fail); try go_wp2)
          go_roundw
          case rel => exact ⟨i + 1, _, by omega, by go_num, rfl, HN2⟩
          case measure => simp [intOf]; omega
      · obtain ⟨s1, s2⟩ := str_no he
        have HN2 : Hid (∀ j y, j < i + 1 → ms[j]? = some y → ¬ (y.f0 = nm ∧ y.f1 = v)) := Lib.hid fun j y hj hy => by
          by_cases e : j = i
          · subst e
            rw [hx] at hy
            cases hy
            exact fun h => he h.1
          · exact HN.out j y (by omega) hy
        clear hx he
        go_wp2
        repeat (go_quiet (fail); try go_wp2)
        go_roundw
        case rel => exact ⟨i + 1, _, by omega, by go_num, rfl, HN2⟩
        case measure => simp [intOf]; omega
    · have HR : Hid (FindR ms nm v (-1)) := Lib.hid (.inl ⟨rfl, fun x hx e => by
        obtain ⟨j, hj⟩ := List.mem_iff_getElem?.1 hx
        have := (List.getElem?_eq_some_iff.1 hj).1
        exact HN.out j x (by have := HL.out; omega) hj e⟩)
      go_wp2
      go_ret
      exact ⟨_, rfl, HR.out, _, rfl⟩
/-- what place answers -/
def PlaceR (ms : List S104) (nm : ByteArray) (v : Int) (newest : Bool) (r err : Int) : Prop :=
  (err = 3 ∧ r = -1 ∧ ∀ x ∈ ms, x.f0 ≠ nm) ∨
  ((newest = true ∧ v = 0) ∧ err = 0 ∧ ∃ (i : Nat) (x : S104), r = i ∧ ms[i]? = some x ∧ x.f0 = nm ∧ ∀ y ∈ ms, y.f0 = nm → y.f1 ≤ x.f1) ∨
  ((∃ x ∈ ms, x.f0 = nm) ∧ ¬ (newest = true ∧ v = 0) ∧ ((err = 270 ∧ r = -1 ∧ ∀ x ∈ ms, ¬ (x.f0 = nm ∧ x.f1 = v)) ∨ (err = 0 ∧ ∃ (i : Nat) (x : S104), r = i ∧ ms[i]? = some x ∧ x.f0 = nm ∧ x.f1 = v)))
def RetR2 (P : Int → Int → Prop) (w : World) (e : Ending) (w' : World) : Prop := ∃ r err : Int, e = .returned (.tuple #[.int .i64 r, .int .i64 err]) ∧ P r err ∧ ∃ a, w' = w.drewN a
def Best (ms : List S104) (nm : ByteArray) (i : Nat) (at_ : Int) : Prop := (at_ = -1 ∧ ∀ j x, j < i → ms[j]? = some x → x.f0 ≠ nm) ∨ ∃ (b : Nat) (x : S104), at_ = b ∧ b < i ∧ ms[b]? = some x ∧ x.f0 = nm ∧ ∀ j y, j < i → ms[j]? = some y → y.f0 = nm → y.f1 ≤ x.f1
set_option maxHeartbeats 4000000 in
set_option maxRecDepth 100000 in
theorem ref_place (t : RefAt B w g F room clock ms ls A1 n1 c1 A2 n2 c2) (hn : n1 ≤ 1000000) (nm : ByteArray) (v : Int) (newest : Bool) : Calls Tryz.prog 55 #[.pointer (some ⟨g, 0, none⟩), .string nm, .int .i64 v, .bool newest] w (RetR2 (PlaceR ms nm v newest) w) := by
  obtain ⟨_, x1, _, _, _⟩ := t.cells
  have hl := t.len1.1
  have T := Lib.hid t
  have HL := Lib.hid hl
  clear t hl
  go_enter Tryz.func55, Tryz.ntmps55
  go_wp2
  go_loopw [10, 11] (fun v10 v11 wr => ∃ (i a : Nat) (at_ : Int), i ≤ n1 ∧ v11 = .int .i64 i ∧ v10 = .int .i64 at_ ∧ wr = w.drewN a ∧ Hid (Best ms nm i at_)) (fun _ v11 _ => n1 - (intOf v11).toNat)
  case atStart => exact ⟨0, 0, -1, by omega, rfl, rfl, rfl, Lib.hid (.inl ⟨rfl, fun j x hj => by omega⟩)⟩
  case round =>
    obtain ⟨i, a, at_, hi, rfl, rfl, rfl, HN⟩ := hrel
    by_cases hlt : i < n1
    · obtain ⟨x, hx⟩ : ∃ x, ms[i]? = some x := ⟨_, List.getElem?_eq_getElem (by have := HL.out; omega)⟩
      obtain ⟨_, gm, rfl, _, f0, f1, _, _, _, _⟩ := T.out.mod hx
      by_cases he : x.f0 = nm
      · obtain ⟨s1, s2⟩ := str_yes he
        have HX := Lib.hid (And.intro hx he)
        clear hx he
        rcases HN.out with ⟨rfl, hno⟩ | ⟨b, y, rfl, hb, hy, hyn, hall⟩
        · have HN2 : Hid (Best ms nm (i + 1) (i : Int)) := Lib.hid (.inr ⟨i, x, rfl, by omega, HX.out.1, HX.out.2, fun j y hj hy hyn => by
            by_cases e : j = i
            · subst e
              rw [HX.out.1] at hy
              cases hy
              exact Int.le_refl _
            · exact absurd hyn (hno j y (by omega) hy)⟩)
          clear hno
          go_wp2
          repeat (go_quiet (fail); try go_wp2)
          go_roundw
          case rel => exact ⟨i + 1, _, _, by omega, by go_num, rfl, rfl, HN2⟩
          case measure => simp [intOf]; omega
        · obtain ⟨_, gm', e1, _, g0, g1, _, _, _, _⟩ := T.out.mod hy
          obtain rfl : gm = gm' := by injection e1 with e1; injection e1
          have hb0 : decide ((b : Int) < 0) = false := decide_eq_false (by omega)
          have HY := Lib.hid (And.intro hy (And.intro hyn hall))
          clear e1 hy hyn hall
          by_cases hgt : y.f1 < x.f1
          · have s3 : decide (y.f1 < x.f1) = true := decide_eq_true hgt
            have HN2 : Hid (Best ms nm (i + 1) (i : Int)) := Lib.hid (.inr ⟨i, x, rfl, by omega, HX.out.1, HX.out.2, fun j z hj hz hzn => by
              by_cases e : j = i
              · subst e
                rw [HX.out.1] at hz
                cases hz
                exact Int.le_refl _
              · have := HY.out.2.2 j z (by omega) hz hzn
                omega⟩)
            clear hgt
            go_wp2
            repeat (go_quiet (fail); try go_wp2)
            go_roundw
            case rel => exact ⟨i + 1, _, _, by omega, by go_num, rfl, rfl, HN2⟩
            case measure => simp [intOf]; omega
          · have s3 : decide (y.f1 < x.f1) = false := decide_eq_false hgt
            have HN2 : Hid (Best ms nm (i + 1) (b : Int)) := Lib.hid (.inr ⟨b, y, rfl, by omega, HY.out.1, HY.out.2.1, fun j z hj hz hzn => by
              by_cases e : j = i
              · subst e
                rw [HX.out.1] at hz
                cases hz
                omega
              · exact HY.out.2.2 j z (by omega) hz hzn⟩)
            clear hgt
            go_wp2
            repeat (go_quiet (fail); try go_wp2)
            go_roundw
            case rel => exact ⟨i + 1, _, _, by omega, by go_num, rfl, rfl, HN2⟩
            case measure => simp [intOf]; omega
      · obtain ⟨s1, s2⟩ := str_no he
        have HN2 : Hid (Best ms nm (i + 1) at_) := Lib.hid (by
          rcases HN.out with ⟨e1, hno⟩ | ⟨b, y, e1, hb, hy, hyn, hall⟩
          · exact .inl ⟨e1, fun j y hj hy => by
              by_cases e : j = i
              · subst e
                rw [hx] at hy
                cases hy
                exact he
              · exact hno j y (by omega) hy⟩
          · exact .inr ⟨b, y, e1, by omega, hy, hyn, fun j z hj hz hzn => by
              by_cases e : j = i
              · subst e
                rw [hx] at hz
                cases hz
                exact absurd hzn he
              · exact hall j z (by omega) hz hzn⟩)
        clear hx he
        go_wp2
        repeat (go_quiet (fail); try go_wp2)
        go_roundw
        case rel => exact ⟨i + 1, _, _, by omega, by go_num, rfl, rfl, HN2⟩
        case measure => simp [intOf]; omega
    · obtain rfl : i = n1 := by omega
      have hidx : ∀ x ∈ ms, ∃ j, j < i ∧ ms[j]? = some x := fun x hx => by
        obtain ⟨j, hj⟩ := List.mem_iff_getElem?.1 hx
        have := (List.getElem?_eq_some_iff.1 hj).1
        exact ⟨j, by have := HL.out; omega, hj⟩
      have HI := Lib.hid hidx
      clear hidx
      rcases HN.out with ⟨rfl, hno⟩ | ⟨b, y, rfl, hb, hy, hyn, hall⟩
      · have HR : Hid (PlaceR ms nm v newest (-1) 3) := Lib.hid (.inl ⟨rfl, rfl, fun x hx => by
          obtain ⟨j, hj, hjx⟩ := HI.out x hx
          exact hno j x hj hjx⟩)
        clear hno
        go_wp2
        go_ret2
        exact ⟨_, _, rfl, HR.out, _, rfl⟩
      · have HY := Lib.hid (And.intro hy (And.intro hyn hall))
        clear hy hyn hall
        cases newest with
        | true =>
          by_cases hv : v = 0
          · subst hv
            have HR : Hid (PlaceR ms nm 0 true (b : Int) 0) := Lib.hid (.inr (.inl ⟨⟨rfl, rfl⟩, rfl, b, y, rfl, HY.out.1, HY.out.2.1, fun z hz hzn => by
              obtain ⟨j, hj, hjz⟩ := HI.out z hz
              exact HY.out.2.2 j z hj hjz hzn⟩))
            go_wp2
            go_ret2
            exact ⟨_, _, rfl, HR.out, _, rfl⟩
          · have hv0 : (v == 0) = false := by simpa using hv
            have HF := Lib.hid (ref_find (T.out.below (below_drewN (Below.refl w.heap.size w) a)) hn nm v)
            have HV := Lib.hid hv
            clear hv
            go_wp2_with fail
            refine HF.out.mono ?_
            rintro e w2 ⟨r, rfl, hr, a2, rfl⟩
            rcases hr with ⟨rfl, hno⟩ | ⟨q, z, rfl, hz, hzn, hzv⟩
            · have HR : Hid (PlaceR ms nm v true (-1) 270) := Lib.hid (.inr (.inr ⟨⟨y, List.mem_of_getElem? HY.out.1, HY.out.2.1⟩, fun h => HV.out h.2, .inl ⟨rfl, rfl, hno⟩⟩))
              clear hno
              go_wp2
              go_ret2
              exact ⟨_, _, rfl, HR.out, _, rfl⟩
            · have HR : Hid (PlaceR ms nm v true (q : Int) 0) := Lib.hid (.inr (.inr ⟨⟨y, List.mem_of_getElem? HY.out.1, HY.out.2.1⟩, fun h => HV.out h.2, .inr ⟨rfl, q, z, rfl, hz, hzn, hzv⟩⟩))
              clear hz hzn hzv
              go_wp2
              go_ret2
              exact ⟨_, _, rfl, HR.out, _, rfl⟩
        | false =>
          have HF := Lib.hid (ref_find (T.out.below (below_drewN (Below.refl w.heap.size w) a)) hn nm v)
          go_wp2_with fail
          refine HF.out.mono ?_
          rintro e w2 ⟨r, rfl, hr, a2, rfl⟩
          rcases hr with ⟨rfl, hno⟩ | ⟨q, z, rfl, hz, hzn, hzv⟩
          · have HR : Hid (PlaceR ms nm v false (-1) 270) := Lib.hid (.inr (.inr ⟨⟨y, List.mem_of_getElem? HY.out.1, HY.out.2.1⟩, (fun h => by cases h.1), .inl ⟨rfl, rfl, hno⟩⟩))
            clear hno
            go_wp2
            go_ret2
            exact ⟨_, _, rfl, HR.out, _, rfl⟩
          · have HR : Hid (PlaceR ms nm v false (q : Int) 0) := Lib.hid (.inr (.inr ⟨⟨y, List.mem_of_getElem? HY.out.1, HY.out.2.1⟩, (fun h => by cases h.1), .inr ⟨rfl, q, z, rfl, hz, hzn, hzv⟩⟩))
            clear hz hzn hzv
            go_wp2
            go_ret2
            exact ⟨_, _, rfl, HR.out, _, rfl⟩
end
end Go.Proofs.YtancenklmfamnaaGreat.Sh
namespace Go.Proofs.YtancenklmfamnaaGreat.Sh
open Go.RowKit Go.Maps Go.Sort Go.Shelf
open Go.Proofs Go.MuLone
open PShelfPlays (S70 S104 S115 k70 k104 k115)

def m104 (m : LM) : S104 := ⟨m.name, m.ver, m.dat, m.used, m.touched⟩
def l115 (x : ByteArray × Int) : S115 := ⟨x.1, x.2⟩
theorem rd104 {l : List S104} {i : Nat} {c : S104} (h : l[i]? = some c) : PShelfPlays.rd_T104 l (i : Int) = c := by
  unfold PShelfPlays.rd_T104
  rw [Int.toNat_natCast, List.getD_eq_getElem?_getD, h]
  rfl
theorem wrap_in {x : Int} (h0 : 0 ≤ x) (h1 : x ≤ 4611686018427387904) : wrap64 x = x := by
  unfold wrap64
  omega
theorem wrap_next {i : Nat} (h : i ≤ 1000000) : wrap64 ((i : Int) + 1) = ((i + 1 : Nat) : Int) := by
  unfold wrap64
  omega
def sumD : List S104 → Int
  | [] => 0
  | x :: l => (x.f2.length : Int) + sumD l
theorem sumD_nonneg : ∀ l : List S104, 0 ≤ sumD l
  | [] => Int.le_refl _
  | x :: l => Int.add_nonneg (Int.natCast_nonneg _) (sumD_nonneg l)
theorem sumD_m : ∀ l : List LM, sumD (l.map m104) = sizes l
  | [] => rfl
  | m :: l => by
    show (m.dat.length : Int) + sumD (l.map m104) = sz m + sizes l
    rw [sumD_m l]
    rfl
theorem drop_cons {α : Type} {l : List α} {i : Nat} {x : α} (h : l[i]? = some x) : l.drop i = x :: l.drop (i + 1) := by
  obtain ⟨h1, h2⟩ := List.getElem?_eq_some_iff.1 h
  rw [List.drop_eq_getElem_cons h1, h2]
theorem size_loop {l : List S104} (hl : l.length ≤ 1000000) : ∀ (d k i : Nat) (x3 : Int), l.length - i = d → i ≤ l.length → d < k → 0 ≤ x3 → x3 + sumD (l.drop i) ≤ 4611686018427387904 → PShelfPlays.heddleref27_size.l0 k l x3 i = some (x3 + sumD (l.drop i)) := by
  intro d
  induction d with
  | zero =>
    intro k i x3 hd hi hk h0 h1
    obtain ⟨k, rfl⟩ : ∃ m, k = m + 1 := ⟨k - 1, by omega⟩
    simp only [PShelfPlays.heddleref27_size.l0]
    rw [if_neg (by omega), List.drop_eq_nil_of_le (by omega)]
    simp [sumD]
  | succ d ih =>
    intro k i x3 hd hi hk h0 h1
    obtain ⟨k, rfl⟩ : ∃ m, k = m + 1 := ⟨k - 1, by omega⟩
    obtain ⟨x, hx⟩ : ∃ x, l[i]? = some x := ⟨_, List.getElem?_eq_getElem (by omega)⟩
    rw [drop_cons hx] at h1 ⊢
    simp only [sumD] at h1 ⊢
    have hs := sumD_nonneg (l.drop (i + 1))
    have e := ih k (i + 1) (x3 + (x.f2.length : Int)) (by omega) (by omega) (by omega) (by omega) (by omega)
    simp only [PShelfPlays.heddleref27_size.l0]
    rw [if_pos (by omega), if_pos (by omega), rd104 hx, wrap_in (x := x3 + (x.f2.length : Int)) (by omega) (by omega), wrap_next (by omega), e]
    congr 1
    omega
theorem size_f {l : List S104} (hl : l.length ≤ 1000000) (hs : sumD l ≤ 4611686018427387904) : PShelfPlays.heddleref27_size.f (l.length + 1) l = some (sumD l) := by
  have := size_loop hl l.length (l.length + 1) 0 0 rfl (Nat.zero_le _) (by omega) (Int.le_refl _) (by simpa using hs)
  unfold PShelfPlays.heddleref27_size.f
  simpa using this
def OldR (l : List S104) (i : Nat) (r : Int) : Prop := (r = -1 ∧ ∀ j x, j < i → l[j]? = some x → x.f3 ≠ 0) ∨ ∃ (b : Nat) (x : S104), r = b ∧ b < i ∧ l[b]? = some x ∧ x.f3 = 0 ∧ ∀ j y, j < i → l[j]? = some y → y.f3 = 0 → x.f4 ≤ y.f4
theorem oldest_loop {l : List S104} (hl : l.length ≤ 1000000) : ∀ (d k i : Nat) (x3 : Int), l.length - i = d → i ≤ l.length → d < k → OldR l i x3 → ∃ r, PShelfPlays.heddleref27_oldest.l0 k l x3 i = some r ∧ OldR l l.length r := by
  intro d
  induction d with
  | zero =>
    intro k i x3 hd hi hk h
    obtain ⟨k, rfl⟩ : ∃ m, k = m + 1 := ⟨k - 1, by omega⟩
    have : i = l.length := by omega
    subst this
    refine ⟨x3, ?_, h⟩
    simp only [PShelfPlays.heddleref27_oldest.l0]
    rw [if_neg (by omega)]
  | succ d ih =>
    intro k i x3 hd hi hk h
    obtain ⟨k, rfl⟩ : ∃ m, k = m + 1 := ⟨k - 1, by omega⟩
    obtain ⟨x, hx⟩ : ∃ x, l[i]? = some x := ⟨_, List.getElem?_eq_getElem (by omega)⟩
    have go := fun x3' h' => ih k (i + 1) x3' (by omega) (by omega) (by omega) h'
    have next : ∀ {P : S104 → Prop}, (∀ j y, j < i → l[j]? = some y → P y) → P x → ∀ j y, j < i + 1 → l[j]? = some y → P y := fun hP hx' j y hj hy => by
      by_cases e : j = i
      · subst e
        rw [hx] at hy
        cases hy
        exact hx'
      · exact hP j y (by omega) hy
    simp only [PShelfPlays.heddleref27_oldest.l0]
    rw [if_pos (by omega), if_pos (by omega), rd104 hx, wrap_next (by omega)]
    by_cases hu : x.f3 = 0
    · rw [if_pos hu]
      rcases h with ⟨rfl, hno⟩ | ⟨b, y, rfl, hb, hy, hy0, hall⟩
      · rw [if_pos (by omega)]
        exact go i (.inr ⟨i, x, rfl, by omega, hx, hu, next (P := fun y => y.f3 = 0 → x.f4 ≤ y.f4) (fun j y hj hy h0 => absurd h0 (hno j y hj hy)) fun _ => Int.le_refl _⟩)
      · rw [if_neg (by omega), if_pos (by omega), if_pos (by omega), rd104 hy]
        by_cases hlt : x.f4 < y.f4
        · rw [if_pos hlt]
          exact go i (.inr ⟨i, x, rfl, by omega, hx, hu, next (P := fun z => z.f3 = 0 → x.f4 ≤ z.f4) (fun j z hj hz h0 => by have := hall j z hj hz h0; omega) fun _ => Int.le_refl _⟩)
        · rw [if_neg hlt]
          exact go b (.inr ⟨b, y, rfl, by omega, hy, hy0, next (P := fun z => z.f3 = 0 → y.f4 ≤ z.f4) hall fun _ => by omega⟩)
    · rw [if_neg hu]
      refine go x3 ?_
      rcases h with ⟨e1, hno⟩ | ⟨b, y, e1, hb, hy, hy0, hall⟩
      · exact .inl ⟨e1, next (P := fun z => z.f3 ≠ 0) hno hu⟩
      · exact .inr ⟨b, y, e1, by omega, hy, hy0, next (P := fun z => z.f3 = 0 → y.f4 ≤ z.f4) hall fun h => absurd h hu⟩
theorem oldest_f {l : List S104} (hl : l.length ≤ 1000000) : ∃ r, PShelfPlays.heddleref27_oldest.f (l.length + 1) l = some r ∧ OldR l l.length r :=
  oldest_loop hl l.length (l.length + 1) 0 (-1) rfl (Nat.zero_le _) (by omega) (.inl ⟨rfl, fun j x hj => by omega⟩)
theorem without_loop {l : List S104} (hl : l.length ≤ 1000000) (a : Nat) : ∀ (d k i : Nat) (x5 : List S104), l.length - i = d → i ≤ l.length → d < k → x5.length ≤ i → PShelfPlays.heddleref27_without.l0 k l (a : Int) x5 i = some (x5 ++ (if a < i then l.drop i else (l.drop i).eraseIdx (a - i))) := by
  intro d
  induction d with
  | zero =>
    intro k i x5 hd hi hk h5
    obtain ⟨k, rfl⟩ : ∃ m, k = m + 1 := ⟨k - 1, by omega⟩
    simp only [PShelfPlays.heddleref27_without.l0]
    rw [if_neg (by omega), List.drop_eq_nil_of_le (by omega)]
    simp
  | succ d ih =>
    intro k i x5 hd hi hk h5
    obtain ⟨k, rfl⟩ : ∃ m, k = m + 1 := ⟨k - 1, by omega⟩
    obtain ⟨x, hx⟩ : ∃ x, l[i]? = some x := ⟨_, List.getElem?_eq_getElem (by omega)⟩
    simp only [PShelfPlays.heddleref27_without.l0]
    rw [if_pos (by omega), wrap_next (by omega)]
    by_cases e : i = a
    · subst e
      rw [if_pos rfl, ih k (i + 1) x5 (by omega) (by omega) (by omega) (by omega), if_pos (by omega), if_neg (by omega), drop_cons hx]
      simp
    · rw [if_neg (by omega), if_pos (by omega), if_pos (by omega), rd104 hx, ih k (i + 1) (x5 ++ [x]) (by omega) (by omega) (by omega) (by simp; omega), drop_cons hx]
      by_cases h2 : a < i
      · rw [if_pos (by omega), if_pos h2]
        simp
      · rw [if_neg (by omega), if_neg h2]
        obtain ⟨q, hq⟩ : ∃ q, a - i = q + 1 := ⟨a - i - 1, by omega⟩
        rw [hq, show a - (i + 1) = q by omega]
        simp
theorem without_f {l : List S104} (hl : l.length ≤ 1000000) (a : Nat) : PShelfPlays.heddleref27_without.f (l.length + 1) l (a : Int) = some (l.eraseIdx a) := by
  have := without_loop hl a l.length (l.length + 1) 0 [] rfl (Nat.zero_le _) (by omega) (by simp)
  unfold PShelfPlays.heddleref27_without.f
  simpa using this
/-! ### the models that go -/
section
variable {L : Lay} {n : Int} {j : Nat}
theorem erase_blk {l : List LM} (hb : (l.map (·.blk)).Nodup) {i : Nat} {x : LM} (hx : l[i]? = some x) : l.eraseIdx i = l.filter fun y => decide (y.blk ≠ x.blk) := by
  induction l generalizing i with
  | nil => simp at hx
  | cons y l ih =>
    simp only [List.map_cons, List.nodup_cons] at hb
    cases i with
    | zero =>
      simp at hx
      subst hx
      have : l.filter (fun z => decide (z.blk ≠ y.blk)) = l := List.filter_eq_self.2 fun z hz => by
        simp
        exact fun e => hb.1 (List.mem_map.2 ⟨z, hz, e⟩)
      rw [List.filter_cons_of_neg (by simp), this]
      rfl
    | succ i =>
      rw [List.getElem?_cons_succ] at hx
      have hne : y.blk ≠ x.blk := fun e => hb.1 (List.mem_map.2 ⟨x, List.mem_of_getElem? hx, e.symm⟩)
      rw [List.eraseIdx_cons_succ, List.filter_cons_of_pos (by simpa using hne), ih hb.2 hx]
theorem keep_nodup (hb : (L.ms.map (·.blk)).Nodup) (l : List LM) : ((keepL L l).map (·.blk)).Nodup := (List.filter_sublist.map _).nodup hb
/-- behind j that went -/
structure VJ (L : Lay) (n : Int) (j : Nat) : Prop where
  le : j ≤ (unusedL L).length
  pick : pickL L n = (vcount L.room n (sizes (keepL L ((unusedL L).take j))) ((keepL L ((unusedL L).take j)).length : Int) (((unusedL L).drop j).map sz)).map (· + j)
theorem VJ.start (g : Good L) (n : Int) : VJ L n 0 := by
  refine ⟨Nat.zero_le _, ?_⟩
  rw [List.take_zero, keepL_nil, List.drop_zero, ← g.bytes, ← g.count]
  simp [pickL]
theorem VJ.stop (h : VJ L n j) (hc : sizes (keepL L ((unusedL L).take j)) + n ≤ L.room ∧ ((keepL L ((unusedL L).take j)).length : Int) < 256) : pickL L n = some j := by
  rw [h.pick, vcount_yes hc]
  simp
theorem VJ.fell (h : VJ L n j) (hc : ¬ (sizes (keepL L ((unusedL L).take j)) + n ≤ L.room ∧ ((keepL L ((unusedL L).take j)).length : Int) < 256)) (hj : j = (unusedL L).length) : pickL L n = none := by
  rw [h.pick, List.drop_eq_nil_of_le (by omega)]
  simp only [List.map_nil]
  rw [vcount_no hc]
  rfl
theorem take_snoc' {α : Type} {l : List α} {j : Nat} {x : α} (h : l[j]? = some x) : l.take (j + 1) = l.take j ++ [x] := by
  obtain ⟨h1, h2⟩ := List.getElem?_eq_some_iff.1 h
  rw [List.take_succ_eq_append_getElem h1, h2]
theorem keep_next (hb : (L.ms.map (·.blk)).Nodup) {x : LM} (hx : (unusedL L)[j]? = some x) : x ∈ keepL L ((unusedL L).take j) ∧ (keepL L ((unusedL L).take j)).filter (fun y => decide (y.blk ≠ x.blk)) = keepL L ((unusedL L).take (j + 1)) := by
  refine ⟨List.mem_filter.2 ⟨(unused_mem (List.mem_of_getElem? hx)).1, by rw [not_gone hb hx]; rfl⟩, ?_⟩
  rw [take_snoc' hx]
  exact keep_snoc L _ x
theorem VJ.next (h : VJ L n j) (hb : (L.ms.map (·.blk)).Nodup) (hc : ¬ (sizes (keepL L ((unusedL L).take j)) + n ≤ L.room ∧ ((keepL L ((unusedL L).take j)).length : Int) < 256)) {x : LM} (hx : (unusedL L)[j]? = some x) : VJ L n (j + 1) := by
  have hj := (List.getElem?_eq_some_iff.1 hx).1
  obtain ⟨h1, h2⟩ := keep_next hb hx
  obtain ⟨h3, h4⟩ := sizes_drop (keep_nodup hb _) h1
  rw [h2] at h3 h4
  refine ⟨by omega, ?_⟩
  rw [h.pick, drop_cons hx, List.map_cons, vcount_on hc, h3]
  have e : ((keepL L ((unusedL L).take (j + 1))).length : Int) = ((keepL L ((unusedL L).take j)).length : Int) - 1 := by omega
  rw [e, Option.map_map]
  congr 1
  funext q
  simp only [Function.comp_def]
  omega
/-- oldest finds the next one -/
theorem oldest_next (g : Good L) (hb : (L.ms.map (·.blk)).Nodup) {r : Int} (h : OldR ((keepL L ((unusedL L).take j)).map m104) (keepL L ((unusedL L).take j)).length r) :
    (r = -1 ∧ (unusedL L).length ≤ j) ∨ ∃ (b : Nat) (x : LM), r = b ∧ (keepL L ((unusedL L).take j))[b]? = some x ∧ (unusedL L)[j]? = some x := by
  have hsrt : (unusedL L).Pairwise fun a b => a.touched ≤ b.touched := by
    have tr : ∀ a b c : LM, (!decide (b.touched < a.touched)) = true → (!decide (c.touched < b.touched)) = true → (!decide (c.touched < a.touched)) = true := fun a b c h1 h2 => by simp at *; omega
    have tot : ∀ a b : LM, ((!decide (b.touched < a.touched)) || (!decide (a.touched < b.touched))) = true := fun a b => by simp; omega
    refine (List.pairwise_mergeSort tr tot (L.ms.filter isUnused)).imp fun {a b} h => ?_
    simpa using h
  -- whatever is unused and there stands at j or behind
  have behind : ∀ y ∈ keepL L ((unusedL L).take j), y.used = 0 → ∃ q, j ≤ q ∧ (unusedL L)[q]? = some y := fun y hy h0 => by
    obtain ⟨hm, hg⟩ := List.mem_filter.1 hy
    have hu : y ∈ unusedL L := (List.mergeSort_perm _ _).mem_iff.2 (List.mem_filter.2 ⟨hm, by simp [isUnused, h0]⟩)
    obtain ⟨q, hq⟩ := List.mem_iff_getElem?.1 hu
    refine ⟨q, ?_, hq⟩
    by_cases e : j ≤ q
    · exact e
    · exfalso
      have h1 : y ∈ (unusedL L).take j := by
        refine List.mem_of_getElem? (i := q) ?_
        rw [List.getElem?_take_of_lt (by omega)]
        exact hq
      simp [gone] at hg
      exact hg y h1 rfl
  rcases h with ⟨rfl, hno⟩ | ⟨b, y, rfl, hbl, hy, hy0, hall⟩
  · left
    refine ⟨rfl, ?_⟩
    by_cases e : (unusedL L).length ≤ j
    · exact e
    · exfalso
      obtain ⟨x, hx⟩ : ∃ x, (unusedL L)[j]? = some x := ⟨_, List.getElem?_eq_getElem (by omega)⟩
      obtain ⟨h1, _⟩ := keep_next hb hx
      obtain ⟨q, hq⟩ := List.mem_iff_getElem?.1 h1
      have hql := (List.getElem?_eq_some_iff.1 hq).1
      refine hno q (m104 x) hql (by rw [List.getElem?_map, hq]; rfl) ?_
      have h2 := unused_mem (List.mem_of_getElem? hx)
      have h3 := g.used x h2.1
      show x.used = 0
      omega
  · right
    rw [List.getElem?_map] at hy
    obtain ⟨z, hz, rfl⟩ := Option.map_eq_some_iff.1 hy
    have hz0 : z.used = 0 := hy0
    obtain ⟨q, hq, hqz⟩ := behind z (List.mem_of_getElem? hz) hz0
    have hql := (List.getElem?_eq_some_iff.1 hqz).1
    obtain ⟨x, hx⟩ : ∃ x, (unusedL L)[j]? = some x := ⟨_, List.getElem?_eq_getElem (by omega)⟩
    obtain ⟨h1, _⟩ := keep_next hb hx
    have h2 := unused_mem (List.mem_of_getElem? hx)
    have h3 := g.used x h2.1
    obtain ⟨p, hp⟩ := List.mem_iff_getElem?.1 h1
    have hle : z.touched ≤ x.touched := hall p (m104 x) (List.getElem?_eq_some_iff.1 hp).1 (by rw [List.getElem?_map, hp]; rfl) (by show x.used = 0; omega)
    have hge : x.touched ≤ z.touched := by
      by_cases e : j = q
      · subst e
        rw [hx] at hqz
        cases hqz
        exact Int.le_refl _
      · have := List.pairwise_iff_getElem.1 hsrt j q (List.getElem?_eq_some_iff.1 hx).1 hql (by omega)
        rw [(List.getElem?_eq_some_iff.1 hx).2, (List.getElem?_eq_some_iff.1 hqz).2] at this
        exact this
    have hzx : z = x := map_inj g.tnodup (unused_mem (List.mem_of_getElem? hqz)).1 h2.1 (by omega)
    subst hzx
    exact ⟨b, z, rfl, hz, hx⟩
end
end Go.Proofs.YtancenklmfamnaaGreat.Sh
