/- the calls, as the laws use them. -/
import Derived.Test.YtancenklmfamnaaShList
set_option linter.unusedVariables false
set_option linter.unusedSimpArgs false
namespace Go.Proofs.Ytancenklmfamnaa.Sh
open Go.RowKit Go.Maps Go.Sort Go.Shelf
open Go.Proofs Go.MuLone
open Go.Proofs.YtancenklmfamnaaW.PrintWords (Reps OwnRow)

/-- a shelf at rest -/
structure Rest (B : Nat) (w : World) (p : Nat) (L : Lay) : Prop where
  is : ShelfIs B w p L
  good : Good L
  lk : L.lk = 0
/-- one more model lies there -/
structure Laid (L L' : Lay) (nm : ByteArray) (ver : Int) (dat : List Int) (i : Nat) (new : LM) : Prop where
  pick : pickL L dat.length = some i
  name : new.name = nm
  ver_ : new.ver = ver
  dat_ : new.dat = dat
  used : new.used = 0
  touched : new.touched = L.touch + 1
  ms : L'.ms = keepL L ((unusedL L).take i) ++ [new]
  room : L'.room = L.room
  touch : L'.touch = L.touch + 1
  last : L'.last = setLast L.last nm (max ((L.lastOf nm).getD 0) ver)
theorem Rest.low {B p : Nat} {w : World} {L : Lay} (h : Rest B w p L) {k : Nat} (hk : Owned p L k) : B ≤ k := by
  obtain ⟨h1, h2, h3, h4, h5⟩ := h.is.low
  rcases hk with rfl | rfl | rfl | e | e
  · exact h1
  · exact h2
  · exact h3
  · obtain ⟨x, hx, rfl⟩ := List.mem_map.1 e
    exact h4 x hx
  · obtain ⟨x, hx, rfl⟩ := List.mem_map.1 e
    exact h5 x hx
theorem Step.base {B p b : Nat} {w0 w w' : World} {L L' : Lay} (h : Step B w w' p L L') (hr : Rest B w p L) (hb : Below b w0 w) (hB : b ≤ B) (hbw : b ≤ w0.heap.size) : Below b w0 w' :=
  ⟨h.1.1.trans hb.os, h.1.2.1.trans hb.tape, h.1.2.2.1.trans hb.output, Nat.le_trans hb.size h.size, fun k hk => (h.1.2.2.2.2 k (Nat.lt_of_lt_of_le (Nat.lt_of_lt_of_le hk hbw) hb.size) (fun ho => by have := hr.low ho; omega)).trans (hb.block k hk)⟩
theorem Rest.below {B p : Nat} {w w' : World} {L : Lay} (h : Rest B w p L) (hb : Below w.heap.size w w') : Rest B w' p L := ⟨h.is.below hb, h.good, h.lk⟩
theorem lastOf_laid {L L' : Lay} {nm : ByteArray} {ver : Int} {dat : List Int} {i : Nat} {new : LM} (h : Laid L L' nm ver dat i new) (s : ByteArray) : L'.lastOf s = if s = nm then some (max ((L.lastOf nm).getD 0) ver) else L.lastOf s := by
  simp only [Lay.lastOf]
  rw [h.last, find_set]
  split
  · simp [Lay.lastOf]
  · rfl
section
variable {B p : Nat} {w : World} {L : Lay}
theorem put_yes (h : Rest B w p L) (htc : L.touch < 4611686018427387904) (nm : ByteArray) (hn : Nm.nameOk nm = true) (sv : Value) (dat : List Int) (B0 : Nat) (hrow : RdB w sv dat)
    (hdl : dat.length ≤ 16777216) (hsv : ∀ k, sv.ownBlock = some k → ¬ Owned p L k) (hlast : (L.lastOf nm).getD 0 < 4611686018427387904) (hroom : ¬ NoRoom L nm dat.length) :
    Calls Try.prog 8 #[.pointer (some ⟨p, 0, none⟩), .string nm, sv] w fun e w' => e = .returned (.tuple #[.int .i64 ((L.lastOf nm).getD 0 + 1), .int .i64 0]) ∧ ∃ L' i new, Laid L L' nm ((L.lastOf nm).getD 0 + 1) dat i new ∧ Step B w w' p L L' ∧ Rest B w' p L' := by
  have hns := nameOk_size hn
  refine (put_any B p L w h.is h.good h.lk htc nm (by omega) sv dat B0 hrow (by omega) hsv).mono fun e w' hP => ?_
  rcases hP with ⟨h1, _⟩ | ⟨_, h1, _⟩ | ⟨_, _, h1, _⟩ | ⟨_, _, _, err, rfl, hP⟩
  · rw [hn] at h1; cases h1
  · omega
  · omega
  · rcases hP with ⟨_, _, h1⟩ | ⟨rfl, _, L', i, new, st, g, h1, h2, h3, h4, h5, h6, h7, h8, h9, h10, h11⟩
    · exact absurd h1 hroom
    · exact ⟨by simp, L', i, new, ⟨h1, h2, h3, h4, h5, h6, h7, h8, h9, h10⟩, st, ⟨st.is, g, h11.trans h.lk⟩⟩
theorem put_ver (h : Rest B w p L) (htc : L.touch < 4611686018427387904) (nm : ByteArray) (hn : Nm.nameOk nm = true) (sv : Value) (dat : List Int) (ver : Int) (hver : (L.lastOf nm).getD 0 + 1 = ver) (hv2 : ver ≤ 4611686018427387904) (hrow : RdB w sv dat)
    (hdl : dat.length ≤ 16777216) (hsv : ∀ k, sv.ownBlock = some k → ¬ Owned p L k) (hroom : ¬ NoRoom L nm dat.length) :
    Calls Try.prog 8 #[.pointer (some ⟨p, 0, none⟩), .string nm, sv] w fun e w' => e = .returned (.tuple #[.int .i64 ver, .int .i64 0]) ∧ ∃ L' i new, Laid L L' nm ver dat i new ∧ Step B w w' p L L' ∧ Rest B w' p L' := by
  subst hver
  exact put_yes h htc nm hn sv dat 0 hrow hdl hsv (by omega) hroom
theorem put_full (h : Rest B w p L) (htc : L.touch < 4611686018427387904) (nm : ByteArray) (hn : Nm.nameOk nm = true) (sv : Value) (dat : List Int) (B0 : Nat) (hrow : RdB w sv dat)
    (hdl : dat.length ≤ 16777216) (hsv : ∀ k, sv.ownBlock = some k → ¬ Owned p L k) (hlast : (L.lastOf nm).getD 0 < 4611686018427387904) (hroom : NoRoom L nm dat.length) :
    Calls Try.prog 8 #[.pointer (some ⟨p, 0, none⟩), .string nm, sv] w fun e w' => e = .returned (.tuple #[.int .i64 0, .int .i64 4]) ∧ Step B w w' p L L ∧ Rest B w' p L := by
  have hns := nameOk_size hn
  refine (put_any B p L w h.is h.good h.lk htc nm (by omega) sv dat B0 hrow (by omega) hsv).mono fun e w' hP => ?_
  rcases hP with ⟨h1, _⟩ | ⟨_, h1, _⟩ | ⟨_, _, h1, _⟩ | ⟨_, _, _, err, rfl, hP⟩
  · rw [hn] at h1; cases h1
  · omega
  · omega
  · rcases hP with ⟨rfl, st, h1⟩ | ⟨rfl, h0, _⟩
    · exact ⟨by simp, st, ⟨st.is, h.good, h.lk⟩⟩
    · exact absurd hroom h0
theorem layM_full (h : Rest B w p L) (htc : L.touch < 4611686018427387904) (nm : ByteArray) (hn : Nm.nameOk nm = true) (ver : Int) (hv : 1 ≤ ver ∧ ver ≤ 4611686018427387904) (sv : Value) (dat : List Int) (B0 : Nat) (hrow : RdB w sv dat)
    (hdl : dat.length ≤ 16777216) (hsv : ∀ k, sv.ownBlock = some k → ¬ Owned p L k) (hmod : L.modOf nm ver = none) (hroom : NoRoom L nm dat.length) :
    Calls Try.prog 13 #[.pointer (some ⟨p, 0, none⟩), .string nm, .int .i64 ver, sv] w fun e w' => e = .returned (.int .i64 4) ∧ Step B w w' p L L ∧ Rest B w' p L := by
  have hns := nameOk_size hn
  refine (layM_any B p L w h.is h.good h.lk htc nm (by omega) ver (wf_of hv) sv dat B0 hrow (by omega) hsv).mono fun e w' hP => ?_
  obtain ⟨err, rfl, hP⟩ := hP
  rcases hP with ⟨h1, _⟩ | ⟨_, h1, _⟩ | ⟨_, _, h1, _⟩ | ⟨_, _, _, h1, _⟩ | ⟨_, _, _, _, hP⟩
  · rw [hn] at h1; cases h1
  · omega
  · omega
  · rw [hmod] at h1; cases h1
  · rcases hP with ⟨rfl, st, h1⟩ | ⟨rfl, h0, _⟩
    · exact ⟨rfl, st, ⟨st.is, h.good, h.lk⟩⟩
    · exact absurd hroom h0
theorem Good.same {L L' : Lay} (g : Good L) (hms : L'.ms.map (fun m => (m.name, m.ver, m.dat)) = L.ms.map fun m => (m.name, m.ver, m.dat)) (h1 : L'.room = L.room) (h2 : L'.bytes = L.bytes) (h3 : L'.count = L.count) (h4 : 0 ≤ L'.touch) (h5 : ∀ m ∈ L'.ms, m.touched ≤ L'.touch) (h6 : (L'.ms.map (·.touched)).Nodup)
    (h7 : ∀ m ∈ L'.ms, 0 ≤ m.used ∧ m.used ≤ 2147483647) (h8 : L'.inn = L.inn) (h9 : L'.last = L.last) : Good L' := by
  have hmem : ∀ m ∈ L'.ms, ∃ m' ∈ L.ms, m'.name = m.name ∧ m'.ver = m.ver ∧ m'.dat = m.dat := fun m hm => by
    have : (m.name, m.ver, m.dat) ∈ L.ms.map fun m => (m.name, m.ver, m.dat) := hms ▸ List.mem_map_of_mem hm
    obtain ⟨m', hm', e⟩ := List.mem_map.1 this
    simp at e
    exact ⟨m', hm', e.1, e.2.1, e.2.2⟩
  have hsz : sizes L'.ms = sizes L.ms := by
    have e : ∀ l : List LM, sizes l = ((l.map fun m => (m.name, m.ver, m.dat)).map fun x => (x.2.2.length : Int)).sum := fun l => by
      induction l with
      | nil => rfl
      | cons x l ih => simp [sizes, sz] at ih ⊢; rw [ih]
    rw [e, e, hms]
  have hl : L'.ms.length = L.ms.length := by have := congrArg List.length hms; simpa using this
  refine ⟨by rw [h1]; exact g.room, by rw [h2, hsz]; exact g.bytes, by rw [h3, hl]; exact g.count, by rw [h2, h1]; exact g.fits, h4, h5, h6, h7, fun m hm => ?_, fun m hm => ?_, fun x hx => ?_, by rw [h9]; exact g.lasts, by rw [h9]; exact g.lastFew, fun m hm => ?_⟩
  · obtain ⟨m', hm', e1, e2, e3⟩ := hmem m hm
    rw [← e2]; exact g.vers m' hm'
  · obtain ⟨m', hm', e1, e2, e3⟩ := hmem m hm
    rw [← e1]; exact g.names m' hm'
  · rw [h8] at hx
    obtain ⟨m, hm, e⟩ := g.full x hx
    have : (m.name, m.ver, m.dat) ∈ L'.ms.map fun m => (m.name, m.ver, m.dat) := hms ▸ List.mem_map.2 ⟨m, hm, rfl⟩
    obtain ⟨m', hm', e2⟩ := List.mem_map.1 this
    simp at e2
    exact ⟨m', hm', e2.1.trans e⟩
  · obtain ⟨m', hm', e1, e2, e3⟩ := hmem m hm
    obtain ⟨v, a1, a2⟩ := g.known m' hm'
    refine ⟨v, ?_, by rw [← e2]; exact a2⟩
    rw [← e1]
    simp only [Lay.lastOf] at a1 ⊢
    rw [h9]
    exact a1
end
def takeF (b : Nat) (u t : Int) (x : LM) : LM := if x.blk = b then { x with used := u, touched := t } else x
theorem takeF_eq (b : Nat) (u t : Int) (l : List LM) : (l.map (setUsed b u)).map (setTouched b t) = l.map (takeF b u t) := by
  rw [List.map_map]
  refine List.map_congr_left fun x _ => ?_
  simp only [Function.comp_def, setUsed, setTouched, takeF]
  split <;> simp_all
theorem takeF_key (b : Nat) (u t : Int) (x : LM) : (takeF b u t x).name = x.name ∧ (takeF b u t x).ver = x.ver ∧ (takeF b u t x).dat = x.dat ∧ (takeF b u t x).blk = x.blk := by
  unfold takeF
  split <;> simp
def Lay.took (L : Lay) (m : LM) : Lay := { L with touch := L.touch + 1, ms := L.ms.map (takeF m.blk (m.used + 1) (L.touch + 1)) }
def Lay.gave (L : Lay) (m : LM) : Lay := { L with ms := L.ms.map (setUsed m.blk (m.used - 1)) }
theorem setUsed_key (b : Nat) (u : Int) (x : LM) : (setUsed b u x).name = x.name ∧ (setUsed b u x).ver = x.ver ∧ (setUsed b u x).dat = x.dat ∧ (setUsed b u x).blk = x.blk ∧ (setUsed b u x).touched = x.touched := by
  unfold setUsed
  split <;> simp
theorem took_nodup {l : List LM} {b : Nat} {u t : Int} (h1 : (l.map (·.touched)).Nodup) (h2 : (l.map (·.blk)).Nodup) (h3 : ∀ m ∈ l, m.touched < t) : ((l.map (takeF b u t)).map (·.touched)).Nodup := by
  rw [List.map_map]
  refine List.pairwise_map.2 (((List.pairwise_map.1 h1).and (List.pairwise_map.1 h2)).imp_of_mem fun {x y} hx hy ⟨e1, e2⟩ => ?_)
  simp only [Function.comp_def, takeF]
  have hx3 := h3 x hx
  have hy3 := h3 y hy
  split <;> split
  · rename_i a c
    exact absurd (a.trans c.symm) e2
  · simp; omega
  · simp; omega
  · exact e1
section
variable {B p : Nat} {w : World} {L : Lay}
theorem Good.took (g : Good L) (hb : (L.ms.map (·.blk)).Nodup) {m : LM} (hm : m ∈ L.ms) (hu : m.used < 2147483647) : Good (L.took m) := by
  have hus := g.used m hm
  refine g.same ?_ rfl rfl rfl (by have := g.touch; show 0 ≤ L.touch + 1; omega) (fun x hx => ?_) (took_nodup g.tnodup hb fun x hx => by have := g.touched x hx; omega) (fun x hx => ?_) rfl rfl
  · show (L.ms.map (takeF m.blk (m.used + 1) (L.touch + 1))).map _ = _
    rw [List.map_map]
    refine List.map_congr_left fun x _ => ?_
    obtain ⟨e1, e2, e3, _⟩ := takeF_key m.blk (m.used + 1) (L.touch + 1) x
    simp [Function.comp_def, e1, e2, e3]
  · obtain ⟨y, hy, rfl⟩ := List.mem_map.1 hx
    have := g.touched y hy
    show (takeF _ _ _ y).touched ≤ L.touch + 1
    unfold takeF
    split
    · exact Int.le_refl _
    · omega
  · obtain ⟨y, hy, rfl⟩ := List.mem_map.1 hx
    have := g.used y hy
    unfold takeF
    split
    · show 0 ≤ m.used + 1 ∧ m.used + 1 ≤ 2147483647
      omega
    · exact this
theorem Good.gave (g : Good L) {m : LM} (hm : m ∈ L.ms) (hu : 0 < m.used) : Good (L.gave m) := by
  have hus := g.used m hm
  refine g.same ?_ rfl rfl rfl g.touch (fun x hx => ?_) ?_ (fun x hx => ?_) rfl rfl
  · show (L.ms.map (setUsed m.blk (m.used - 1))).map _ = _
    rw [List.map_map]
    refine List.map_congr_left fun x _ => ?_
    obtain ⟨e1, e2, e3, _⟩ := setUsed_key m.blk (m.used - 1) x
    simp [Function.comp_def, e1, e2, e3]
  · obtain ⟨y, hy, rfl⟩ := List.mem_map.1 hx
    rw [(setUsed_key _ _ y).2.2.2.2]
    exact g.touched y hy
  · show ((L.ms.map (setUsed m.blk (m.used - 1))).map (·.touched)).Nodup
    rw [List.map_map]
    have : (L.ms.map ((·.touched) ∘ setUsed m.blk (m.used - 1))) = L.ms.map (·.touched) := List.map_congr_left fun x _ => (setUsed_key _ _ x).2.2.2.2
    rw [this]
    exact g.tnodup
  · obtain ⟨y, hy, rfl⟩ := List.mem_map.1 hx
    have := g.used y hy
    unfold setUsed
    split
    · show 0 ≤ m.used - 1 ∧ m.used - 1 ≤ 2147483647
      omega
    · exact this
theorem take_yes (h : Rest B w p L) (htc : L.touch < 4611686018427387904) (nm : ByteArray) (hnm : nm.size ≤ maxLen) (v : Int) (hv : (Lit.int .i64 v).wf = true) {m : LM} (hf : (L.find nm v true).1 = some m) (hu : m.used < 2147483647) :
    Calls Try.prog 9 #[.pointer (some ⟨p, 0, none⟩), .string nm, .int .i64 v] w fun e w' => ∃ v', e = .returned (.tuple #[v', .int .i64 m.ver, .int .i64 0]) ∧ w'.ownsRow w.heap.size 5 1 v' m.dat.length (m.dat.map encB) ∧
      (∀ k, v'.ownBlock = some k → ¬ Foot p (L.took m) k) ∧ Step B w w' p L (L.took m) ∧ Rest B w' p (L.took m) := by
  obtain ⟨hm, _⟩ := find_mem hf
  have ht : L.take nm v = (L.took m, some m, 0) := by
    unfold Lay.take
    rw [hf]
    simp only [Lay.took]
    rw [if_neg (by omega), takeF_eq]
  refine (take_any B p L w h.is h.good h.lk htc nm hnm v hv).mono fun e w' hP => ?_
  unfold TakeP at hP
  rw [ht] at hP
  obtain ⟨st, v', he, hr, hfo⟩ := hP
  exact ⟨v', he, hr, hfo, st, ⟨st.is, h.good.took h.is.blks hm hu, h.lk⟩⟩
theorem take_no (h : Rest B w p L) (htc : L.touch < 4611686018427387904) (nm : ByteArray) (hnm : nm.size ≤ maxLen) (v : Int) (hv : (Lit.int .i64 v).wf = true) (hf : (L.find nm v true).1 = none) :
    Calls Try.prog 9 #[.pointer (some ⟨p, 0, none⟩), .string nm, .int .i64 v] w fun e w' => e = .returned (.tuple #[.slice none 0 0, .int .i64 0, .int .i64 (L.find nm v true).2]) ∧ Step B w w' p L L ∧ Rest B w' p L := by
  have ht : L.take nm v = (L, none, (L.find nm v true).2) := by unfold Lay.take; rw [hf]
  refine (take_any B p L w h.is h.good h.lk htc nm hnm v hv).mono fun e w' hP => ?_
  unfold TakeP at hP
  rw [ht] at hP
  obtain ⟨st, he⟩ := hP
  exact ⟨he, st, ⟨st.is, h.good, h.lk⟩⟩
theorem give_yes (h : Rest B w p L) (nm : ByteArray) (hnm : nm.size ≤ maxLen) (v : Int) (hv : (Lit.int .i64 v).wf = true) {m : LM} (hf : (L.find nm v false).1 = some m) (hu : 0 < m.used) :
    Calls Try.prog 10 #[.pointer (some ⟨p, 0, none⟩), .string nm, .int .i64 v] w fun e w' => e = .returned (.int .i64 0) ∧ Step B w w' p L (L.gave m) ∧ Rest B w' p (L.gave m) := by
  obtain ⟨hm, _⟩ := find_mem hf
  have ht : L.give nm v = (L.gave m, 0) := by
    unfold Lay.give
    rw [hf]
    simp only [Lay.gave]
    rw [if_neg (by omega)]
  refine (give_any B p L w h.is h.good h.lk nm hnm v hv).mono fun e w' ⟨he, st⟩ => ?_
  rw [ht] at he st
  exact ⟨he, st, ⟨st.is, h.good.gave hm hu, h.lk⟩⟩
theorem list_yes (h : Rest B w p L) : Calls Try.prog 11 #[.pointer (some ⟨p, 0, none⟩)] w fun e w' => ∃ v, e = .returned v ∧ OwnRow RL 39 4 w' w.heap.size v (sortedN L) ∧ Step B w w' p L L ∧ Rest B w' p L :=
  (list_any B p L w h.is h.lk fun m hm => by have := h.good.size_le hm; have := h.good.fits; have := h.good.room; omega).mono fun e w' ⟨v, he, hr, st⟩ => ⟨v, he, hr, st, ⟨st.is, h.good, h.lk⟩⟩
theorem new_yes (n : Int) (w : World) (h1 : 1 ≤ n) (h2 : n ≤ 1099511627776) : Calls Try.prog 7 #[.int .i64 n] w fun e w' => ∃ p mm ml, e = .returned (.tuple #[.pointer (some ⟨p, 0, none⟩), .int .i64 0]) ∧ Below w.heap.size w w' ∧ Rest w.heap.size w' p (Lay.start n mm ml) :=
  (new_any n w h1 h2).mono fun e w' ⟨p, mm, ml, he, hb, hs⟩ => ⟨p, mm, ml, he, hb, hs, start_good h1 h2, rfl⟩
end
end Go.Proofs.Ytancenklmfamnaa.Sh
