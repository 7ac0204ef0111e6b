/- (*Shelf).wanted; frames. -/
import Derived.Test.YtancenklmfamnaaShAll
set_option linter.unusedVariables false
set_option linter.unusedSimpArgs false
namespace Go.Proofs.Ytancenklmfamnaa.Sh
open Go.RowKit Go.Maps Go.Sort Go.Shelf
open Go.Proofs

/-- all blocks but those of S are as they were -/
def Same (S : Nat → Prop) (w w' : World) : Prop := w'.os = w.os ∧ w'.tape = w.tape ∧ w'.output = w.output ∧ w.heap.size ≤ w'.heap.size ∧ ∀ k, k < w.heap.size → ¬ S k → w'.heap[k]? = w.heap[k]?
theorem Same.trans {S : Nat → Prop} {a b c : World} (h : Same S a b) (k : Same S b c) : Same S a c :=
  ⟨k.1.trans h.1, k.2.1.trans h.2.1, k.2.2.1.trans h.2.2.1, Nat.le_trans h.2.2.2.1 k.2.2.2.1, fun i hi hS => (k.2.2.2.2 i (Nat.lt_of_lt_of_le hi h.2.2.2.1) hS).trans (h.2.2.2.2 i hi hS)⟩
theorem Same.below {S : Nat → Prop} {a b : World} (h : Below a.heap.size a b) : Same S a b := ⟨h.os, h.tape, h.output, h.size, fun k hk _ => h.block k hk⟩
theorem Same.grown {S : Nat → Prop} {a b : World} {row : Option Nat} (h : a.grownBy b row) (hr : ∀ k, row = some k → S k ∨ a.heap.size ≤ k) : Same S a b :=
  ⟨h.os, h.tape, h.output, h.size, fun k hk hS => h.block k hk (fun e => by rcases hr k e.symm with h | h; exact hS h; omega)⟩
theorem Same.set {S : Nat → Prop} (a : World) (p : Addr) (v : Value) (hp : S p.block) : Same S a (a.setCell p v) :=
  ⟨rfl, rfl, rfl, by simp [World.setCell], fun k hk hS => Below.heap_setCell a p v k (fun e => hS (by rw [e]; exact hp))⟩
theorem Same.refl {S : Nat → Prop} (a : World) : Same S a a := ⟨rfl, rfl, rfl, Nat.le_refl _, fun _ _ _ => rfl⟩
theorem Same.at {S : Nat → Prop} {a b : World} (h : Same S a b) {k : Nat} {o : Obj} (hk : a.heap[k]? = some o) (hS : ¬ S k) : b.heap[k]? = some o := (h.2.2.2.2 k (Array.getElem?_eq_some_iff.1 hk).1 hS).trans hk
theorem Same.imp {S S' : Nat → Prop} {a b : World} (h : Same S a b) (hi : ∀ k, S k → S' k) : Same S' a b := ⟨h.1, h.2.1, h.2.2.1, h.2.2.2.1, fun k hk hS => h.2.2.2.2 k hk (fun e => hS (hi k e))⟩

/-- the blocks that the shelf writes -/
def Owned (p : Nat) (L : Lay) (k : Nat) : Prop := k = p ∨ k = L.mm ∨ k = L.ml ∨ k ∈ L.inn.map (·.2) ∨ k ∈ L.ms.map (·.blk)
/-- .. and those that it reads beside -/
def Foot (p : Nat) (L : Lay) (k : Nat) : Prop := Owned p L k ∨ ∃ m ∈ L.ms, m.val.ownBlock = some k
/-- a call's work: the shelf is as L' says, all else as it was -/
def Step (B : Nat) (w w' : World) (p : Nat) (L L' : Lay) : Prop := Same (Owned p L) w w' ∧ ShelfIs B w' p L' ∧ (∀ k, Owned p L' k → Owned p L k ∨ w.heap.size ≤ k) ∧ ∀ k, Foot p L' k → Foot p L k ∨ w.heap.size ≤ k
theorem Step.is {B : Nat} {w w' : World} {p : Nat} {L L' : Lay} (h : Step B w w' p L L') : ShelfIs B w' p L' := h.2.1
theorem Step.size {B : Nat} {w w' : World} {p : Nat} {L L' : Lay} (h : Step B w w' p L L') : w.heap.size ≤ w'.heap.size := h.1.2.2.2.1
theorem Step.refl {B : Nat} {w w' : World} {p : Nat} {L : Lay} (h : ShelfIs B w p L) (hb : Below w.heap.size w w') : Step B w w' p L L := ⟨Same.below hb, h.below hb, fun k hk => .inl hk, fun k hk => .inl hk⟩
theorem Step.trans {B : Nat} {a b c : World} {p : Nat} {L L' L'' : Lay} (h : Step B a b p L L') (k : Step B b c p L' L'') : Step B a c p L L'' := by
  refine ⟨⟨k.1.1.trans h.1.1, k.1.2.1.trans h.1.2.1, k.1.2.2.1.trans h.1.2.2.1, Nat.le_trans h.1.2.2.2.1 k.1.2.2.2.1, fun i hi hS => ?_⟩, k.2.1, fun i hi => ?_, fun i hi => ?_⟩
  · refine (k.1.2.2.2.2 i (Nat.lt_of_lt_of_le hi h.1.2.2.2.1) fun e => ?_).trans (h.1.2.2.2.2 i hi hS)
    rcases h.2.2.1 i e with h1 | h1
    · exact hS h1
    · omega
  · rcases k.2.2.1 i hi with h1 | h1
    · exact h.2.2.1 i h1
    · exact .inr (Nat.le_trans h.1.2.2.2.1 h1)
  · rcases k.2.2.2 i hi with h1 | h1
    · exact h.2.2.2 i h1
    · exact .inr (Nat.le_trans h.1.2.2.2.1 h1)
/-- .. and new memory behind it -/
theorem Step.more {B : Nat} {a b c : World} {p : Nat} {L L' : Lay} (h : Step B a b p L L') (hb : Below b.heap.size b c) : Step B a c p L L' := h.trans (Step.refl h.2.1 hb)

set_option maxHeartbeats 1000000 in
theorem wanted_any (p b : Nat) (c5 c4 : Value) (t : Int) (w : World) (h5 : w.cell? ⟨p, 5, none⟩ = some (.int .i64 t)) (f5 : w.frozen? ⟨p, 5, none⟩ = false) (h4 : w.cell? ⟨b, 4, none⟩ = some c4) (f4 : w.frozen? ⟨b, 4, none⟩ = false) (hpb : p ≠ b) (hone : c4.oneCell' = true) :
    Calls Try.prog 24 #[.pointer (some ⟨p, 0, none⟩), .pointer (some ⟨b, 0, none⟩)] w fun e w' => e = .returned (.tuple #[]) ∧ w' = (w.setCell ⟨p, 5, none⟩ (.int .i64 (wrap64 (t + 1)))).setCell ⟨b, 4, none⟩ (.int .i64 (wrap64 (t + 1))) := by
  go_enter Try.func24, Try.ntmps24
  go_wp2
  go_end0
  exact ⟨rfl, rfl⟩

theorem map_far {W W1 : World} {S : Nat → Prop} {k : TypeId} {R : Value → Option (DataW Unit × List MemPlace)} {b n : Nat} {D : DataW Unit} (h : W.ownsMap Try.prog k R b n D) (hs : Same S W W1) (hb : ¬ S b) : W1.ownsMap Try.prog k R b n D := by
  obtain ⟨es, clock, h1, F, h2, h3⟩ := h
  exact ⟨es, clock, hs.at h1 hb, F, h2, h3⟩
theorem row_far {W W1 : World} {S : Nat → Prop} {B n : Nat} {t : TypeId} {v : Value} {xs : List Value} (h : W.ownsRow B t 1 v n xs) (hs : Same S W W1) (hb : ∀ k, v.ownBlock = some k → ¬ S k) : W1.ownsRow B t 1 v n xs := by
  obtain ⟨h1, h2⟩ := h
  refine ⟨h1, ?_⟩
  rcases h2 with h2 | ⟨g, cap, cur, rfl, e1, e2, e3⟩
  · exact .inl h2
  · exact .inr ⟨g, cap, cur, rfl, e1, hs.at e2 (hb g rfl), e3⟩
theorem row_ty {W : World} {B n : Nat} {t : TypeId} {v : Value} {xs : List Value} (h : W.ownsRow B t 1 v n xs) {k : Nat} (hk : v.ownBlock = some k) : B ≤ k ∧ ∃ cur, W.heap[k]? = some (.cells cur t (0, 0)) := by
  rcases h.2 with ⟨rfl, _⟩ | ⟨g, cap, cur, rfl, hB, h2, _⟩
  · cases hk
  · obtain rfl := Option.some.inj hk
    exact ⟨hB, cur, h2⟩
theorem obj_ne {W : World} {k k' : Nat} {o o' : Obj} (h : W.heap[k]? = some o) (h' : W.heap[k']? = some o') (hne : o ≠ o') : k ≠ k' := by
  rintro rfl
  rw [h] at h'
  exact hne (Option.some.inj h')
theorem ShelfIs.map_block {B p : Nat} {W : World} {L : Lay} (h : ShelfIs B W p L) {k n : Nat} {t : TypeId} {R : Value → Option (DataW Unit × List MemPlace)} {D : DataW Unit} (hk : W.ownsMap Try.prog t R k n D) : k ≠ p ∧ k ∉ L.ms.map (·.blk) := by
  obtain ⟨es, clock, h1, _⟩ := hk
  obtain ⟨sem, h2⟩ := h.blk
  refine ⟨obj_ne h1 h2 (by simp), fun hm => ?_⟩
  obtain ⟨m, hmm, e⟩ := List.mem_map.1 hm
  exact obj_ne h1 (h.mods m hmm).1 (by simp) e.symm
theorem innerF_map {ms : List LM} {f : LM → LM} (hf : ∀ m ∈ ms, (f m).name = m.name ∧ (f m).ver = m.ver ∧ (f m).blk = m.blk) (nm : ByteArray) (k : Lit) : innerF (ms.map f) nm k = innerF ms nm k := by
  cases k <;> try rfl
  rename_i q v
  cases q <;> try rfl
  simp only [innerF]
  induction ms with
  | nil => rfl
  | cons m ms ih =>
    obtain ⟨h1, h2, h3⟩ := hf m List.mem_cons_self
    simp only [List.map_cons, List.find?_cons, h1, h2]
    split
    · simp [h3]
    · exact ih (fun m hm => hf m (List.mem_cons_of_mem _ hm))

theorem ShelfIs.model_block {B p : Nat} {W : World} {L : Lay} (h : ShelfIs B W p L) {m : LM} (hm : m ∈ L.ms) : m.blk ≠ p := by
  obtain ⟨sem, h2⟩ := h.blk
  exact obj_ne (h.mods m hm).1 h2 (by simp)
theorem ShelfIs.val_block {B p : Nat} {W : World} {L : Lay} (h : ShelfIs B W p L) {m : LM} (hm : m ∈ L.ms) {k : Nat} (hk : m.val.ownBlock = some k) : B ≤ k ∧ ¬ Owned p L k := by
  obtain ⟨hB, cur, hc⟩ := row_ty (h.mods m hm).2 hk
  obtain ⟨sem, hp⟩ := h.blk
  obtain ⟨n1, D1, _, ⟨es1, c1, o1, _⟩, _⟩ := h.outer
  obtain ⟨n2, D2, _, ⟨es2, c2, o2, _⟩, _⟩ := h.names
  refine ⟨hB, ?_⟩
  rintro (rfl | rfl | rfl | e | e)
  · exact obj_ne hc hp (by simp) rfl
  · exact obj_ne hc o1 (by simp) rfl
  · exact obj_ne hc o2 (by simp) rfl
  · obtain ⟨x, hx, rfl⟩ := List.mem_map.1 e
    obtain ⟨n, D, _, ⟨es3, c3, o3, _⟩, _⟩ := h.inner x hx
    exact obj_ne hc o3 (by simp) rfl
  · obtain ⟨m2, hm2, rfl⟩ := List.mem_map.1 e
    exact obj_ne hc (h.mods m2 hm2).1 (by simp) rfl
/-- what is far from it changes nothing -/
theorem ShelfIs.aside {B p : Nat} {W W1 : World} {L : Lay} {S : Nat → Prop} (h : ShelfIs B W p L) (hs : Same S W W1) (hf : ∀ k, Foot p L k → ¬ S k) : ShelfIs B W1 p L := by
  obtain ⟨sem, h1⟩ := h.blk
  obtain ⟨n1, D1, a1, a2, a3⟩ := h.outer
  obtain ⟨n2, D2, b1, b2, b3⟩ := h.names
  exact { h with
    blk := ⟨sem, hs.at h1 (hf _ (.inl (.inl rfl)))⟩
    outer := ⟨n1, D1, a1, map_far a2 hs (hf _ (.inl (.inr (.inl rfl)))), a3⟩
    names := ⟨n2, D2, b1, map_far b2 hs (hf _ (.inl (.inr (.inr (.inl rfl))))), b3⟩
    inner := fun x hx => by obtain ⟨n, D, c1, c2, c3⟩ := h.inner x hx; exact ⟨n, D, c1, map_far c2 hs (hf _ (.inl (.inr (.inr (.inr (.inl (List.mem_map_of_mem hx))))))), c3⟩
    mods := fun m hm => by
      obtain ⟨c1, c2⟩ := h.mods m hm
      exact ⟨hs.at c1 (hf _ (.inl (.inr (.inr (.inr (.inr (List.mem_map_of_mem hm))))))), row_far c2 hs fun k hk => hf k (.inr ⟨m, hm, hk⟩)⟩ }

/-- the shelf's own cells turn -/
theorem ShelfIs.own {B p : Nat} {W W1 : World} {L : Lay} (h : ShelfIs B W p L) (lk bytes count touch : Int)
    (hp : ∃ sem, W1.heap[p]? = some (.cells #[.int .i32 lk, sem, .int .i64 L.room, .int .i64 bytes, .int .i64 count, .int .i64 touch, .map (some L.mm), .map (some L.ml)] 70 (0, 0)))
    (hs : Same (fun k => k = p) W W1) : Step B W W1 p L { L with lk := lk, bytes := bytes, count := count, touch := touch } := by
  obtain ⟨n1, D1, a1, a2, a3⟩ := h.outer
  obtain ⟨n2, D2, b1, b2, b3⟩ := h.names
  refine ⟨hs.imp fun k e => .inl e, { h with
    blk := hp
    outer := ⟨n1, D1, a1, map_far a2 hs (h.map_block a2).1, a3⟩
    names := ⟨n2, D2, b1, map_far b2 hs (h.map_block b2).1, b3⟩
    inner := fun x hx => by obtain ⟨n, D, c1, c2, c3⟩ := h.inner x hx; exact ⟨n, D, c1, map_far c2 hs (h.map_block c2).1, c3⟩
    mods := fun m hm => by
      obtain ⟨c1, c2⟩ := h.mods m hm
      exact ⟨hs.at c1 (h.model_block hm), row_far c2 hs fun k hk e => (h.val_block hm hk).2 (.inl e)⟩ }, fun k hk => .inl hk, fun k hk => .inl hk⟩
theorem heap_set {W : World} {p n : Nat} {cur : Array Value} {t : TypeId} (h : W.heap[p]? = some (.cells cur t (0, 0))) (v : Value) : (W.setCell ⟨p, n, none⟩ v).heap[p]? = some (.cells (cur.setIfInBounds n v) t (0, 0)) := by
  simp [World.setCell, Array.getElem?_modify, h]
theorem ShelfIs.setBytes {B p : Nat} {W : World} {L : Lay} (h : ShelfIs B W p L) (x : Int) : Step B W (W.setCell ⟨p, 3, none⟩ (.int .i64 x)) p L { L with bytes := x } := by
  obtain ⟨sem, h1⟩ := h.blk
  exact h.own L.lk x L.count L.touch ⟨sem, by rw [heap_set h1]; rfl⟩ (Same.set _ _ _ rfl)
theorem ShelfIs.setCount {B p : Nat} {W : World} {L : Lay} (h : ShelfIs B W p L) (x : Int) : Step B W (W.setCell ⟨p, 4, none⟩ (.int .i64 x)) p L { L with count := x } := by
  obtain ⟨sem, h1⟩ := h.blk
  exact h.own L.lk L.bytes x L.touch ⟨sem, by rw [heap_set h1]; rfl⟩ (Same.set _ _ _ rfl)
theorem ShelfIs.setTouch {B p : Nat} {W : World} {L : Lay} (h : ShelfIs B W p L) (x : Int) : Step B W (W.setCell ⟨p, 5, none⟩ (.int .i64 x)) p L { L with touch := x } := by
  obtain ⟨sem, h1⟩ := h.blk
  exact h.own L.lk L.bytes L.count x ⟨sem, by rw [heap_set h1]; rfl⟩ (Same.set _ _ _ rfl)
theorem ShelfIs.setLock {B p : Nat} {W : World} {L : Lay} (h : ShelfIs B W p L) (x : Int) : Step B W (W.setCell ⟨p, 0, none⟩ (.int .i32 x)) p L { L with lk := x } := by
  obtain ⟨sem, h1⟩ := h.blk
  exact h.own x L.bytes L.count L.touch ⟨sem, by rw [heap_set h1]; rfl⟩ (Same.set _ _ _ rfl)

/-- one model's use and touch turn -/
theorem ShelfIs.mod {B p : Nat} {W W1 : World} {L : Lay} (h : ShelfIs B W p L) (f : LM → LM) (hf : ∀ m ∈ L.ms, (f m).name = m.name ∧ (f m).ver = m.ver ∧ (f m).blk = m.blk ∧ (f m).val = m.val ∧ (f m).dat = m.dat)
    (hm : ∀ m ∈ L.ms, W1.heap[m.blk]? = some (.cells #[.string m.name, .int .i64 m.ver, m.val, .int .i64 (f m).used, .int .i64 (f m).touched] 76 (0, 0)))
    (hs : Same (fun k => k ∈ L.ms.map (·.blk)) W W1) : Step B W W1 p L { L with ms := L.ms.map f } := by
  have hbl : (L.ms.map f).map (·.blk) = L.ms.map (·.blk) := by
    rw [List.map_map]
    exact List.map_congr_left fun m hm => (hf m hm).2.2.1
  obtain ⟨sem, hp⟩ := h.blk
  obtain ⟨n1, D1, a1, a2, a3⟩ := h.outer
  obtain ⟨n2, D2, b1, b2, b3⟩ := h.names
  have hpm : p ∉ L.ms.map (·.blk) := fun e => by
    obtain ⟨m, hm, e⟩ := List.mem_map.1 e
    exact h.model_block hm e
  have ho : ∀ k, Owned p { L with ms := L.ms.map f } k → Owned p L k := fun k hk => by
    simp only [Owned] at hk ⊢
    rw [hbl] at hk
    exact hk
  refine ⟨hs.imp fun k e => .inr (.inr (.inr (.inr e))), ⟨⟨sem, hs.at hp hpm⟩, ⟨n1, D1, a1, map_far a2 hs (h.map_block a2).2, a3⟩, ⟨n2, D2, b1, map_far b2 hs (h.map_block b2).2, b3⟩, fun x hx => ?_, fun m' hm' => ?_, ⟨h.low.1, h.low.2.1, h.low.2.2.1, h.low.2.2.2.1, fun m' hm' => ?_⟩, h.innNames, h.innBlks, h.far, ?_, by rw [hbl]; exact h.blks, fun m' hm' => ?_, h.lastNames, by rw [List.length_map]; exact h.few⟩, fun k hk => .inl (ho k hk), fun k hk => .inl ?_⟩
  · obtain ⟨n, D, c1, c2, c3⟩ := h.inner x hx
    exact ⟨n, D, c1, map_far c2 hs (h.map_block c2).2, c3.congr fun k => (innerF_map (fun m hm => ⟨(hf m hm).1, (hf m hm).2.1, (hf m hm).2.2.1⟩) x.1 k).symm⟩
  · obtain ⟨m, hmm, rfl⟩ := List.mem_map.1 hm'
    obtain ⟨e1, e2, e3, e4, e5⟩ := hf m hmm
    refine ⟨by rw [e1, e2, e3, e4]; exact hm m hmm, ?_⟩
    rw [e4, e5]
    exact row_far (h.mods m hmm).2 hs fun k hk e => (h.val_block hmm hk).2 (.inr (.inr (.inr (.inr e))))
  · obtain ⟨m, hmm, rfl⟩ := List.mem_map.1 hm'
    rw [(hf m hmm).2.2.1]
    exact h.low.2.2.2.2 m hmm
  · have e : (L.ms.map f).map (fun m => (m.name, m.ver)) = L.ms.map fun m => (m.name, m.ver) := by
      rw [List.map_map]
      exact List.map_congr_left fun m hm => by simp [(hf m hm).1, (hf m hm).2.1]
    show ((L.ms.map f).map fun m => (m.name, m.ver)).Nodup
    rw [e]
    exact h.keys
  · obtain ⟨m, hmm, rfl⟩ := List.mem_map.1 hm'
    rw [(hf m hmm).1]
    exact h.homed m hmm
  · rcases hk with hk | ⟨m', hm', e⟩
    · exact .inl (ho k hk)
    · obtain ⟨m, hmm, rfl⟩ := List.mem_map.1 hm'
      rw [(hf m hmm).2.2.2.1] at e
      exact .inr ⟨m, hmm, e⟩
def setUsed (b : Nat) (u : Int) (x : LM) : LM := if x.blk = b then { x with used := u } else x
def setTouched (b : Nat) (u : Int) (x : LM) : LM := if x.blk = b then { x with touched := u } else x
theorem ShelfIs.putUsed {B p : Nat} {W : World} {L : Lay} (h : ShelfIs B W p L) {m : LM} (hm : m ∈ L.ms) (u : Int) : Step B W (W.setCell ⟨m.blk, 3, none⟩ (.int .i64 u)) p L { L with ms := L.ms.map (setUsed m.blk u) } := by
  refine h.mod (setUsed m.blk u) (fun x _ => by unfold setUsed; split <;> simp) (fun x hx => ?_) (Same.set _ _ _ (List.mem_map_of_mem hm))
  by_cases e : x.blk = m.blk
  · rw [e, heap_set (e ▸ (h.mods x hx).1)]
    simp [setUsed, e]
  · rw [Below.heap_setCell _ _ _ _ e]
    simpa [setUsed, e] using (h.mods x hx).1
theorem ShelfIs.putTouched {B p : Nat} {W : World} {L : Lay} (h : ShelfIs B W p L) {m : LM} (hm : m ∈ L.ms) (u : Int) : Step B W (W.setCell ⟨m.blk, 4, none⟩ (.int .i64 u)) p L { L with ms := L.ms.map (setTouched m.blk u) } := by
  refine h.mod (setTouched m.blk u) (fun x _ => by unfold setTouched; split <;> simp) (fun x hx => ?_) (Same.set _ _ _ (List.mem_map_of_mem hm))
  by_cases e : x.blk = m.blk
  · rw [e, heap_set (e ▸ (h.mods x hx).1)]
    simp [setTouched, e]
  · rw [Below.heap_setCell _ _ _ _ e]
    simpa [setTouched, e] using (h.mods x hx).1
end Go.Proofs.Ytancenklmfamnaa.Sh
