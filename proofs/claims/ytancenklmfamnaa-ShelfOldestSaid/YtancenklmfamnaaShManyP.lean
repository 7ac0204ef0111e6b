/- ShelfMany: the plain law. -/
import Derived.Test.YtancenklmfamnaaShBegun
set_option linter.unusedVariables false
set_option linter.unusedSimpArgs false
namespace Go.Proofs.Ytancenklmfamnaa.Sh
open Go.RowKit Go.Maps Go.Sort Go.Shelf
open Go.Proofs

def bX : ByteArray := ⟨#[120]⟩
theorem okX : Nm.nameOk bX = true := by decide +kernel
def nmI (i : Nat) : ByteArray := ⟨#[110, UInt8.ofNat (97 + i % 16), UInt8.ofNat (97 + i / 16 % 16), UInt8.ofNat (97 + i / 256 % 16), UInt8.ofNat (97 + i / 4096)]⟩
theorem nmI_inj {i j : Nat} (hi : i < 65536) (hj : j < 65536) (h : nmI i = nmI j) : i = j := by
  simp only [nmI, ByteArray.mk.injEq, Array.mk.injEq, List.cons.injEq, and_true, true_and] at h
  obtain ⟨h1, h2, h3, h4⟩ := h
  have e : ∀ a b : Nat, a < 256 → b < 256 → UInt8.ofNat a = UInt8.ofNat b → a = b := fun a b ha hb h => by
    have := congrArg UInt8.toNat h
    simp at this
    omega
  have h1 := e _ _ (by omega) (by omega) h1
  have h2 := e _ _ (by omega) (by omega) h2
  have h3 := e _ _ (by omega) (by omega) h3
  have h4 := e _ _ (by omega) (by omega) h4
  omega
theorem nmI_ok {i : Nat} (hi : i < 65536) : Nm.nameOk (nmI i) = true := by
  have hs : (nmI i).size = 5 := rfl
  have hb : ∀ k : Nat, (h : k < 5) → YtancenklmfamnaaW.PrintWords.bt (nmI i) k = (((nmI i).data[k]'h).toNat : Int) := fun k h => by
    unfold YtancenklmfamnaaW.PrintWords.bt
    rw [dif_pos (show (k : Int).toNat < (nmI i).size by rw [hs]; simpa using h)]
    rfl
  have hl : ∀ n : Nat, 97 ≤ n → n ≤ 122 → Nm.letterB n = true := fun n h1 h2 => by
    simp [Nm.letterB]
    omega
  have t : ∀ a : Nat, a < 16 → (UInt8.ofNat (97 + a)).toNat = 97 + a := fun a h => by simp; omega
  simp only [Nm.nameOk, hs]
  simp only [Nm.allFrom]
  rw [hb 0 (by omega), hb (0 + 1) (by omega), hb (0 + 1 + 1) (by omega), hb (0 + 1 + 1 + 1) (by omega), hb (0 + 1 + 1 + 1 + 1) (by omega)]
  have e0 : Nm.letterB (((nmI i).data[0]'(by show 0 < 5; omega)).toNat : Int) = true := by
    show Nm.letterB (110 : Int) = true
    decide
  have e1 : Nm.letterB (((nmI i).data[0 + 1]'(by show 1 < 5; omega)).toNat : Int) = true := by
    show Nm.letterB ((UInt8.ofNat (97 + i % 16)).toNat : Int) = true
    rw [t _ (by omega)]
    exact hl _ (by omega) (by omega)
  have e2 : Nm.letterB (((nmI i).data[0 + 1 + 1]'(by show 2 < 5; omega)).toNat : Int) = true := by
    show Nm.letterB ((UInt8.ofNat (97 + i / 16 % 16)).toNat : Int) = true
    rw [t _ (by omega)]
    exact hl _ (by omega) (by omega)
  have e3 : Nm.letterB (((nmI i).data[0 + 1 + 1 + 1]'(by show 3 < 5; omega)).toNat : Int) = true := by
    show Nm.letterB ((UInt8.ofNat (97 + i / 256 % 16)).toNat : Int) = true
    rw [t _ (by omega)]
    exact hl _ (by omega) (by omega)
  have e4 : Nm.letterB (((nmI i).data[0 + 1 + 1 + 1 + 1]'(by show 4 < 5; omega)).toNat : Int) = true := by
    show Nm.letterB ((UInt8.ofNat (97 + i / 4096)).toNat : Int) = true
    rw [t _ (by omega)]
    exact hl _ (by omega) (by omega)
  have and2 : ∀ {a b : Bool}, a = true → b = true → (a && b) = true := fun h1 h2 => by rw [h1, h2]; rfl
  exact and2 (by decide) (and2 e0 (and2 e1 (and2 e2 (and2 e3 (and2 e4 rfl)))))

/-- a model, but for where it lies -/
def sig (m : LM) : ByteArray × Int × List Int × Int × Int := (m.name, m.ver, m.dat, m.used, m.touched)
def sigX (v : Nat) : ByteArray × Int × List Int × Int × Int := (bX, v, [], 0, v)
theorem sig_mem {l : List LM} {vs : List Nat} {f : Nat → ByteArray × Int × List Int × Int × Int} (h : l.map sig = vs.map f) {m : LM} (hm : m ∈ l) : ∃ v ∈ vs, sig m = f v := by
  have : sig m ∈ vs.map f := h ▸ List.mem_map_of_mem hm
  obtain ⟨v, hv, e⟩ := List.mem_map.1 this
  exact ⟨v, hv, e.symm⟩
theorem sizes_zero {l : List LM} (h : ∀ m ∈ l, m.dat = []) : sizes l = 0 := by
  induction l with
  | nil => rfl
  | cons x l ih =>
    simp [sizes, sz, h x List.mem_cons_self, ih fun m hm => h m (List.mem_cons_of_mem _ hm)]
theorem unused_self {L : Lay} (hu : ∀ m ∈ L.ms, m.used = 0) (hp : L.ms.Pairwise fun a b => a.touched < b.touched) : unusedL L = L.ms := by
  unfold unusedL
  rw [List.filter_eq_self.2 fun m hm => by simp [isUnused, hu m hm]]
  exact List.mergeSort_of_pairwise (hp.imp fun h => by simp; omega)
theorem keep_tail {L : Lay} {x : LM} {l : List LM} (hms : L.ms = x :: l) (hb : (L.ms.map (·.blk)).Nodup) : keepL L [x] = l := by
  unfold keepL
  rw [hms] at hb ⊢
  simp only [List.map_cons, List.nodup_cons] at hb
  rw [List.filter_cons_of_neg (by simp [gone])]
  refine List.filter_eq_self.2 fun y hy => ?_
  have : x.blk ≠ y.blk := fun e => hb.1 (List.mem_map.2 ⟨y, hy, e.symm⟩)
  simp [gone, this]
theorem pick_free {L : Lay} (g : Good L) (hf : ∀ m ∈ L.ms, m.dat = [] ∧ m.used = 0) (hfew : L.ms.length ≤ 256) : L.bytes = 0 ∧ ∃ i, pickL L 0 = some i := by
  have hb : L.bytes = 0 := by rw [g.bytes]; exact sizes_zero fun m hm => (hf m hm).1
  refine ⟨hb, ?_⟩
  have hr := g.room.1
  by_cases hc : L.count < 256
  · exact ⟨0, pick_zero ⟨by omega, hc⟩⟩
  · have hl : (unusedL L).length = L.ms.length := by
      unfold unusedL
      rw [List.length_mergeSort, List.filter_eq_self.2 fun m hm => by simp [isUnused, (hf m hm).2]]
    have h256 : L.ms.length = 256 := by have := g.count; omega
    cases hu : unusedL L with
    | nil => rw [hu] at hl; simp at hl; omega
    | cons x l =>
      have hx : x.dat = [] := (hf x (unused_mem (by rw [hu]; exact List.mem_cons_self)).1).1
      refine ⟨1, ?_⟩
      unfold pickL
      rw [hu, List.map_cons, vcount_on (by omega), vcount_yes (by simp [sz, hx]; have := g.count; omega)]
      rfl

theorem range_snoc {α : Type} (f : Nat → α) (s n : Nat) : (List.range' s (n + 1)).map f = (List.range' s n).map f ++ [f (s + n)] := by
  rw [List.range'_1_concat, List.map_append]
  rfl
/-- phase one: n versions from lo on -/
structure PhA (L : Lay) (lo n i : Nat) : Prop where
  room : L.room = 1
  touch : L.touch = i
  last : L.last = if i = 0 then [] else [(bX, (i : Int))]
  ms : L.ms.map sig = (List.range' lo n).map sigX
  le : lo + n = i + 1
theorem PhA.all {L : Lay} {lo n i : Nat} (h : PhA L lo n i) : ∀ m ∈ L.ms, m.name = bX ∧ m.dat = [] ∧ m.used = 0 ∧ m.touched = m.ver := fun m hm => by
  obtain ⟨v, _, e⟩ := sig_mem h.ms hm
  simp [sig, sigX] at e
  exact ⟨e.1, e.2.2.1, e.2.2.2.1, by rw [e.2.1, e.2.2.2.2]⟩
theorem PhA.sorted {L : Lay} {lo n i : Nat} (h : PhA L lo n i) : L.ms.Pairwise fun a b => a.touched < b.touched := by
  have h1 : (L.ms.map sig).map (fun s => s.2.2.2.2) = L.ms.map (·.touched) := by rw [List.map_map]; rfl
  have h2 : ((L.ms.map sig).map fun s => s.2.2.2.2).Pairwise (· < ·) := by
    rw [h.ms, List.map_map]
    refine List.pairwise_map.2 ((List.pairwise_lt_range' (s := lo) (n := n) (step := 1) (by omega)).imp fun hlt => ?_)
    simp [sigX]
    exact hlt
  rw [h1] at h2
  exact List.pairwise_map.1 h2
theorem PhA.len {L : Lay} {lo n i : Nat} (h : PhA L lo n i) : L.ms.length = n := by
  have := congrArg List.length h.ms
  simpa using this
theorem PhA.bytes {L : Lay} {lo n i : Nat} (h : PhA L lo n i) (g : Good L) : L.bytes = 0 := by rw [g.bytes]; exact sizes_zero fun m hm => (h.all m hm).2.1
theorem PhA.start (a b : Nat) : PhA (Lay.start 1 a b) 1 0 0 := ⟨rfl, rfl, rfl, rfl, rfl⟩
theorem PhA.lastOf {L : Lay} {lo n i : Nat} (h : PhA L lo n i) : L.lastOf bX = (if i = 0 then none else some (i : Int)) ∧ L.last.length ≤ 1 := by
  simp only [Lay.lastOf]
  rw [h.last]
  split <;> simp
theorem PhA.noroom {L : Lay} {lo n i : Nat} (h : PhA L lo n i) (g : Good L) (hn : n ≤ 256) : ¬ NoRoom L bX 0 := by
  have hl := h.len
  obtain ⟨_, j, hj⟩ := pick_free g (fun m hm => ⟨(h.all m hm).2.1, (h.all m hm).2.2.1⟩) (by omega)
  rintro (⟨_, h1⟩ | h1 | h1)
  · have := h.lastOf.2; omega
  · have := h.room; omega
  · have h2 : pickL L 0 = none := h1
    rw [hj] at h2; cases h2
theorem PhA.ver {L : Lay} {lo n i : Nat} (h : PhA L lo n i) : (L.lastOf bX).getD 0 + 1 = ((i + 1 : Nat) : Int) := by
  rw [h.lastOf.1]
  split <;> simp
  omega
theorem PhA.last_next {L L' : Lay} {lo n i j : Nat} {new : LM} (h : PhA L lo n i) (hl : Laid L L' bX ((i + 1 : Nat) : Int) [] j new) : L'.last = if i + 1 = 0 then [] else [(bX, ((i + 1 : Nat) : Int))] := by
  rw [if_neg (by omega), hl.last, h.last, h.lastOf.1]
  by_cases hi : i = 0
  · subst hi
    decide +kernel
  · rw [if_neg hi, if_neg hi]
    have e : max ((some (i : Int)).getD 0) ((i + 1 : Nat) : Int) = ((i + 1 : Nat) : Int) := by
      simp only [Option.getD_some]
      omega
    rw [e]
    simp [setLast, knownIn, putAt]
theorem PhA.next {L L' : Lay} {i j : Nat} {new : LM} (h : PhA L 1 i i) (g : Good L) (hi : i < 256) (hl : Laid L L' bX ((i + 1 : Nat) : Int) [] j new) : PhA L' 1 (i + 1) (i + 1) := by
  have hc := g.count
  have hln := h.len
  have hb := h.bytes g
  have hms := hl.plain ⟨by rw [hb, h.room]; decide, by omega⟩
  refine ⟨by rw [hl.room]; exact h.room, by rw [hl.touch, h.touch]; rfl, h.last_next hl, ?_, by omega⟩
  rw [hms, List.map_append, h.ms, List.range'_1_concat, List.map_append]
  congr 1
  simp only [List.map_cons, List.map_nil, sig, sigX, hl.name, hl.ver_, hl.dat_, hl.used, hl.touched, h.touch]
  have e : ((i + 1 : Nat) : Int) = ((1 + i : Nat) : Int) := by omega
  have e2 : ((i : Nat) : Int) + 1 = ((1 + i : Nat) : Int) := by omega
  rw [e, e2]
theorem PhA.turn {L L' : Lay} {j : Nat} {new : LM} (h : PhA L 1 256 256) (g : Good L) (hbk : (L.ms.map (·.blk)).Nodup) (hl : Laid L L' bX ((257 : Nat) : Int) [] j new) : PhA L' 2 256 257 := by
  have hc := g.count
  have hln := h.len
  have hb := h.bytes g
  have hun := unused_self (fun m hm => (h.all m hm).2.2.1) h.sorted
  obtain ⟨x, l, hxl⟩ : ∃ x l, L.ms = x :: l := by
    cases e : L.ms with
    | nil => rw [e] at hln; simp at hln
    | cons x l => exact ⟨x, l, rfl⟩
  have hx := h.all x (by rw [hxl]; exact List.mem_cons_self)
  have hpick : pickL L 0 = some 1 := by
    unfold pickL
    rw [hun, hxl, List.map_cons, vcount_on (by omega), vcount_yes (by simp [sz, hx.2.1]; have := h.room; omega)]
    rfl
  have hj : j = 1 := by
    have h1 : pickL L 0 = some j := hl.pick
    rw [hpick] at h1
    exact (Option.some.inj h1).symm
  have hms : L'.ms = l ++ [new] := by
    rw [hl.ms, hj, hun, hxl]
    show keepL L [x] ++ [new] = _
    rw [keep_tail hxl hbk]
  have hl2 : l.map sig = (List.range' 2 255).map sigX := by
    have h1 := h.ms
    rw [hxl, show (256 : Nat) = 255 + 1 from rfl, List.range'_succ] at h1
    simp only [List.map_cons, List.cons.injEq] at h1
    exact h1.2
  refine ⟨by rw [hl.room]; exact h.room, by rw [hl.touch, h.touch]; rfl, h.last_next hl, ?_, by omega⟩
  have e : ((257 : Nat) : Int) = ((2 + 255 : Nat) : Int) := by omega
  have e2 : ((256 : Nat) : Int) + 1 = ((2 + 255 : Nat) : Int) := by omega
  have hnew : [new].map sig = [sigX (2 + 255)] := by
    simp only [List.map_cons, List.map_nil, sig, sigX, hl.name, hl.ver_, hl.dat_, hl.used, hl.touched, h.touch]
    rw [e, e2]
  rw [hms, List.map_append, hl2, hnew, range_snoc sigX 2 255]

def sigB (j v : Nat) : ByteArray × Int × List Int × Int := (bX, (v : Int), [], if v < 2 + j then 1 else 0)
/-- phase two: j of them are in use -/
structure PhB (L : Lay) (j : Nat) : Prop where
  room : L.room = 1
  touch : L.touch = 257 + j
  last : L.last = [(bX, 257)]
  ms : (L.ms.map fun m => (m.name, m.ver, m.dat, m.used)) = (List.range' 2 256).map (sigB j)
theorem PhA.toB {L : Lay} (h : PhA L 2 256 257) : PhB L 0 := by
  refine ⟨h.room, h.touch, h.last, ?_⟩
  have h1 := congrArg (List.map fun s : ByteArray × Int × List Int × Int × Int => (s.1, s.2.1, s.2.2.1, s.2.2.2.1)) h.ms
  rw [List.map_map, List.map_map] at h1
  refine h1.trans (List.map_congr_left fun v hv => ?_)
  have := (List.mem_range'_1.1 hv).1
  simp [sigX, sigB]
  omega
theorem PhB.mem {L : Lay} {j : Nat} (h : PhB L j) {m : LM} (hm : m ∈ L.ms) : m.name = bX ∧ m.dat = [] ∧ ∃ v : Nat, 2 ≤ v ∧ v < 258 ∧ m.ver = v ∧ m.used = if v < 2 + j then 1 else 0 := by
  have : (m.name, m.ver, m.dat, m.used) ∈ L.ms.map fun m => (m.name, m.ver, m.dat, m.used) := List.mem_map.2 ⟨m, hm, rfl⟩
  rw [h.ms] at this
  obtain ⟨v, hv, e⟩ := List.mem_map.1 this
  have := List.mem_range'_1.1 hv
  simp only [sigB, Prod.mk.injEq] at e
  exact ⟨e.1.symm, e.2.2.1.symm, v, by omega, by omega, e.2.1.symm, e.2.2.2.symm⟩
theorem PhB.len {L : Lay} {j : Nat} (h : PhB L j) : L.ms.length = 256 := by
  have := congrArg List.length h.ms
  simpa using this
theorem PhB.find {L : Lay} {j : Nat} (h : PhB L j) (hj : j < 256) : ∃ m, (L.find bX ((j : Int) + 2) true).1 = some m ∧ m ∈ L.ms ∧ m.used = 0 ∧ m.ver = (j : Int) + 2 ∧ m.dat = [] := by
  obtain ⟨m, hm, hv⟩ : ∃ m ∈ L.ms, m.ver = (j : Int) + 2 := by
    have : sigB j (2 + j) ∈ (List.range' 2 256).map (sigB j) := List.mem_map.2 ⟨2 + j, List.mem_range'_1.2 (by omega), rfl⟩
    rw [← h.ms] at this
    obtain ⟨m, hm, e⟩ := List.mem_map.1 this
    simp [sigB] at e
    exact ⟨m, hm, by rw [e.2.1]; omega⟩
  have hn : L.nOf bX ≠ 0 := by
    have : L.ms.filter (fun m => decide (m.name = bX)) = L.ms := List.filter_eq_self.2 fun y hy => by simp [(h.mem hy).1]
    unfold Lay.nOf
    rw [this, h.len]
    decide
  obtain ⟨m', hm'⟩ : ∃ m', L.modOf bX ((j : Int) + 2) = some m' := by
    cases e : L.modOf bX ((j : Int) + 2) with
    | some m' => exact ⟨m', rfl⟩
    | none =>
      have := List.find?_eq_none.1 e m hm
      simp [(h.mem hm).1, hv] at this
  obtain ⟨k1, k2, k3⟩ := find_key hm'
  obtain ⟨_, hd, v, _, _, e1, e2⟩ := h.mem k1
  refine ⟨m', ?_, k1, ?_, k3, hd⟩
  · unfold Lay.find Lay.which
    rw [if_neg hn, if_neg (by omega), hm']
  · rw [e2, if_neg (by omega)]
theorem PhB.next {L : Lay} {j : Nat} (h : PhB L j) (hk : (L.ms.map fun m => (m.name, m.ver)).Nodup) (hb : (L.ms.map (·.blk)).Nodup) {m : LM} (hm : m ∈ L.ms) (hu : m.used = 0) (hv : m.ver = (j : Int) + 2) : PhB (L.took m) (j + 1) := by
  refine ⟨h.room, by show L.touch + 1 = _; rw [h.touch]; omega, h.last, ?_⟩
  show (L.ms.map (takeF m.blk (m.used + 1) (L.touch + 1))).map _ = _
  rw [List.map_map]
  have e1 : (L.ms.map ((fun m => (m.name, m.ver, m.dat, m.used)) ∘ takeF m.blk (m.used + 1) (L.touch + 1))) = (L.ms.map fun m => (m.name, m.ver, m.dat, m.used)).map fun s => (s.1, s.2.1, s.2.2.1, if s.2.1 = (j : Int) + 2 then (1 : Int) else s.2.2.2) := by
    rw [List.map_map]
    refine List.map_congr_left fun x hx => ?_
    obtain ⟨a1, a2, a3, a4⟩ := takeF_key m.blk (m.used + 1) (L.touch + 1) x
    simp only [Function.comp_def, a1, a2, a3]
    by_cases e : x.blk = m.blk
    · have := map_inj hb hx hm e
      subst this
      rw [if_pos hv]
      simp [takeF, hu]
    · have hne : x.ver ≠ (j : Int) + 2 := fun e2 => e (by rw [map_inj hk hx hm (by rw [(h.mem hx).1, (h.mem hm).1, e2, hv])])
      rw [if_neg hne]
      simp [takeF, e]
  rw [e1, h.ms, List.map_map]
  refine List.map_congr_left fun v hv2 => ?_
  show ((bX, (v : Int), ([] : List Int), if (v : Int) = (j : Int) + 2 then (1 : Int) else if v < 2 + j then 1 else 0) : ByteArray × Int × List Int × Int) = (bX, (v : Int), [], if v < 2 + (j + 1) then 1 else 0)
  by_cases e : (v : Int) = (j : Int) + 2
  · rw [if_pos e, if_pos (by omega)]
  · rw [if_neg e]
    by_cases e2 : v < 2 + j
    · rw [if_pos e2, if_pos (by omega)]
    · rw [if_neg e2, if_neg (by omega)]
theorem PhB.noroom {L : Lay} (h : PhB L 256) (g : Good L) : NoRoom L bX 0 := by
  refine .inr (.inr ?_)
  have hun : unusedL L = [] := by
    unfold unusedL
    have : L.ms.filter isUnused = [] := List.filter_eq_nil_iff.2 fun m hm => by
      obtain ⟨_, _, v, h1, h2, h3, h4⟩ := h.mem hm
      rw [if_pos (by omega)] at h4
      simp [isUnused, h4]
    rw [this]
    simp
  have := g.count
  have := h.len
  show pickL L 0 = none
  unfold pickL
  rw [hun]
  exact vcount_no (by omega)
theorem PhB.one {L : Lay} {j : Nat} (h : PhB L j) : L.modOf bX 1 = none := by
  refine List.find?_eq_none.2 fun m hm => ?_
  obtain ⟨_, _, v, h1, h2, h3, h4⟩ := h.mem hm
  simp
  intro _
  omega
theorem PhB.lastOf {L : Lay} {j : Nat} (h : PhB L j) : (L.lastOf bX).getD 0 = 257 := by
  simp only [Lay.lastOf]
  rw [h.last]
  simp

/-- phase three: i names are known -/
structure PhC (L : Lay) (i : Nat) : Prop where
  room : L.room = 1
  touch : L.touch = i
  len : L.last.length = i
  yes : ∀ j, j < i → L.lastOf (nmI j) = some 1
  no : ∀ s, (∀ j, j < i → s ≠ nmI j) → L.lastOf s = none
  free : ∀ m ∈ L.ms, m.dat = [] ∧ m.used = 0
theorem PhC.start (a b : Nat) : PhC (Lay.start 1 a b) 0 := ⟨rfl, rfl, rfl, fun j h => absurd h (Nat.not_lt_zero j), fun s _ => rfl, fun m hm => by cases hm⟩
theorem PhC.new {L : Lay} {i : Nat} (h : PhC L i) (hi : i < 65536) : L.lastOf (nmI i) = none := h.no _ fun j hj e => by have := nmI_inj hi (by omega) e; omega
theorem PhC.noroom {L : Lay} {i : Nat} (h : PhC L i) (g : Good L) (hfew : L.ms.length ≤ 256) {s : ByteArray} (hs : i < 65536 ∨ L.lastOf s ≠ none) : ¬ NoRoom L s 0 := by
  obtain ⟨_, k, hk⟩ := pick_free g h.free hfew
  rintro (⟨h1, h2⟩ | h1 | h1)
  · rw [h.len] at h2
    rcases hs with hs | hs
    · omega
    · exact hs h1
  · have := h.room; omega
  · have h2 : pickL L 0 = none := h1
    rw [hk] at h2; cases h2
theorem PhC.next {L L' : Lay} {i j : Nat} {new : LM} (h : PhC L i) (hi : i < 65536) (hl : Laid L L' (nmI i) 1 [] j new) : PhC L' (i + 1) := by
  have hn := h.new hi
  have hlo := lastOf_laid hl
  rw [hn] at hlo
  refine ⟨by rw [hl.room]; exact h.room, by rw [hl.touch, h.touch]; rfl, ?_, fun k hk => ?_, fun s hs => ?_, fun m hm => ?_⟩
  · rw [hl.last]
    unfold setLast
    rw [if_neg (by rw [(lastOf_none_iff L _).1 hn]; decide)]
    simp [h.len]
  · rw [hlo]
    by_cases e : k = i
    · subst e; rw [if_pos rfl]; rfl
    · rw [if_neg (fun e2 => e (nmI_inj (by omega) hi e2))]
      exact h.yes k (by omega)
  · rw [hlo, if_neg (hs i (by omega))]
    exact h.no s fun j hj => hs j (by omega)
  · rw [hl.ms] at hm
    rcases List.mem_append.1 hm with hm | hm
    · exact h.free m (List.mem_filter.1 hm).1
    · simp at hm
      subst hm
      exact ⟨hl.dat_, hl.used⟩
def bOne : ByteArray := ⟨#[111, 110, 101, 95, 109, 111, 114, 101]⟩
theorem okOne : Nm.nameOk bOne = true := by decide +kernel
theorem one_ne (j : Nat) : bOne ≠ nmI j := fun h => by
  have := congrArg ByteArray.size h
  have e1 : bOne.size = 8 := rfl
  have e2 : (nmI j).size = 5 := rfl
  omega
theorem PhC.full {L : Lay} (h : PhC L 65536) : NoRoom L bOne 0 := .inl ⟨h.no _ fun j _ => one_ne j, by rw [h.len]; exact Nat.le_refl _⟩
theorem PhC.modOne {L : Lay} {i : Nat} (h : PhC L i) (g : Good L) : L.modOf bOne 7 = none := by
  refine List.find?_eq_none.2 fun m hm => ?_
  simp
  intro e
  obtain ⟨v, h1, _⟩ := g.known m hm
  rw [e, h.no _ fun j _ => one_ne j] at h1
  cases h1

theorem PhA.sortedN {L : Lay} {lo n i : Nat} (h : PhA L lo n i) : sortedN L = L.ms := by
  unfold Sh.sortedN
  refine List.mergeSort_of_pairwise (h.sorted.imp_of_mem fun {a b} ha hb hlt => ?_)
  have ha' := h.all a ha
  have hb' := h.all b hb
  simp
  rintro (h1 | ⟨_, h1⟩)
  · rw [ha'.1, hb'.1] at h1
    exact List.lt_irrefl _ h1
  · rw [ha'.2.2.2, hb'.2.2.2] at hlt
    omega
theorem PhA.head {L : Lay} (h : PhA L 2 256 257) : ∃ x l, L.ms = x :: l ∧ x.ver = 2 ∧ l.length = 255 := by
  have hl := h.len
  cases e : L.ms with
  | nil => rw [e] at hl; simp at hl
  | cons x l =>
    refine ⟨x, l, rfl, ?_, by rw [e] at hl; simpa using hl⟩
    have h1 := h.ms
    rw [e, show (256 : Nat) = 255 + 1 from rfl, List.range'_succ] at h1
    simp only [List.map_cons, List.cons.injEq] at h1
    have h2 := h1.1
    simp only [sig, sigX, Prod.mk.injEq] at h2
    exact h2.2.1
open Go.Proofs.YtancenklmfamnaaW.PrintWords (OwnRow) in
theorem head_cells {w : World} {base : Nat} {v : Value} {x : LM} {l : List LM} (h : OwnRow RL 39 4 w base v (x :: l)) : ∃ g c, v = .slice (some ⟨g, 0, none⟩) (l.length + 1) c ∧ w.cell? ⟨g, 1, none⟩ = some (.int .i64 x.ver) := by
  obtain ⟨inner, ⟨h1, h2⟩, h3⟩ := h
  rcases h2 with ⟨_, h0⟩ | ⟨g, cap, cur, rfl, hg, hcur, hcap, hcm, hsz, hcells⟩
  · simp at h0
  · refine ⟨g, cap, rfl, ?_⟩
    have e1 : (inner.drop (0 * 4)).take 4 = cellsOf x := h3.2 0 x rfl
    have e2 : inner[1]? = some (.int .i64 x.ver) := by
      have := congrArg (fun l => l[1]?) e1
      simpa [cellsOf, List.getElem?_take_of_lt] using this
    rw [Lib.cell_of_heap hcur, ← Array.getElem?_toList]
    rw [← hcells, List.getElem?_take_of_lt (by simp; omega)] at e2
    exact e2

def numsI (i : Nat) : List Int := [110, 97 + (i : Int) % 16, 97 + (i : Int) / 16 % 16, 97 + (i : Int) / 256 % 16, 97 + (i : Int) / 4096]
theorem nums_str (i : Nat) : strOfNums (numsI i) = nmI i := by
  unfold strOfNums numsI nmI
  have e1 : (97 + (i : Int) % 16).toNat = 97 + i % 16 := by omega
  have e2 : (97 + (i : Int) / 16 % 16).toNat = 97 + i / 16 % 16 := by omega
  have e3 : (97 + (i : Int) / 256 % 16).toNat = 97 + i / 256 % 16 := by omega
  have e4 : (97 + (i : Int) / 4096).toNat = 97 + i / 4096 := by omega
  simp [e1, e2, e3, e4]
theorem conv_nm (i : Nat) (w : World) : (convert 22 9 (.slice (some ⟨w.heap.size, 0, none⟩) 5 5)).run Try.prog (w.alloc (.cells #[.int .u8 110, .int .u8 (97 + (i : Int) % 16), .int .u8 (97 + (i : Int) / 16 % 16), .int .u8 (97 + (i : Int) / 256 % 16), .int .u8 (97 + (i : Int) / 4096)] 5)) =
    .ok (.string (nmI i)) (w.alloc (.cells #[.int .u8 110, .int .u8 (97 + (i : Int) % 16), .int .u8 (97 + (i : Int) / 16 % 16), .int .u8 (97 + (i : Int) / 256 % 16), .int .u8 (97 + (i : Int) / 4096)] 5)) := by
  have hr : RdB (w.alloc (.cells #[.int .u8 110, .int .u8 (97 + (i : Int) % 16), .int .u8 (97 + (i : Int) / 16 % 16), .int .u8 (97 + (i : Int) / 256 % 16), .int .u8 (97 + (i : Int) / 4096)] 5)) (.slice (some ⟨w.heap.size, 0, none⟩) (numsI i).length 5) (numsI i) := RdB.blk (alloc_is w _) (Nat.le_refl 5)
  obtain ⟨A, c, hv, _, hC⟩ := hr.C (by show (5 : Nat) ≤ _; decide)
  have h := YtancenklmfamnaaW.PrintWords.Kd.C_string (P := Try.prog) (c := c) Try.underlying22 Try.underlying5 Try.underlying9 hC
  rw [nums_str, ← hv] at h
  exact h
end Go.Proofs.Ytancenklmfamnaa.Sh
