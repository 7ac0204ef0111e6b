/- the shelf's maps: what is read and written there. the shelf's maps, written. models laid on the shelf, and taken away. -/
import Derived.Test.YtancenklmfamnaaGreatShIter
import Derived.StringKeys
set_option linter.unusedVariables false
set_option linter.unusedSimpArgs false
namespace Go.Proofs.YtancenklmfamnaaGreat.Sh
open Go.RowKit Go.Maps Go.Sort Go.Shelf
open Go.Proofs

section
variable {W : World} {k : TypeId} {R : Value → Option (DataW Unit × List MemPlace)} {b n : Nat} {D : DataW Unit} {f : Lit → Option (DataW Unit)} {t e : TypeId} {z : Value} {key : Value} {kl : Lit}
theorem look_none (c : Bool) (h : W.ownsMap Tryz.prog k R b n D) (hv : View D f) (K : Keyed Tryz.prog k) (ht : Tryz.prog.underlying t = some (.map k e)) (hz : (zeroValue e).run Tryz.prog W = .ok z W) (hkey : keyOf Tryz.prog k key = some kl) (hf : f kl = none) :
    (Instr.lookup t (.map (some b)) key c).run Tryz.prog W = .ok (if c then .tuple #[z, .bool false] else z) W := by
  have hh := hv.has kl
  rw [hf] at hh
  obtain ⟨es, clock, hb, F, _, rfl⟩ := h
  rcases Maps.fit_look c K ht hz hb F hkey with ⟨hrun, _, hat⟩ | ⟨e0, y, _, _, hrun, hRv, hat, _⟩
  · exact hrun
  · rw [Maps.has_true_of_atKey hat] at hh
    cases hh
theorem look_some (c : Bool) (h : W.ownsMap Tryz.prog k R b n D) (hv : View D f) (K : Keyed Tryz.prog k) (ht : Tryz.prog.underlying t = some (.map k e)) (hz : (zeroValue e).run Tryz.prog W = .ok z W) (hkey : keyOf Tryz.prog k key = some kl) {d : DataW Unit} (hf : f kl = some d) :
    ∃ v ps, R v = some (d, ps) ∧ (Instr.lookup t (.map (some b)) key c).run Tryz.prog W = .ok (if c then .tuple #[v, .bool true] else v) W := by
  have hh := hv.has kl
  have ha := hv.at_ kl
  rw [hf] at hh ha
  obtain ⟨es, clock, hb, F, _, rfl⟩ := h
  rcases Maps.fit_look c K ht hz hb F hkey with ⟨hrun, _, hat⟩ | ⟨e0, y, he0, hk0, hrun, hRv, hat, _⟩
  · rw [Maps.has_false_of_atKey hat] at hh
    cases hh
  · have hd : d = y.1 := by
      have := (ha (.lit (.bool true))).symm.trans (hat _)
      simpa using this
    exact ⟨e0.val, y.2, by rw [hRv, hd], hrun⟩
end

theorem zero86 (w : World) : (zeroValue 112).run Tryz.prog w = .ok (.map none) w := by kernel_rfl
theorem zero72 (w : World) : (zeroValue 91).run Tryz.prog w = .ok (.pointer none) w := by kernel_rfl
theorem zero2 (w : World) : (zeroValue 2).run Tryz.prog w = .ok (.int .i64 0) w := by kernel_rfl
abbrev K9 : Keyed Tryz.prog 9 := string_keyed Tryz.underlying9
abbrev K2 : Keyed Tryz.prog 2 := int_keyed Tryz.underlying2
theorem key9 {s : ByteArray} (h : s.size ≤ maxLen) : keyOf Tryz.prog 9 (.string s) = some (keyS s) := WideMaps.keyOf_string_mk Tryz.underlying9 h
theorem key2 {v : Int} (h : (Lit.int .i64 v).wf = true) : keyOf Tryz.prog 2 (.int .i64 v) = some (.int .i64 v) := keyOf_int_mk Tryz.underlying2 h

/-- the inner map of a name -/
def Lay.innOf (L : Lay) (nm : ByteArray) : Option Nat := (L.inn.find? fun x => decide (x.1 = nm)).map (·.2)
def Lay.lastOf (L : Lay) (nm : ByteArray) : Option Int := (L.last.find? fun x => decide (x.1 = nm)).map (·.2)
def Lay.modOf (L : Lay) (nm : ByteArray) (v : Int) : Option LM := L.ms.find? fun m => decide (m.name = nm) && decide (m.ver = v)
theorem dec_list (a b : ByteArray) : decide (a.data.toList = b.data.toList) = decide (a = b) := by
  have : (a.data.toList = b.data.toList) ↔ a = b := ⟨toList_inj, fun h => by rw [h]⟩
  simp [this]
theorem outerF_eq (L : Lay) (nm : ByteArray) : outerF L.inn (keyS nm) = (L.innOf nm).map litB := by
  simp only [outerF, keyS, Lay.innOf, Option.map_map]
  simp only [dec_list]
  rfl
theorem lastF_eq (L : Lay) (nm : ByteArray) : lastF L.last (keyS nm) = (L.lastOf nm).map fun v => .lit (.int .i64 v) := by
  simp only [lastF, keyS, Lay.lastOf, Option.map_map]
  simp only [dec_list]
  rfl
theorem innerF_eq (L : Lay) (nm : ByteArray) (v : Int) : innerF L.ms nm (.int .i64 v) = (L.modOf nm v).map fun m => litB m.blk := rfl

section
variable {B p : Nat} {W : World} {L : Lay}
theorem ShelfIs.lookOuter (h : ShelfIs B W p L) (nm : ByteArray) (hnm : nm.size ≤ maxLen) : (Instr.lookup 85 (.map (some L.mm)) (.string nm) false).run Tryz.prog W = .ok (.map (L.innOf nm)) W := by
  obtain ⟨n, D, _, h1, h2⟩ := h.outer
  cases e : L.innOf nm with
  | none => simpa using look_none false h1 h2 K9 Tryz.underlying85 (zero86 W) (key9 hnm) (by rw [outerF_eq, e]; rfl)
  | some b =>
    obtain ⟨v, ps, hv, hr⟩ := look_some false h1 h2 K9 Tryz.underlying85 (zero86 W) (key9 hnm) (d := litB b) (by rw [outerF_eq, e]; rfl)
    obtain ⟨c, rfl, _⟩ := mapElem_inv hv
    rw [mapElem_litB hv] at hr
    simpa using hr
theorem ShelfIs.lookLast (h : ShelfIs B W p L) (nm : ByteArray) (hnm : nm.size ≤ maxLen) : (Instr.lookup 86 (.map (some L.ml)) (.string nm) false).run Tryz.prog W = .ok (.int .i64 ((L.lastOf nm).getD 0)) W ∧
    (Instr.lookup 86 (.map (some L.ml)) (.string nm) true).run Tryz.prog W = .ok (.tuple #[.int .i64 ((L.lastOf nm).getD 0), .bool (L.lastOf nm).isSome]) W := by
  obtain ⟨n, D, _, h1, h2⟩ := h.names
  cases e : L.lastOf nm with
  | none =>
    have hf : lastF L.last (keyS nm) = none := by rw [lastF_eq, e]; rfl
    exact ⟨by simpa using look_none false h1 h2 K9 Tryz.underlying86 (zero2 W) (key9 hnm) hf, by simpa using look_none true h1 h2 K9 Tryz.underlying86 (zero2 W) (key9 hnm) hf⟩
  | some b =>
    have hf : lastF L.last (keyS nm) = some (.lit (.int .i64 b)) := by rw [lastF_eq, e]; rfl
    obtain ⟨v, ps, hv, hr⟩ := look_some false h1 h2 K9 Tryz.underlying86 (zero2 W) (key9 hnm) hf
    obtain ⟨v2, ps2, hv2, hr2⟩ := look_some true h1 h2 K9 Tryz.underlying86 (zero2 W) (key9 hnm) hf
    obtain ⟨a, rfl, ha, _⟩ := plainElem_int_inv Tryz.underlying2 hv
    obtain ⟨a2, rfl, ha2, _⟩ := plainElem_int_inv Tryz.underlying2 hv2
    simp at ha ha2
    obtain ⟨rfl, _⟩ := ha
    obtain ⟨rfl, _⟩ := ha2
    exact ⟨by simpa using hr, by simpa using hr2⟩
theorem ShelfIs.inn_mem (h : ShelfIs B W p L) {nm : ByteArray} {b : Nat} (e : L.innOf nm = some b) : (nm, b) ∈ L.inn := by
  simp only [Lay.innOf, Option.map_eq_some_iff] at e
  obtain ⟨x, hx, rfl⟩ := e
  have h1 := List.find?_some hx
  have h2 := List.mem_of_find?_eq_some hx
  simp at h1
  rw [← h1]
  exact h2
theorem ShelfIs.inn_of (h : ShelfIs B W p L) {x : ByteArray × Nat} (hx : x ∈ L.inn) : L.innOf x.1 = some x.2 := by
  simp only [Lay.innOf]
  cases e : L.inn.find? fun y => decide (y.1 = x.1) with
  | none => exact absurd (List.find?_eq_none.1 e x hx) (by simp)
  | some y =>
    have h1 := List.find?_some e
    have h2 := List.mem_of_find?_eq_some e
    simp at h1
    rw [map_inj h.innNames h2 hx h1]
    rfl
theorem ShelfIs.lookInner (h : ShelfIs B W p L) {nm : ByteArray} {b : Nat} (hb : L.innOf nm = some b) (v : Int) (hv : (Lit.int .i64 v).wf = true) : (Instr.lookup 112 (.map (some b)) (.int .i64 v) false).run Tryz.prog W = .ok (.pointer ((L.modOf nm v).map fun m => ⟨m.blk, 0, none⟩)) W := by
  obtain ⟨n, D, _, h1, h2⟩ := h.inner _ (h.inn_mem hb)
  cases e : L.modOf nm v with
  | none => simpa using look_none false h1 h2 K2 Tryz.underlying112 (zero72 W) (key2 hv) (by rw [innerF_eq, e]; rfl)
  | some m =>
    obtain ⟨u, ps, hu, hr⟩ := look_some false h1 h2 K2 Tryz.underlying112 (zero72 W) (key2 hv) (d := litB m.blk) (by rw [innerF_eq, e]; rfl)
    obtain ⟨q, rfl, hq⟩ := ptrElem_inv hu
    simp at hq
    rw [ptr_of_litB hq.1.symm] at hr
    simpa using hr
theorem lookNil (v : Int) (hv : (Lit.int .i64 v).wf = true) : (Instr.lookup 112 (.map none) (.int .i64 v) false).run Tryz.prog W = .ok (.pointer none) W := by
  simpa using Maps.look_nil false K2 Tryz.underlying112 (zero72 W) (key2 hv)
def Lay.nOf (L : Lay) (nm : ByteArray) : Nat := (L.ms.filter fun m => decide (m.name = nm)).length
theorem ShelfIs.lenInner (h : ShelfIs B W p L) {nm : ByteArray} {b : Nat} (hb : L.innOf nm = some b) (ty : TypeId) : (Builtin.len_ #[112] ty #[.map (some b)]).run Tryz.prog W = .ok (.int .i64 (L.nOf nm : Int)) W := by
  obtain ⟨n, D, _, h1, h2⟩ := h.inner _ (h.inn_mem hb)
  have e := h2.size h1 K2 (inner_keys h.keys) (inner_ks L.ms nm)
  rw [h1.len Tryz.underlying112 ty, e]
  simp [Lay.nOf]
theorem lenNil (ty : TypeId) : (Builtin.len_ #[112] ty #[.map none]).run Tryz.prog W = .ok (.int .i64 0) W := Maps.len_nil Tryz.underlying112 ty
theorem ShelfIs.lenLast (h : ShelfIs B W p L) (ty : TypeId) : (Builtin.len_ #[86] ty #[.map (some L.ml)]).run Tryz.prog W = .ok (.int .i64 (L.last.length : Int)) W := by
  obtain ⟨n, D, _, h1, h2⟩ := h.names
  have e := h2.size h1 K9 (names_keys h.lastNames) (last_ks L.last)
  rw [h1.len Tryz.underlying86 ty, e]
  simp
end
end Go.Proofs.YtancenklmfamnaaGreat.Sh
namespace Go.Proofs.YtancenklmfamnaaGreat.Sh
open Go.RowKit Go.Maps Go.Sort Go.Shelf
open Go.Proofs

theorem owns_empty {W : World} {ib : Nat} (h : W.heap[ib]? = some (.map #[] 0)) : W.ownsMap Tryz.prog 2 ptrElem ib 0 (.map []) := by
  obtain ⟨es, clock, hb, F, hs, hD⟩ := World.ownsMap_made W Tryz.prog 2 ptrElem
  rw [World.alloc_heap_new] at hb
  cases hb
  exact ⟨#[], 0, h, F, hs, hD⟩
theorem Same.turned {S : Nat → Prop} {a b : World} {k : Nat} (h : a.mapTurned b k) (hS : S k) : Same S a b := Same.grown h.grown (fun j e => by cases e; exact .inl hS)
theorem find_append_none {α : Type} {l : List α} {q : α → Bool} (h : l.find? q = none) (x : α) : (l ++ [x]).find? q = if q x then some x else none := by
  rw [List.find?_append, h]
  simp
theorem keyS_data (s : ByteArray) (l : List UInt8) (h : s.data.toList = l) : keyS s = .string l := by simp [keyS, h]

def knownIn (l : List (ByteArray × Int)) (nm : ByteArray) : Bool := l.any fun x => decide (x.1 = nm)
theorem knownIn_iff (l : List (ByteArray × Int)) (nm : ByteArray) : knownIn l nm = true ↔ nm ∈ l.map (·.1) := by
  simp [knownIn, List.any_eq_true, List.mem_map]
def putAt (nm : ByteArray) (v : Int) (x : ByteArray × Int) : ByteArray × Int := if x.1 = nm then (nm, v) else x
theorem putAt_fst (nm : ByteArray) (v : Int) (x : ByteArray × Int) : (putAt nm v x).1 = x.1 := by
  unfold putAt
  split
  · rename_i e; exact e.symm
  · rfl
def setLast (l : List (ByteArray × Int)) (nm : ByteArray) (v : Int) : List (ByteArray × Int) := if knownIn l nm then l.map (putAt nm v) else l ++ [(nm, v)]
theorem setLast_names (l : List (ByteArray × Int)) (nm : ByteArray) (v : Int) : (setLast l nm v).map (·.1) = if knownIn l nm then l.map (·.1) else l.map (·.1) ++ [nm] := by
  unfold setLast
  split
  · rw [List.map_map]
    exact List.map_congr_left fun x _ => putAt_fst nm v x
  · simp
theorem find_putAt_ne {l : List (ByteArray × Int)} {nm s : ByteArray} {v : Int} (hne : s ≠ nm) : ((l.map (putAt nm v)).find? fun x => decide (x.1 = s)) = l.find? fun x => decide (x.1 = s) := by
  induction l with
  | nil => rfl
  | cons x l ih =>
    simp only [List.map_cons, List.find?_cons, putAt_fst, ih]
    split
    · rename_i e
      simp at e
      have : x.1 ≠ nm := fun h => hne (e.symm.trans h)
      simp [putAt, this]
    · rfl
theorem find_putAt_eq {l : List (ByteArray × Int)} {nm : ByteArray} {v : Int} (h : nm ∈ l.map (·.1)) : ((l.map (putAt nm v)).find? fun x => decide (x.1 = nm)) = some (nm, v) := by
  induction l with
  | nil => simp at h
  | cons x l ih =>
    simp only [List.map_cons, List.find?_cons, putAt_fst]
    by_cases e : x.1 = nm
    · simp [e, putAt]
    · simp only [e, decide_false]
      refine ih ?_
      simp only [List.map_cons, List.mem_cons] at h
      rcases h with h | h
      · exact absurd h.symm e
      · exact h
theorem find_set {l : List (ByteArray × Int)} {nm : ByteArray} {v : Int} (s : ByteArray) : ((setLast l nm v).find? fun x => decide (x.1 = s)) = if s = nm then some (nm, v) else l.find? fun x => decide (x.1 = s) := by
  unfold setLast
  split
  · rename_i hm
    by_cases e : s = nm
    · subst e
      rw [if_pos rfl]
      exact find_putAt_eq ((knownIn_iff _ _).1 hm)
    · rw [if_neg e]
      exact find_putAt_ne e
  · rename_i hm
    rw [List.find?_append]
    by_cases e2 : s = nm
    · subst e2
      have : (l.find? fun x => decide (x.1 = s)) = none := List.find?_eq_none.2 fun x hx => by
        simp
        exact fun e => hm ((knownIn_iff _ _).2 (List.mem_map.2 ⟨x, hx, e⟩))
      simp [this]
    · have e3 : ¬ nm = s := fun h => e2 h.symm
      simp [e2, e3]

section
variable {B p : Nat} {w0 W : World} {L : Lay}
theorem ShelfIs.lt (h : ShelfIs B W p L) {k : Nat} (hk : Owned p L k) : k < W.heap.size := by
  have lt : ∀ {k : Nat} {o : Obj}, W.heap[k]? = some o → k < W.heap.size := fun h => (Array.getElem?_eq_some_iff.1 h).1
  obtain ⟨sem, hp⟩ := h.blk
  obtain ⟨n1, D1, _, o1, _⟩ := h.outer
  obtain ⟨n2, D2, _, o2, _⟩ := h.names
  rcases hk with rfl | rfl | rfl | e | e
  · exact lt hp
  · exact o1.lt
  · exact o2.lt
  · obtain ⟨x, hx, rfl⟩ := List.mem_map.1 e
    obtain ⟨n, D, _, o3, _⟩ := h.inner x hx
    exact o3.lt
  · obtain ⟨m, hm, rfl⟩ := List.mem_map.1 e
    exact lt (h.mods m hm).1

theorem ShelfIs.putLast (h : ShelfIs B W p L) {nm : ByteArray} (hnm : nm.size ≤ maxLen) (hlen : L.last.length ≤ 1000000) (v : Int) (hv : (Lit.int .i64 v).wf = true) :
    ∃ W1, (Instr.mapUpdate 86 (.map (some L.ml)) (.string nm) (.int .i64 v)).run Tryz.prog W = .ok () W1 ∧ Step B W W1 p L { L with last := setLast L.last nm v } := by
  obtain ⟨n1, D1, a1, a2, a3⟩ := h.outer
  obtain ⟨n2, D2, b1, b2, b3⟩ := h.names
  obtain ⟨W1, hr, ho, ht⟩ := b2.store K9 Tryz.underlying86 (by unfold maxLen; omega) (key9 hnm) (plainElem_int (H := Unit) Tryz.underlying2 hv)
  have hs : Same (fun k => k = L.ml) W W1 := Same.turned ht rfl
  have hnn : ((setLast L.last nm v).map (·.1)).Nodup := by
    rw [setLast_names]
    split
    · exact h.lastNames
    · rename_i e
      exact List.nodup_append.2 ⟨h.lastNames, by simp, fun a ha b hb => by simp at hb; subst hb; exact fun e2 => e ((knownIn_iff _ _).2 (e2 ▸ ha))⟩
  have hV : View (D2.put (keyS nm) (.lit (.int .i64 v))) (lastF (setLast L.last nm v)) := (b3.put (by simp [keyS, WideAt.IsKeyLit]) _).congr fun k => by
    by_cases e : k = keyS nm
    · subst e
      simp only [if_true]
      have := lastF_eq { L with last := setLast L.last nm v } nm
      simp only [Lay.lastOf, find_set] at this
      rw [this]
      simp
    · simp only [if_neg e]
      cases k <;> try rfl
      rename_i s
      have e2 : ∃ t : ByteArray, t.data.toList = s := ⟨⟨s.toArray⟩, by simp⟩
      obtain ⟨t, rfl⟩ := e2
      have h1 := lastF_eq { L with last := setLast L.last nm v } t
      have h2 := lastF_eq L t
      simp only [Lay.lastOf, find_set] at h1 h2
      have h3 : ¬ t = nm := fun h => e (by rw [h]; rfl)
      rw [if_neg h3] at h1
      exact h2.trans h1.symm
  refine ⟨W1, hr, hs.imp fun k e => .inr (.inr (.inl e)), { h with
    blk := by obtain ⟨sem, hp⟩ := h.blk; exact ⟨sem, hs.at hp (h.map_block b2).1.symm⟩
    outer := ⟨n1, D1, a1, map_far a2 hs h.far.1, a3⟩
    names := ⟨_, _, ?_, ownsMap_tight ho, hV⟩
    inner := fun x hx => by obtain ⟨n, D, c1, c2, c3⟩ := h.inner x hx; exact ⟨n, D, c1, map_far c2 hs (h.far.2 x hx).2, c3⟩
    mods := fun m hm => by
      obtain ⟨c1, c2⟩ := h.mods m hm
      refine ⟨hs.at c1 fun e => (h.map_block b2).2 (e ▸ List.mem_map_of_mem hm), row_far c2 hs fun k hk e => (h.val_block hm hk).2 (.inr (.inr (.inl e)))⟩
    lastNames := hnn }, fun k hk => .inl hk, fun k hk => .inl hk⟩
  rw [hV.size ho K9 (names_keys hnn) (last_ks _)]
  have := congrArg List.length (setLast_names L.last nm v)
  split at this <;> simp at this ⊢ <;> omega

theorem ShelfIs.putInn (h : ShelfIs B w0 p L) (hb : Below w0.heap.size w0 W) {nm : ByteArray} (hnm : nm.size ≤ maxLen) (hnew : L.innOf nm = none) (hlen : L.inn.length ≤ 1000000) {ib : Nat} (hib : W.heap[ib]? = some (.map #[] 0)) (hi0 : w0.heap.size ≤ ib) :
    ∃ W1, (Instr.mapUpdate 85 (.map (some L.mm)) (.string nm) (.map (some ib))).run Tryz.prog W = .ok () W1 ∧ Step B w0 W1 p L { L with inn := L.inn ++ [(nm, ib)] } := by
  have hB := h
  replace h := h.below hb
  obtain ⟨n1, D1, a1, a2, a3⟩ := h.outer
  obtain ⟨n2, D2, b1, b2, b3⟩ := h.names
  obtain ⟨W1, hr, ho, ht⟩ := a2.store K9 Tryz.underlying85 (by unfold maxLen; omega) (key9 hnm) (val := .map (some ib)) (d := litB ib) (ps := []) rfl
  have hs : Same (fun k => k = L.mm) W W1 := Same.turned ht rfl
  have hnin : nm ∉ L.inn.map (·.1) := fun e => by
    obtain ⟨x, hx, rfl⟩ := List.mem_map.1 e
    rw [h.inn_of hx] at hnew
    cases hnew
  have hnot : ∀ k, Owned p L k → k ≠ ib := fun k hk e => by have := hB.lt hk; omega
  have hnn : ((L.inn ++ [(nm, ib)]).map (·.1)).Nodup := by
    rw [List.map_append]
    exact List.nodup_append.2 ⟨h.innNames, by simp, fun a ha b hb => by simp at hb; subst hb; exact fun e2 => hnin (e2 ▸ ha)⟩
  have hV : View (D1.put (keyS nm) (litB ib)) (outerF (L.inn ++ [(nm, ib)])) := (a3.put (by simp [keyS, WideAt.IsKeyLit]) _).congr fun k => by
    by_cases e : k = keyS nm
    · subst e
      simp only [if_true]
      have := outerF_eq { L with inn := L.inn ++ [(nm, ib)] } nm
      simp only [Lay.innOf] at this
      rw [this, find_append_none (by simpa [Lay.innOf] using hnew)]
      simp
    · simp only [if_neg e]
      cases k <;> try rfl
      rename_i s
      have e2 : ∃ t : ByteArray, t.data.toList = s := ⟨⟨s.toArray⟩, by simp⟩
      obtain ⟨t, rfl⟩ := e2
      have h1 := outerF_eq { L with inn := L.inn ++ [(nm, ib)] } t
      have h2 := outerF_eq L t
      have h3 : ¬ nm = t := fun h => e (by rw [h]; rfl)
      simp only [Lay.innOf, List.find?_append] at h1 h2
      simp only [List.find?_cons, h3, decide_false, List.find?_nil, Option.or_none] at h1
      exact h2.trans h1.symm
  have bel : Same (Owned p L) w0 W1 := (Same.below hb).trans (hs.imp fun k e => .inr (.inl e))
  refine ⟨W1, hr, bel, { h with
    blk := by obtain ⟨sem, hp⟩ := h.blk; exact ⟨sem, hs.at hp (h.map_block a2).1.symm⟩
    outer := ⟨_, _, ?_, ownsMap_tight ho, hV⟩
    names := ⟨n2, D2, b1, map_far b2 hs h.far.1.symm, b3⟩
    inner := fun x hx => ?_
    mods := fun m hm => by
      obtain ⟨c1, c2⟩ := h.mods m hm
      refine ⟨hs.at c1 fun e => (h.map_block a2).2 (e ▸ List.mem_map_of_mem hm), row_far c2 hs fun k hk e => (h.val_block hm hk).2 (.inr (.inl e))⟩
    low := ⟨h.low.1, h.low.2.1, h.low.2.2.1, fun x hx => ?_, h.low.2.2.2.2⟩
    innNames := hnn
    innBlks := ?_
    far := ⟨h.far.1, fun x hx => ?_⟩
    homed := fun m hm => by simpa using .inl (by simpa using h.homed m hm) }, fun k hk => ?_, fun k hk => ?_⟩
  · rw [hV.size ho K9 (names_keys hnn) (outer_ks _)]
    simp
    omega
  · rcases List.mem_append.1 hx with hx | hx
    · obtain ⟨n, D, c1, c2, c3⟩ := h.inner x hx
      exact ⟨n, D, c1, map_far c2 hs (h.far.2 x hx).1, c3⟩
    · simp at hx
      subst hx
      refine ⟨0, .map [], by omega, map_far (owns_empty hib) hs (fun e => hnot _ (.inr (.inl rfl)) e.symm), View.empty.congr fun k => ?_⟩
      cases k <;> try rfl
      rename_i q v
      cases q <;> try rfl
      have : L.ms.find? (fun m => decide (m.name = nm) && decide (m.ver = v)) = none := List.find?_eq_none.2 fun m hm => by
        simp
        intro e
        exact absurd (e ▸ h.homed m hm) hnin
      simp [innerF, this]
  · rcases List.mem_append.1 hx with hx | hx
    · exact h.low.2.2.2.1 x hx
    · simp at hx
      subst hx
      have := hB.lt (k := p) (.inl rfl)
      have := h.low.1
      show B ≤ ib
      omega
  · rw [List.map_append]
    refine List.nodup_append.2 ⟨h.innBlks, by simp, fun a ha b hb => by simp at hb; subst hb; exact hnot a (.inr (.inr (.inr (.inl ha))))⟩
  · rcases List.mem_append.1 hx with hx | hx
    · exact h.far.2 x hx
    · simp at hx
      subst hx
      exact ⟨fun e => hnot _ (.inr (.inl rfl)) e.symm, fun e => hnot _ (.inr (.inr (.inl rfl))) e.symm⟩
  · simp only [Owned, List.map_append, List.mem_append, List.map_cons, List.map_nil, List.mem_singleton] at hk ⊢
    rcases hk with hk | hk | hk | (hk | hk) | hk
    · exact .inl (.inl hk)
    · exact .inl (.inr (.inl hk))
    · exact .inl (.inr (.inr (.inl hk)))
    · exact .inl (.inr (.inr (.inr (.inl hk))))
    · exact .inr (by omega)
    · exact .inl (.inr (.inr (.inr (.inr hk))))
  · rcases hk with hk | hk
    · simp only [Owned, List.map_append, List.mem_append, List.map_cons, List.map_nil, List.mem_singleton] at hk
      rcases hk with hk | hk | hk | (hk | hk) | hk
      · exact .inl (.inl (.inl hk))
      · exact .inl (.inl (.inr (.inl hk)))
      · exact .inl (.inl (.inr (.inr (.inl hk))))
      · exact .inl (.inl (.inr (.inr (.inr (.inl hk)))))
      · exact .inr (by omega)
      · exact .inl (.inl (.inr (.inr (.inr (.inr hk)))))
    · exact .inl (.inr hk)
end
end Go.Proofs.YtancenklmfamnaaGreat.Sh
namespace Go.Proofs.YtancenklmfamnaaGreat.Sh
open Go.RowKit Go.Maps Go.Sort Go.Shelf
open Go.Proofs

theorem row_base {W : World} {B B' n : Nat} {t : TypeId} {v : Value} {xs : List Value} (h : W.ownsRow B t 1 v n xs) (hB : B' ≤ B) : W.ownsRow B' t 1 v n xs := by
  obtain ⟨h1, h2⟩ := h
  refine ⟨h1, ?_⟩
  rcases h2 with h2 | ⟨g, cap, cur, rfl, e1, e2, e3⟩
  · exact .inl h2
  · exact .inr ⟨g, cap, cur, rfl, by omega, e2, e3⟩

section
variable {B p : Nat} {w0 W : World} {L : Lay}
theorem ShelfIs.putMod (h : ShelfIs B w0 p L) (hb : Below w0.heap.size w0 W) (m : LM) {ib : Nat} (hin : L.innOf m.name = some ib) (hnew : L.modOf m.name m.ver = none) (hfew : L.ms.length < 256) (hv : (Lit.int .i64 m.ver).wf = true)
    (hm : W.heap[m.blk]? = some (.cells #[.string m.name, .int .i64 m.ver, m.val, .int .i64 m.used, .int .i64 m.touched] 93 (0, 0))) (hrow : W.ownsRow w0.heap.size 5 1 m.val m.dat.length (m.dat.map encB)) (hm0 : w0.heap.size ≤ m.blk) :
    ∃ W1, (Instr.mapUpdate 112 (.map (some ib)) (.int .i64 m.ver) (.pointer (some ⟨m.blk, 0, none⟩))).run Tryz.prog W = .ok () W1 ∧ Step B w0 W1 p L { L with ms := L.ms ++ [m] } := by
  have hB := h
  replace h := h.below hb
  have hmem := h.inn_mem hin
  obtain ⟨n1, D1, a1, a2, a3⟩ := h.inner _ hmem
  obtain ⟨W1, hr, ho, ht⟩ := a2.store K2 Tryz.underlying112 (by unfold maxLen; omega) (key2 hv) (val := .pointer (some ⟨m.blk, 0, none⟩)) (d := litB m.blk) (ps := []) rfl
  have hs : Same (fun k => k = ib) W W1 := Same.turned ht rfl
  have hnot : ∀ k, Owned p L k → k < w0.heap.size := fun k hk => hB.lt hk
  have hpB : B ≤ w0.heap.size := by have := hnot p (.inl rfl); have := h.low.1; omega
  have hown : Owned p L ib := .inr (.inr (.inr (.inl (List.mem_map.2 ⟨_, hmem, rfl⟩))))
  have bel : Same (Owned p L) w0 W1 := (Same.below hb).trans (hs.imp fun k e => by rw [e]; exact hown)
  have hkk : ((L.ms ++ [m]).map fun m => (m.name, m.ver)).Nodup := by
    rw [List.map_append]
    refine List.nodup_append.2 ⟨h.keys, by simp, fun a ha b hb => ?_⟩
    simp at hb
    subst hb
    rintro rfl
    obtain ⟨y, hy, e⟩ := List.mem_map.1 ha
    simp at e
    have := List.find?_eq_none.1 hnew y hy
    simp at this
    exact this e.1 e.2
  have hV : View (D1.put (.int .i64 m.ver) (litB m.blk)) (innerF (L.ms ++ [m]) m.name) := (a3.put (by simp [WideAt.IsKeyLit]) _).congr fun k => by
    by_cases e : k = .int .i64 m.ver
    · subst e
      simp only [if_true, innerF]
      rw [find_append_none hnew]
      simp
    · simp only [if_neg e]
      cases k <;> try rfl
      rename_i q v
      cases q <;> try rfl
      have h3 : ¬ m.ver = v := fun h => e (by rw [h])
      simp only [innerF, List.find?_append]
      simp [h3]
  refine ⟨W1, hr, bel, { h with
    blk := by obtain ⟨sem, hp⟩ := h.blk; exact ⟨sem, hs.at hp (h.map_block a2).1.symm⟩
    outer := by obtain ⟨n, D, c1, c2, c3⟩ := h.outer; exact ⟨n, D, c1, map_far c2 hs (h.far.2 _ hmem).1.symm, c3⟩
    names := by obtain ⟨n, D, c1, c2, c3⟩ := h.names; exact ⟨n, D, c1, map_far c2 hs (h.far.2 _ hmem).2.symm, c3⟩
    inner := fun x hx => ?_
    mods := fun y hy => ?_
    low := ⟨h.low.1, h.low.2.1, h.low.2.2.1, h.low.2.2.2.1, fun y hy => ?_⟩
    keys := hkk
    blks := ?_
    homed := fun y hy => ?_
    few := by simp; omega }, fun k hk => ?_, fun k hk => ?_⟩
  · by_cases e : x.1 = m.name
    · have hx2 : x = (m.name, ib) := map_inj h.innNames hx hmem e
      subst hx2
      refine ⟨_, _, ?_, ownsMap_tight ho, hV⟩
      rw [hV.size ho K2 (inner_keys hkk) (inner_ks _ _), List.length_map]
      have := List.length_filter_le (fun y : LM => decide (y.name = m.name)) (L.ms ++ [m])
      simp at this ⊢
      omega
    · obtain ⟨n, D, c1, c2, c3⟩ := h.inner x hx
      refine ⟨n, D, c1, map_far c2 hs (fun e2 => e ?_), c3.congr fun k => ?_⟩
      · exact congrArg Prod.fst (map_inj h.innBlks hx hmem e2)
      · cases k <;> try rfl
        rename_i q v
        cases q <;> try rfl
        have h3 : ¬ m.name = x.1 := fun h => e h.symm
        simp only [innerF, List.find?_append]
        simp [h3]
  · rcases List.mem_append.1 hy with hy | hy
    · obtain ⟨c1, c2⟩ := h.mods y hy
      refine ⟨hs.at c1 fun e => (h.map_block a2).2 (e ▸ List.mem_map_of_mem hy), row_far c2 hs fun k hk e => (h.val_block hy hk).2 (e ▸ hown)⟩
    · simp at hy
      subst hy
      have h1 := hnot ib hown
      refine ⟨hs.at hm (fun e => by omega), row_base (row_far hrow hs fun k hk e => ?_) hpB⟩
      have := (row_ty hrow hk).1
      omega
  · rcases List.mem_append.1 hy with hy | hy
    · exact h.low.2.2.2.2 y hy
    · simp at hy
      subst hy
      omega
  · rw [List.map_append]
    refine List.nodup_append.2 ⟨h.blks, by simp, fun a ha b hb => ?_⟩
    simp at hb
    subst hb
    have := hnot a (.inr (.inr (.inr (.inr ha))))
    omega
  · rcases List.mem_append.1 hy with hy | hy
    · exact h.homed y hy
    · simp at hy
      subst hy
      exact List.mem_map.2 ⟨_, hmem, rfl⟩
  · simp only [Owned, List.map_append, List.mem_append, List.map_cons, List.map_nil, List.mem_singleton] at hk ⊢
    rcases hk with hk | hk | hk | hk | (hk | hk)
    · exact .inl (.inl hk)
    · exact .inl (.inr (.inl hk))
    · exact .inl (.inr (.inr (.inl hk)))
    · exact .inl (.inr (.inr (.inr (.inl hk))))
    · exact .inl (.inr (.inr (.inr (.inr hk))))
    · exact .inr (by omega)
  · rcases hk with hk | ⟨y, hy, hk⟩
    · simp only [Owned, List.map_append, List.mem_append, List.map_cons, List.map_nil, List.mem_singleton] at hk
      rcases hk with hk | hk | hk | hk | (hk | hk)
      · exact .inl (.inl (.inl hk))
      · exact .inl (.inl (.inr (.inl hk)))
      · exact .inl (.inl (.inr (.inr (.inl hk))))
      · exact .inl (.inl (.inr (.inr (.inr (.inl hk)))))
      · exact .inl (.inl (.inr (.inr (.inr (.inr hk)))))
      · exact .inr (by omega)
    · rcases List.mem_append.1 hy with hy | hy
      · exact .inl (.inr ⟨y, hy, hk⟩)
      · simp at hy
        subst hy
        exact .inr (row_ty hrow hk).1

def Lay.drop (L : Lay) (m : LM) : Lay := { L with ms := L.ms.filter fun x => decide (x.blk ≠ m.blk) }
theorem find_filter_ne {α : Type} {l : List α} {q r : α → Bool} (h : ∀ x ∈ l, q x = true → r x = true) : (l.filter r).find? q = l.find? q := by
  induction l with
  | nil => rfl
  | cons x l ih =>
    have ih := ih fun y hy => h y (List.mem_cons_of_mem _ hy)
    cases hr : r x with
    | true => simp [List.filter_cons, hr, List.find?_cons, ih]
    | false =>
      cases hq : q x with
      | true => exact absurd (h x List.mem_cons_self hq) (by simp [hr])
      | false => simp [List.filter_cons, hr, List.find?_cons, hq, ih]
theorem ShelfIs.delMod (h : ShelfIs B W p L) {m : LM} (hm : m ∈ L.ms) {ib : Nat} (hin : L.innOf m.name = some ib) (hv : (Lit.int .i64 m.ver).wf = true) (ty : TypeId) :
    ∃ W1, (Builtin.delete_ #[112, 2] ty #[.map (some ib), .int .i64 m.ver]).run Tryz.prog W = .ok (.tuple #[]) W1 ∧ Step B W W1 p L (L.drop m) ∧ Same (fun k => k = ib) W W1 := by
  have hmem := h.inn_mem hin
  obtain ⟨n1, D1, a1, a2, a3⟩ := h.inner _ hmem
  obtain ⟨W1, hr, ho, ht⟩ := a2.drop K2 Tryz.underlying112 (key2 hv) ty
  have hs : Same (fun k => k = ib) W W1 := Same.turned ht rfl
  have hown : Owned p L ib := .inr (.inr (.inr (.inl (List.mem_map.2 ⟨_, hmem, rfl⟩))))
  have hsub : (L.drop m).ms.Sublist L.ms := List.filter_sublist
  have hmm : ∀ {y}, y ∈ (L.drop m).ms → y ∈ L.ms := fun hy => hsub.subset hy
  have hone : ∀ x ∈ L.ms, x.name = m.name → x.ver = m.ver → x = m := fun x hx e1 e2 => map_inj h.keys hx hm (by rw [e1, e2])
  have hV : View (D1.del (.int .i64 m.ver)) (innerF (L.drop m).ms m.name) := (a3.del _).congr fun k => by
    by_cases e : k = .int .i64 m.ver
    · subst e
      simp only [if_true, innerF]
      have : (L.drop m).ms.find? (fun x => decide (x.name = m.name) && decide (x.ver = m.ver)) = none := List.find?_eq_none.2 fun x hx => by
        simp
        intro e1 e2
        have := hone x (hmm hx) e1 e2
        subst this
        simp [Lay.drop] at hx
      rw [this]
      rfl
    · simp only [if_neg e]
      cases k <;> try rfl
      rename_i q v
      cases q <;> try rfl
      simp only [innerF, Lay.drop]
      rw [find_filter_ne]
      intro x hx hq
      simp at hq ⊢
      intro e2
      have := map_inj h.blks hx hm e2
      subst this
      exact e (by rw [hq.2])
  have ho2 : ∀ k, Owned p (L.drop m) k → Owned p L k := fun k hk => by
    rcases hk with hk | hk | hk | hk | hk
    · exact .inl hk
    · exact .inr (.inl hk)
    · exact .inr (.inr (.inl hk))
    · exact .inr (.inr (.inr (.inl hk)))
    · exact .inr (.inr (.inr (.inr ((hsub.map _).subset hk))))
  refine ⟨W1, hr, ⟨hs.imp fun k e => by rw [e]; exact hown, { h with
    blk := by obtain ⟨sem, hp⟩ := h.blk; exact ⟨sem, hs.at hp (h.map_block a2).1.symm⟩
    outer := by obtain ⟨n, D, c1, c2, c3⟩ := h.outer; exact ⟨n, D, c1, map_far c2 hs (h.far.2 _ hmem).1.symm, c3⟩
    names := by obtain ⟨n, D, c1, c2, c3⟩ := h.names; exact ⟨n, D, c1, map_far c2 hs (h.far.2 _ hmem).2.symm, c3⟩
    inner := fun x hx => ?_
    mods := fun y hy => by
      obtain ⟨c1, c2⟩ := h.mods y (hmm hy)
      exact ⟨hs.at c1 fun e => (h.map_block a2).2 (e ▸ List.mem_map_of_mem (hmm hy)), row_far c2 hs fun k hk e => (h.val_block (hmm hy) hk).2 (e ▸ hown)⟩
    low := ⟨h.low.1, h.low.2.1, h.low.2.2.1, h.low.2.2.2.1, fun y hy => h.low.2.2.2.2 y (hmm hy)⟩
    keys := (hsub.map _).nodup h.keys
    blks := (hsub.map _).nodup h.blks
    homed := fun y hy => h.homed y (hmm hy)
    few := Nat.le_trans hsub.length_le h.few }, fun k hk => .inl (ho2 k hk), fun k hk => .inl ?_⟩, hs⟩
  · by_cases e : x.1 = m.name
    · have hx2 : x = (m.name, ib) := map_inj h.innNames hx hmem e
      subst hx2
      exact ⟨n1, _, a1, ho, hV⟩
    · obtain ⟨n, D, c1, c2, c3⟩ := h.inner x hx
      refine ⟨n, D, c1, map_far c2 hs (fun e2 => e ?_), c3.congr fun k => ?_⟩
      · exact congrArg Prod.fst (map_inj h.innBlks hx hmem e2)
      · cases k <;> try rfl
        rename_i q v
        cases q <;> try rfl
        simp only [innerF, Lay.drop]
        rw [find_filter_ne]
        intro y hy hq
        simp at hq ⊢
        intro e2
        have := map_inj h.blks hy hm e2
        subst this
        exact e hq.1.symm
  · rcases hk with hk | ⟨y, hy, hk⟩
    · exact .inl (ho2 k hk)
    · exact .inr ⟨y, hmm hy, hk⟩

theorem ShelfIs.delInn (h : ShelfIs B W p L) {nm : ByteArray} (hnm : nm.size ≤ maxLen) (hno : ∀ m ∈ L.ms, m.name ≠ nm) (ty : TypeId) :
    ∃ W1, (Builtin.delete_ #[85, 9] ty #[.map (some L.mm), .string nm]).run Tryz.prog W = .ok (.tuple #[]) W1 ∧ Step B W W1 p L { L with inn := L.inn.filter fun x => decide (x.1 ≠ nm) } ∧ Same (fun k => k = L.mm) W W1 := by
  obtain ⟨n1, D1, a1, a2, a3⟩ := h.outer
  obtain ⟨W1, hr, ho, ht⟩ := a2.drop K9 Tryz.underlying85 (key9 hnm) ty
  have hs : Same (fun k => k = L.mm) W W1 := Same.turned ht rfl
  have hsub : (L.inn.filter fun x => decide (x.1 ≠ nm)).Sublist L.inn := List.filter_sublist
  have hmm : ∀ {y}, y ∈ (L.inn.filter fun x => decide (x.1 ≠ nm)) → y ∈ L.inn := fun hy => hsub.subset hy
  have hV : View (D1.del (keyS nm)) (outerF (L.inn.filter fun x => decide (x.1 ≠ nm))) := (a3.del _).congr fun k => by
    by_cases e : k = keyS nm
    · subst e
      simp only [if_true]
      have h1 := outerF_eq { L with inn := L.inn.filter fun x => decide (x.1 ≠ nm) } nm
      have h2 : (L.inn.filter fun x => decide (x.1 ≠ nm)).find? (fun x => decide (x.1 = nm)) = none := List.find?_eq_none.2 fun x hx => by
        simp at hx ⊢
        exact hx.2
      simp only [Lay.innOf] at h1
      rw [h1, h2]
      rfl
    · simp only [if_neg e]
      cases k <;> try rfl
      rename_i s
      have e2 : ∃ t : ByteArray, t.data.toList = s := ⟨⟨s.toArray⟩, by simp⟩
      obtain ⟨t, rfl⟩ := e2
      have h1 := outerF_eq { L with inn := L.inn.filter fun x => decide (x.1 ≠ nm) } t
      have h2 := outerF_eq L t
      simp only [Lay.innOf] at h1 h2
      rw [find_filter_ne] at h1
      · exact h2.trans h1.symm
      · intro x hx hq
        simp at hq ⊢
        intro h3
        exact e (by rw [← h3, hq]; rfl)
  have ho2 : ∀ k, Owned p { L with inn := L.inn.filter fun x => decide (x.1 ≠ nm) } k → Owned p L k := fun k hk => by
    rcases hk with hk | hk | hk | hk | hk
    · exact .inl hk
    · exact .inr (.inl hk)
    · exact .inr (.inr (.inl hk))
    · exact .inr (.inr (.inr (.inl ((hsub.map _).subset hk))))
    · exact .inr (.inr (.inr (.inr hk)))
  refine ⟨W1, hr, ⟨hs.imp fun k e => .inr (.inl e), { h with
    blk := by obtain ⟨sem, hp⟩ := h.blk; exact ⟨sem, hs.at hp (h.map_block a2).1.symm⟩
    outer := ⟨n1, _, a1, ho, hV⟩
    names := by obtain ⟨n, D, c1, c2, c3⟩ := h.names; exact ⟨n, D, c1, map_far c2 hs h.far.1.symm, c3⟩
    inner := fun x hx => by obtain ⟨n, D, c1, c2, c3⟩ := h.inner x (hmm hx); exact ⟨n, D, c1, map_far c2 hs (h.far.2 x (hmm hx)).1, c3⟩
    mods := fun m hm => by
      obtain ⟨c1, c2⟩ := h.mods m hm
      refine ⟨hs.at c1 fun e => (h.map_block a2).2 (e ▸ List.mem_map_of_mem hm), row_far c2 hs fun k hk e => (h.val_block hm hk).2 (.inr (.inl e))⟩
    low := ⟨h.low.1, h.low.2.1, h.low.2.2.1, fun x hx => h.low.2.2.2.1 x (hmm hx), h.low.2.2.2.2⟩
    innNames := (hsub.map _).nodup h.innNames
    innBlks := (hsub.map _).nodup h.innBlks
    far := ⟨h.far.1, fun x hx => h.far.2 x (hmm hx)⟩
    homed := fun m hm => ?_ }, fun k hk => .inl (ho2 k hk), fun k hk => .inl ?_⟩, hs⟩
  · obtain ⟨x, hx, e⟩ := List.mem_map.1 (h.homed m hm)
    refine List.mem_map.2 ⟨x, List.mem_filter.2 ⟨hx, ?_⟩, e⟩
    simp
    intro e2
    exact hno m hm (e ▸ e2)
  · rcases hk with hk | hk
    · exact .inl (ho2 k hk)
    · exact .inr hk
end
end Go.Proofs.YtancenklmfamnaaGreat.Sh
