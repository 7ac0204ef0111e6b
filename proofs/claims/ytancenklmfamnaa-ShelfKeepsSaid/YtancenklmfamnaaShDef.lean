/- package shelf in memory. -/
import Derived.Test.YtancenklmfamnaaShIter
import Derived.Maps.OwnSet
set_option linter.unusedVariables false
set_option linter.unusedSimpArgs false
namespace Go.Proofs.Ytancenklmfamnaa.Sh
open Go.RowKit Go.Maps Go.Sort Go.Shelf
open Go.Proofs

/-- a map's datum, as a function -/
structure View (D : DataW Unit) (f : Lit → Option (DataW Unit)) : Prop where
  tidy : Tidy D
  has : ∀ k, has D k = (f k).isSome
  at_ : ∀ k z, D.atKey k z = (f k).getD z
theorem View.empty : View (.map []) (fun _ => none) := ⟨tidy_empty, fun k => rfl, fun k z => rfl⟩
open Classical in
theorem View.put {D : DataW Unit} {f : Lit → Option (DataW Unit)} (h : View D f) {k : Lit} (hk : WideAt.IsKeyLit k) (d : DataW Unit) : View (D.put k d) (fun k' => if k' = k then some d else f k') := by
  refine ⟨h.tidy.put hk d, fun k' => ?_, fun k' z => ?_⟩
  · by_cases e : k' = k
    · subst e; simp [has_put_same h.tidy.isMap hk d]
    · simp [e, has_put_other e, h.has]
  · by_cases e : k' = k
    · subst e; simp [atKey_put_same h.tidy.isMap hk]
    · simp [e, atKey_put_other e, h.at_]
open Classical in
theorem View.del {D : DataW Unit} {f : Lit → Option (DataW Unit)} (h : View D f) (k : Lit) : View (D.del k) (fun k' => if k' = k then none else f k') := by
  refine ⟨h.tidy.del k, fun k' => ?_, fun k' z => ?_⟩
  · by_cases e : k' = k
    · subst e; simp [has_del_same]
    · simp [e, has_del_other e, h.has]
  · by_cases e : k' = k
    · subst e; simp [atKey_del_same]
    · simp [e, atKey_del_other e, h.at_]
theorem View.congr {D : DataW Unit} {f g : Lit → Option (DataW Unit)} (h : View D f) (e : ∀ k, f k = g k) : View D g := by
  rw [← funext e]; exact h

/-- a map as an element -/
def mapElem : Value → Option (DataW Unit × List MemPlace)
  | .map (some b) => some (.lit (.int .i64 b), [])
  | .map none => some (.lit (.int .i64 (-1)), [])
  | _ => none
theorem mapElem_inv {v : Value} {z : DataW Unit × List MemPlace} (h : mapElem v = some z) : ∃ p : Option Nat, v = .map p ∧ z = (match p with | some b => .lit (.int .i64 b) | none => .lit (.int .i64 (-1)), []) := by
  cases v <;> simp [mapElem] at h
  rename_i p
  cases p <;> simp [mapElem] at h
  · exact ⟨none, rfl, h.symm⟩
  · exact ⟨some _, rfl, h.symm⟩
def litB (b : Nat) : DataW Unit := .lit (.int .i64 b)
theorem litB_inj {a b : Nat} (h : litB a = litB b) : a = b := by simp [litB] at h; omega
theorem ptr_of_litB {p : Option Addr} {b : Nat} (h : ptrD p = litB b) : p = some ⟨b, 0, none⟩ := by
  unfold ptrD at h
  split at h
  · simp [litB] at h; simp <;> omega
  · simp [litB] at h

/-- a model, and where it lies -/
structure LM where
  name : ByteArray
  ver : Int
  val : Value          -- its bytes, as a slice
  dat : List Int       -- .. and what they are
  used : Int
  touched : Int
  blk : Nat
def LM.ptr (m : LM) : Option Addr := some ⟨m.blk, 0, none⟩
abbrev encB : Int → Value := Value.int .u8

/-- where the shelf lies, and what it holds -/
structure Lay where
  lk : Int
  room : Int
  bytes : Int
  count : Int
  touch : Int
  mm : Nat                          -- the outer map
  ml : Nat                          -- the names' map
  inn : List (ByteArray × Nat)      -- the inner maps
  ms : List LM
  last : List (ByteArray × Int)

def keyS (s : ByteArray) : Lit := .string s.data.toList
def outerF (inn : List (ByteArray × Nat)) : Lit → Option (DataW Unit)
  | .string s => (inn.find? fun x => decide (x.1.data.toList = s)).map fun x => litB x.2
  | _ => none
def innerF (ms : List LM) (nm : ByteArray) : Lit → Option (DataW Unit)
  | .int .i64 v => (ms.find? fun m => decide (m.name = nm) && decide (m.ver = v)).map fun m => litB m.blk
  | _ => none
def lastF (last : List (ByteArray × Int)) : Lit → Option (DataW Unit)
  | .string s => (last.find? fun x => decide (x.1.data.toList = s)).map fun x => .lit (.int .i64 x.2)
  | _ => none

def ShCells (L : Lay) (sem : Value) : Array Value := #[.int .i32 L.lk, sem, .int .i64 L.room, .int .i64 L.bytes, .int .i64 L.count, .int .i64 L.touch, .map (some L.mm), .map (some L.ml)]
def MdCells (m : LM) : Array Value := #[.string m.name, .int .i64 m.ver, m.val, .int .i64 m.used, .int .i64 m.touched]

/-- the shelf at p; all that it holds lies at B or beyond -/
structure ShelfIs (B : Nat) (W : World) (p : Nat) (L : Lay) : Prop where
  blk : ∃ sem, W.heap[p]? = some (.cells #[.int .i32 L.lk, sem, .int .i64 L.room, .int .i64 L.bytes, .int .i64 L.count, .int .i64 L.touch, .map (some L.mm), .map (some L.ml)] 70 (0, 0))
  outer : ∃ n D, n ≤ 1099511627776 ∧ W.ownsMap Try.prog 9 mapElem L.mm n D ∧ View D (outerF L.inn)
  names : ∃ n D, n ≤ 1099511627776 ∧ W.ownsMap Try.prog 9 (plainElem Try.prog 2) L.ml n D ∧ View D (lastF L.last)
  inner : ∀ x ∈ L.inn, ∃ n D, n ≤ 1099511627776 ∧ W.ownsMap Try.prog 2 ptrElem x.2 n D ∧ View D (innerF L.ms x.1)
  mods : ∀ m ∈ L.ms, W.heap[m.blk]? = some (.cells #[.string m.name, .int .i64 m.ver, m.val, .int .i64 m.used, .int .i64 m.touched] 76 (0, 0)) ∧ W.ownsRow B 5 1 m.val m.dat.length (m.dat.map encB)
  low : B ≤ p ∧ B ≤ L.mm ∧ B ≤ L.ml ∧ (∀ x ∈ L.inn, B ≤ x.2) ∧ ∀ m ∈ L.ms, B ≤ m.blk
  innNames : (L.inn.map (·.1)).Nodup
  innBlks : (L.inn.map (·.2)).Nodup
  far : L.mm ≠ L.ml ∧ ∀ x ∈ L.inn, x.2 ≠ L.mm ∧ x.2 ≠ L.ml
  keys : (L.ms.map fun m => (m.name, m.ver)).Nodup
  blks : (L.ms.map (·.blk)).Nodup
  homed : ∀ m ∈ L.ms, m.name ∈ L.inn.map (·.1)
  lastNames : (L.last.map (·.1)).Nodup
  few : L.ms.length ≤ 256

/-- how many entries -/
theorem View.size {W : World} {k : TypeId} {R : Value → Option (DataW Unit × List MemPlace)} {b n : Nat} {D : DataW Unit} {f : Lit → Option (DataW Unit)} (h : View D f) (hown : W.ownsMap Try.prog k R b n D) (K : Keyed Try.prog k)
    {ks : List Lit} (hn : ks.Nodup) (hk : ∀ x, (f x).isSome = true ↔ x ∈ ks) : Maps.size D = ks.length := by
  obtain ⟨es, rfl, hp, hl⟩ := hown.entries K
  have hes : (es.map (·.1)).Nodup := List.pairwise_map.2 hp
  have hperm : (es.map (·.1)).Perm ks := (List.perm_ext_iff_of_nodup hes hn).2 fun x => by
    rw [← hk, ← h.has, has_eq, List.any_eq_true, List.mem_map]
    constructor
    · rintro ⟨q, hq, rfl⟩
      refine ⟨q, hq, ?_⟩
      have := hl q hq
      revert this
      cases q.1 <;> simp [WideAt.IsKeyLit, Lit.sameKey]
    · rintro ⟨q, hq, hs⟩
      exact ⟨q, hq, WideAt.sameKey_eq hs⟩
  have := hperm.length_eq
  simpa [Maps.size] using this
theorem ownsMap_tight {W : World} {k : TypeId} {R : Value → Option (DataW Unit × List MemPlace)} {b n : Nat} {D : DataW Unit} (h : W.ownsMap Try.prog k R b n D) : W.ownsMap Try.prog k R b (Maps.size D) D := by
  obtain ⟨es, clock, h1, F, h2, rfl⟩ := h
  exact ⟨es, clock, h1, F, by rw [Maps.size]; simp [length_read], rfl⟩
theorem keyS_inj {a b : ByteArray} (h : keyS a = keyS b) : a = b := by
  cases a; cases b; simp [keyS] at h; simp [h]
theorem names_keys {α : Type} {l : List (ByteArray × α)} (h : (l.map (·.1)).Nodup) : (l.map fun x => keyS x.1).Nodup := by
  refine List.pairwise_map.2 ((List.pairwise_map.1 h).imp fun hne e => hne (keyS_inj e))
theorem outer_ks (inn : List (ByteArray × Nat)) (x : Lit) : (outerF inn x).isSome = true ↔ x ∈ inn.map fun y => keyS y.1 := by
  cases x <;> simp [outerF, keyS, List.mem_map, List.find?_isSome]
theorem last_ks (last : List (ByteArray × Int)) (x : Lit) : (lastF last x).isSome = true ↔ x ∈ last.map fun y => keyS y.1 := by
  cases x <;> simp [lastF, keyS, List.mem_map, List.find?_isSome]
def verK (m : LM) : Lit := .int .i64 m.ver
theorem inner_ks (ms : List LM) (nm : ByteArray) (x : Lit) : (innerF ms nm x).isSome = true ↔ x ∈ (ms.filter fun m => decide (m.name = nm)).map verK := by
  cases x <;> simp [innerF, verK, List.mem_map, List.find?_isSome]
  rename_i q v
  cases q <;> simp [innerF, verK, List.mem_map, List.find?_isSome, List.mem_filter, and_assoc]
theorem inner_keys {ms : List LM} {nm : ByteArray} (hk : (ms.map fun m => (m.name, m.ver)).Nodup) : ((ms.filter fun m => decide (m.name = nm)).map verK).Nodup := by
  have h1 : ((ms.filter fun m => decide (m.name = nm)).map fun m => (m.name, m.ver)).Nodup := (List.filter_sublist.map _).nodup hk
  refine List.pairwise_map.2 ((List.pairwise_map.1 h1).imp_of_mem fun {a c} ha hc hne e => hne ?_)
  simp [verK] at ha hc e
  rw [ha.2, hc.2, e]
end Go.Proofs.Ytancenklmfamnaa.Sh
