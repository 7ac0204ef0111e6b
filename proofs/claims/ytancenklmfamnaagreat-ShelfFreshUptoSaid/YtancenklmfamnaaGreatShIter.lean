/- maps.Values over the models' map, slices.AppendSeq over it. Turned from the worked proofs over any program (AnyY.values1S_in; Gge.Pos_in). package shelf in memory. (*Shelf).all: the models, in some order. (*Shelf).wanted; frames. -/
import Derived.RangeFuncFrom
import Derived.RangeFuncBox
import Derived.RangeFuncLeaves
import Derived.RangeFuncMany
import Derived.Sort.MapsRangeIn
import Derived.Lib.SlKeysI
import Derived.Shelf.AbstractIn
import Derived.Shelf.Abstract
import Derived.WalkKit
import Derived.OwnWalkIn
import Derived.TacticsInMore
import Derived.RegionIn
import Derived.LoopNIn
import Derived.LoopIn
import Derived.Maps.AppendAt
import Derived.Maps.OwnIn
import Derived.Test.YtancenklmfamnaaGreatProg
import Derived.Maps.OwnSet
import Derived.Maps.RangeWalk
import Derived.Lib.Hide
import Derived.Lib.Builder
import Derived.Deep.DeepMust
set_option linter.unusedVariables false
set_option linter.unusedSimpArgs false
namespace Go.Proofs.YtancenklmfamnaaGreat.Sh
open Go.RowKit Go.Maps Go.Sort Go.Shelf
open Go.Proofs
attribute [local go_sem] Oper.semAt_some

abbrev encP : Option Addr → Value := Value.pointer
def ptrD : Option Addr → DataW Unit
  | some ⟨b, 0, none⟩ => .lit (.int .i64 b)
  | _ => .lit (.int .i64 (-1))
/-- how a pointer reads as an element -/
def ptrElem : Value → Option (DataW Unit × List MemPlace)
  | .pointer p => some (ptrD p, [])
  | _ => none
theorem ptrElem_inv {v : Value} {z : DataW Unit × List MemPlace} (h : ptrElem v = some z) : ∃ p, v = .pointer p ∧ z = (ptrD p, []) := by
  cases v <;> simp [ptrElem] at h
  exact ⟨_, rfl, h.symm⟩

def ValAt (D0 : DataW Unit) (p : Int × Option Addr) : Prop := ∀ zd, D0.atKey (.int .i64 p.1) zd = ptrD p.2
/-- all have come -/
def AllOf (D0 : DataW Unit) (ps : List (Int × Option Addr)) : Prop := (ps.map (·.1)).Perm (intKeys D0) ∧ ∀ p ∈ ps, ValAt D0 p
def PartOf (D0 : DataW Unit) (ps : List (Int × Option Addr)) : Prop := ∀ p ∈ ps, ValAt D0 p

set_option maxRecDepth 100000 in
set_option maxHeartbeats 1000000 in
theorem values1S_in (F : Fence) (n : Nat) (h8 : F.fn 80) (hro : F.round = none) (hn : 1 ≤ n) (l Bm b nn : Nat) (D0 : DataW Unit) (J Jx : List (Option Addr) → World → Prop)
    (hY : ∀ pre x W, J pre W → pre.length < Maps.size D0 → YieldAt F (n - 1) Tryz.prog l #[encP x] W fun e W' =>
      (e = .returned (.bool true) ∧ J (pre ++ [x]) W' ∧ KeepsWalks W W') ∨ (e = .returned (.bool false) ∧ Jx (pre ++ [x]) W'))
    (W : World) (hJ : AbidesFrom W.heap.size J) (hm : W.cell? ⟨Bm, 0, none⟩ = some (.map (some b))) (hown : W.ownsMap Tryz.prog 2 ptrElem b nn D0) (h0 : J [] W) :
    CallsIn F n Tryz.prog 80 #[.func (.yield l) #[] #[], .pointer (some ⟨Bm, 0, none⟩)] W fun e W' => (∃ v, e = .returned v) ∧
      ((∃ xs, (∃ ps, AllOf D0 ps ∧ xs = ps.map (·.2)) ∧ J xs W') ∨ (∃ pre, (∃ ps, PartOf D0 ps ∧ pre = ps.map (·.2)) ∧ Jx pre W')) := by
  have K2 := int_keyed Tryz.underlying2
  refine callsIn_of_wp Tryz.func80 rfl h8 ?_ hro
  simp only [Tryz.ntmps80, List.size_toArray, List.length_cons, List.length_nil, Nat.reduceAdd, Nat.reduceSub, Array.replicate_succ, Array.replicate_zero, List.push_toArray, List.append_toArray, List.nil_append, List.cons_append]
  gi_wp2_with (first
    | (gi_at_range; refine wpListIn_range_own _ rfl _ 112 rfl 2 91 (int_keyed Tryz.underlying2) Tryz.underlying112 _ b nn _ rfl hown ?_; intro w0 hrg0 hg0 hs0)
    | gi_in)
  go_frame
  gi_loopw [4] (fun _ wr => ∃ (left : Lit → Bool) (cnt : Nat) (ps : List (Int × Option Addr)), wr.ranges Tryz.prog 2 ptrElem b W.heap.size nn D0 left cnt ∧ ps.length + cnt ≤ Maps.size D0 ∧ CollectedI D0 left (ps.map (·.1)) ∧ (∀ p ∈ ps, ValAt D0 p) ∧ J (ps.map (·.2)) wr)
    (fun _ wr => wr.rangeLeft b W.heap.size)
  case atStart =>
    exact ⟨_, _, [], hrg0, by simp, CollectedI.start D0, by simp, hJ [] W w0 none h0 hg0 (fun r e => by cases e)⟩
  case round =>
    obtain ⟨left, cnt, ps, hrg, hcs, hC, hV, hJs⟩ := hrel
    gi_wp2_with (first
      | (gi_at_next; refine wpListIn_next_ranges _ rfl _ rfl 2 (int_keyed Tryz.underlying2) ptrElem encZ encP (fun key kl hk => by obtain ⟨x, hx, _⟩ := Maps.keyOf_i64 Tryz.underlying2 hk; exact ⟨x, hx⟩) (fun v y hv => by obtain ⟨c, hc, _⟩ := ptrElem_inv hv; exact ⟨c, hc⟩) b W.heap.size nn _ _ _ rfl hrg ?_ ?_)
      | gi_in)
    · intro hc0 hl0
      gi_wp2
      go_end0
      exact ⟨⟨_, rfl⟩, .inl ⟨_, ⟨ps, ⟨hC.perm hown K2 Tryz.underlying2 hl0, hV⟩, rfl⟩, hJs⟩⟩
    · intro x c kl yd yp w2 cnt2 hkey hlk hv hat hrg2 hlt hg2 hs2 hen
      obtain ⟨x', ex, rfl, _⟩ := Maps.keyOf_i64 Tryz.underlying2 hkey
      obtain rfl : x = x' := encZ_inj ex
      obtain ⟨c', ec, ez⟩ := ptrElem_inv hv
      obtain rfl : c = c' := by simpa using ec
      obtain rfl : yd = ptrD c := (Prod.mk.inj ez).1
      have hJ2 : J (ps.map (·.2)) w2 := hJ _ wr w2 (some W.heap.size) hJs hg2 (fun r e => by cases e; exact ⟨Nat.le_refl _, hrg.iter_walk⟩)
      obtain ⟨fn, tmps, assign, body, hy, hR⟩ := hY (ps.map (·.2)) c w2 hJ2 (by simp; omega)
      clear hs2
      gi_wp2
      refine hR.mono ?_
      have hC2 : CollectedI D0 (fun z => left z && !z.sameKey (.int .i64 x)) ((ps ++ [(x, c)]).map (·.1)) := by simpa using hC.step hlk hat
      have hV2 : ∀ p ∈ ps ++ [(x, c)], ValAt D0 p := fun p hp => (List.mem_append.1 hp).elim (hV p) (fun e => by simp at e; subst e; exact hat)
      rintro e W3 (⟨rfl, hJ3, hk3⟩ | ⟨rfl, hJx3⟩)
      · gi_wp2
        have hrg3 := hrg2.of_walks hk3
        go_roundw
        case rel => exact ⟨_, cnt2, ps ++ [(x, c)], hrg3, by simp; omega, hC2, hV2, by simpa using hJ3⟩
        case measure => rw [hrg3.left_eq, hrg.left_eq]; exact hlt
      · gi_wp2
        refine bodyPost_ret (results_none rfl _ _ _) rfl ?_
        exact ⟨⟨_, rfl⟩, .inr ⟨_, ⟨ps ++ [(x, c)], hV2, by simp⟩, hJx3⟩⟩

set_option maxHeartbeats 1000000 in
theorem values_in (F : Fence) (n : Nat) (hf : F.fn 60) (hro : F.round = none) (mb : Option Nat) (w : World) :
    CallsIn F n Tryz.prog 60 #[.map mb] w fun e w' => e = .returned (.func (.func 80) #[] #[.pointer (some ⟨w.heap.size, 0, none⟩)]) ∧ w' = w.alloc (.cells #[.map mb] 112) := by
  refine callsIn_of_wp Tryz.func60 rfl hf ?_ hro
  simp only [Tryz.ntmps60, List.size_toArray, List.length_cons, List.length_nil, Nat.reduceAdd, Nat.reduceSub, Array.replicate_succ, Array.replicate_zero, List.push_toArray, List.append_toArray, List.nil_append, List.cons_append]
  gi_wp2
  go_ret
  exact ⟨rfl, rfl⟩

theorem values_stops (F : Fence) (n : Nat) (h7 : F.fn 80) (hro : F.round = none) (hn : 1 ≤ n) (Bm b nn : Nat) (D0 : DataW Unit) (w : World) (hBm : Bm < w.heap.size)
    (hm : w.cell? ⟨Bm, 0, none⟩ = some (.map (some b))) (hown : w.ownsMap Tryz.prog 2 ptrElem b nn D0) :
    SeqStops F n Tryz.prog 80 #[.pointer (some ⟨Bm, 0, none⟩)] encP (fun xs => ∃ ps, AllOf D0 ps ∧ xs = ps.map (·.2)) (fun pre => ∃ ps, PartOf D0 ps ∧ pre = ps.map (·.2)) (Maps.size D0) w := fun l J Jx W hW hJ _ hY h0 => by
  have hown' : W.ownsMap Tryz.prog 2 ptrElem b nn D0 := by
    have hbl := hown.lt
    obtain ⟨es, clock, hb, Ft, hs, hD⟩ := hown
    exact ⟨es, clock, (hW.block b hbl).trans hb, Ft, hs, hD⟩
  exact values1S_in F n h7 hro hn l Bm b nn D0 J Jx hY W hJ ((hW.cell (p := ⟨Bm, 0, none⟩) hBm).trans hm) hown' h0

theorem info72 : (Tryz.prog.info? 91).map (fun i => (i.zero, i.size, i.bytes)) = some (some (.pointer none), 1, 8) := by kernel_rfl
theorem row_not_other {W : World} {B k r : Nat} {v : Value} {xs : List Value} {o : Obj} (h : W.ownsRow B 91 1 v k xs) (hr : W.heap[r]? = some o) (ho : o.isCells = false) : some r ≠ v.ownBlock := by
  rcases h.2 with ⟨rfl, _⟩ | ⟨g, cap, cur, rfl, _, hg, _⟩
  · simp [Value.ownBlock]
  · intro e
    obtain rfl : r = g := by simpa [Value.ownBlock] using e
    rw [hr] at hg
    cases hg
    cases ho

set_option maxRecDepth 100000 in
set_option maxHeartbeats 2000000 in
theorem appendSeq_in (F : Fence) (n : Nat) (h43 : F.fn 59) (hro : F.round = none) (hn : 2 ≤ n) (g : Nat) (lb : Array Value) (hFg : F.fn g) (eg : ∀ args w, (callFunc g args).run Tryz.prog w = .ok (.enter g args) w)
    (S Sp : List (Option Addr) → Prop) (N B : Nat) (x0 : Value) (xs0 : List (Option Addr)) (w : World) (hrow0 : w.ownsRow B 91 1 x0 xs0.length (xs0.map encP)) (hB : B ≤ w.heap.size) (hN : xs0.length + N ≤ 17592186044416)
    (hseq : SeqStops F (n - 1) Tryz.prog g lb encP S Sp N w) :
    CallsIn F n Tryz.prog 59 #[x0, .func (.func g) #[] lb] w fun e w' => ∃ (v : Value) (ss : List (Option Addr)), e = .returned v ∧ S ss ∧ w'.ownsRow B 91 1 v (xs0.length + ss.length) ((xs0 ++ ss).map encP) ∧ w.grownBy w' x0.ownBlock ∧
      (v.ownBlock = x0.ownBlock ∨ ∀ k, v.ownBlock = some k → w.heap.size ≤ k) := by
  have h1 : 1 ≤ n := by omega
  obtain ⟨i0, hi, hz0, hz1, hz2⟩ := info_parts info72
  obtain ⟨A0, c0, rfl⟩ : ∃ A0 c0, x0 = .slice A0 xs0.length c0 := by
    rcases hrow0.2 with ⟨rfl, h0⟩ | ⟨b, cp, cur, rfl, _⟩
    · exact ⟨none, 0, by rw [h0]⟩
    · exact ⟨_, _, rfl⟩
  refine callsIn_of_wp_marks Tryz.func59 rfl h43 ?_ hro
  simp only [Tryz.ntmps59, List.size_toArray, List.length_cons, List.length_nil, Nat.reduceAdd, Nat.reduceSub, Array.replicate_succ, Array.replicate_zero, List.push_toArray, List.append_toArray, List.nil_append, List.cons_append]
  gi_wp2
  refine wpIn_rangeFunc_ownF hro h1 (gf := g) (lb := lb) rfl hFg eg (encs := fun x => #[encP x]) (Kp := KeepsWalks) (w0 := w) hseq walksK_t walksK_b ((Below.refl _ w).alloc (Nat.le_refl _) _) (fun _ => rfl)
    (fun pre W => (∃ v, Boxed W w.heap.size 89 v ∧ W.ownsRow B 91 1 v (xs0.length + pre.length) ((xs0 ++ pre).map encP) ∧ (v.ownBlock = (Value.slice A0 xs0.length c0).ownBlock ∨ ∀ k, v.ownBlock = some k → w.heap.size ≤ k)) ∧ w.grownBy W (Value.slice A0 xs0.length c0).ownBlock)
    (fun _ _ _ => False) ?hI (fun _ _ _ _ _ hs _ _ => hs) ?h0
    (fun x => { tmps := #[.slice A0 xs0.length c0, .func (.func g) #[] lb, .pointer (some ⟨w.heap.size, 0, none⟩), undef, .slice none 0 0, encP x, .func (.func g) #[] lb, encP x, undef, undef, undef, undef, undef], defers := [] }) ?assign ?body ?done ?stop
  case hI =>
    rintro s W W' row ⟨⟨v, hbx, hrow, hat⟩, hgr⟩ hg hr
    refine ⟨⟨v, hbx.kept hg ?_, hrow.kept hg ?_, hat⟩, hgr.andThen hg fun j e => .inl ?_⟩
    · intro e
      obtain ⟨_, o, ho, hc⟩ := hr _ e.symm
      rw [show W.heap[w.heap.size]? = _ from hbx] at ho
      cases ho
      cases hc
    · by_cases e : v.ownBlock = none
      · exact .inl e
      · refine .inr fun e' => ?_
        obtain ⟨r, hv⟩ := Option.ne_none_iff_exists'.1 e
        obtain ⟨_, o, ho, hc⟩ := hr r (by rw [← e', hv])
        exact row_not_other hrow ho hc hv.symm
    · have := (hr j e).1
      simp at this
      omega
  case h0 =>
    exact ⟨⟨_, Boxed.new w 89 _, by simpa using hrow0.alloc _, .inl rfl⟩, World.grownBy_alloc w _ _⟩
  case assign =>
    intro l x W K hK
    gi_wp2
    exact hK
  case body =>
    rintro l pre x W ⟨⟨v, hbx, hrow, hat⟩, hgr⟩ hlen
    have hcv := hbx.cell
    have hsz := hgr.size
    gi_wp2_with (gi_at_builtin; refine wpListIn_append_own_at _ rfl _ _ 89 rfl B 91 i0 (.pointer none) 1 8 Tryz.underlying89 hi hz0 hz1 hz2 rfl (by decide) _ _ _ rfl (hrow.alloc _) ⟨W.heap.size, 0, none⟩ 1 1 [encP x] rfl rfl (cell_one_new _ _ _) (by simp [Value.oneCell']) (by unfold maxLen; omega) (by omega) (by simp; omega) ?_; intro v' w1 hown' hgrow _ hat'; obtain ⟨g', cap', rfl⟩ := ownsRow_succ hown'; obtain ⟨hv1, hv2, hr2, hk2, hb2⟩ := hbx.appended (by decide) hrow (by omega) hB hown' hgrow; have hc1 := hv1.cell; have hf1 := hv1.frozen)
    have hkw : KeepsWalks W (w1.setCell ⟨w.heap.size, 0, none⟩ (.slice (some ⟨g', 0, none⟩) (xs0.length + pre.length + 1) cap')) := ((KeepsWalks.alloc _ _).trans (KeepsWalks.of_grownBy hgrow fun j o ej hj => by
      cases hw : o.isWalk with
      | false => rfl
      | true => exact absurd ej.symm (row_not_other (hrow.alloc _) hj (Obj.not_cells_of_walk hw)))).trans (KeepsWalks.setCell _ _ _)
    have hat2 : (Value.slice (some ⟨g', 0, none⟩) (xs0.length + pre.length + 1) cap').ownBlock = v.ownBlock ∨ (Value.slice (some ⟨g', 0, none⟩) (xs0.length + pre.length + 1) cap').ownBlock = some (W.alloc (.cells #[encP x] 91)).heap.size := hat'
    refine ⟨hk2, hkw, ⟨⟨_, hv2, by simpa [Nat.add_assoc] using hr2, ?_⟩, ?_⟩⟩
    · rcases hat2 with e | e
      · rcases hat with e2 | e2
        · exact .inl (e.trans e2)
        · exact .inr fun k hk => e2 k (e.symm.trans hk)
      · refine .inr fun k hk => ?_
        rw [e] at hk
        simp at hk
        omega
    · refine ((hgr.andThen (World.grownBy_alloc W _ none) (fun j e => by cases e)).andThen hgrow (fun j e => ?_)).andThen (grownBy_setCell' _ _ _) (fun j e => .inl (by cases e; exact Nat.le_refl _))
      rcases hat with e2 | e2
      · exact .inr (by rw [← e2]; exact e)
      · exact .inl (e2 j e)
  case done =>
    rintro D ss W hD hS ⟨⟨v, hbx, hrow, hat⟩, hgr⟩ hK
    have hcv := hbx.cell
    gi_wp2
    refine ⟨by simp, .inl ⟨_, _, rfl, run_takeDeferred hK, ?_⟩⟩
    exact ⟨_, results_tmp rfl _ _ _, v, ss, rfl, hS, ownsRow_putObj hrow _ hK rfl, hgr.andThen (grownBy_putObj' _ _ _) (fun j e => .inl (by cases e; simp at hD; omega)), hat⟩
  case stop =>
    rintro D c pre W _ _ h _
    exact h.elim
end Go.Proofs.YtancenklmfamnaaGreat.Sh
namespace Go.Proofs.YtancenklmfamnaaGreat.Sh
open Go.RowKit Go.Maps Go.Sort Go.Shelf
open Go.Proofs

/-- a map's datum, as a function -/
structure View (D : DataW Unit) (f : Lit → Option (DataW Unit)) : Prop where
  tidy : Tidy D
  has : ∀ k, has D k = (f k).isSome
  at_ : ∀ k z, D.atKey k z = (f k).getD z
theorem View.empty : View (.map []) (fun _ => none) := ⟨tidy_empty, fun k => rfl, fun k z => rfl⟩
open Classical in
theorem View.put {D : DataW Unit} {f : Lit → Option (DataW Unit)} (h : View D f) {k : Lit} (hk : WideAt.IsKeyLit k) (d : DataW Unit) : View (D.put k d) (fun k' => if k' = k then some d else f k') := by
  refine ⟨h.tidy.put hk d, fun k' => ?_, fun k' z => ?_⟩
  · by_cases e : k' = k
    · subst e; simp [has_put_same h.tidy.isMap hk d]
    · simp [e, has_put_other e, h.has]
  · by_cases e : k' = k
    · subst e; simp [atKey_put_same h.tidy.isMap hk]
    · simp [e, atKey_put_other e, h.at_]
open Classical in
theorem View.del {D : DataW Unit} {f : Lit → Option (DataW Unit)} (h : View D f) (k : Lit) : View (D.del k) (fun k' => if k' = k then none else f k') := by
  refine ⟨h.tidy.del k, fun k' => ?_, fun k' z => ?_⟩
  · by_cases e : k' = k
    · subst e; simp [has_del_same]
    · simp [e, has_del_other e, h.has]
  · by_cases e : k' = k
    · subst e; simp [atKey_del_same]
    · simp [e, atKey_del_other e, h.at_]
theorem View.congr {D : DataW Unit} {f g : Lit → Option (DataW Unit)} (h : View D f) (e : ∀ k, f k = g k) : View D g := by
  rw [← funext e]; exact h

/-- a map as an element -/
def mapElem : Value → Option (DataW Unit × List MemPlace)
  | .map (some b) => some (.lit (.int .i64 b), [])
  | .map none => some (.lit (.int .i64 (-1)), [])
  | _ => none
theorem mapElem_inv {v : Value} {z : DataW Unit × List MemPlace} (h : mapElem v = some z) : ∃ p : Option Nat, v = .map p ∧ z = (match p with | some b => .lit (.int .i64 b) | none => .lit (.int .i64 (-1)), []) := by
  cases v <;> simp [mapElem] at h
  rename_i p
  cases p <;> simp [mapElem] at h
  · exact ⟨none, rfl, h.symm⟩
  · exact ⟨some _, rfl, h.symm⟩
def litB (b : Nat) : DataW Unit := .lit (.int .i64 b)
theorem litB_inj {a b : Nat} (h : litB a = litB b) : a = b := by simp [litB] at h; omega
theorem ptr_of_litB {p : Option Addr} {b : Nat} (h : ptrD p = litB b) : p = some ⟨b, 0, none⟩ := by
  unfold ptrD at h
  split at h
  · simp [litB] at h; simp <;> omega
  · simp [litB] at h

/-- a model, and where it lies -/
structure LM where
  name : ByteArray
  ver : Int
  val : Value          -- its bytes, as a slice
  dat : List Int       -- .. and what they are
  used : Int
  touched : Int
  blk : Nat
def LM.ptr (m : LM) : Option Addr := some ⟨m.blk, 0, none⟩
abbrev encB : Int → Value := Value.int .u8

/-- where the shelf lies, and what it holds -/
structure Lay where
  lk : Int
  room : Int
  bytes : Int
  count : Int
  touch : Int
  mm : Nat                          -- the outer map
  ml : Nat                          -- the names' map
  inn : List (ByteArray × Nat)      -- the inner maps
  ms : List LM
  last : List (ByteArray × Int)

def keyS (s : ByteArray) : Lit := .string s.data.toList
def outerF (inn : List (ByteArray × Nat)) : Lit → Option (DataW Unit)
  | .string s => (inn.find? fun x => decide (x.1.data.toList = s)).map fun x => litB x.2
  | _ => none
def innerF (ms : List LM) (nm : ByteArray) : Lit → Option (DataW Unit)
  | .int .i64 v => (ms.find? fun m => decide (m.name = nm) && decide (m.ver = v)).map fun m => litB m.blk
  | _ => none
def lastF (last : List (ByteArray × Int)) : Lit → Option (DataW Unit)
  | .string s => (last.find? fun x => decide (x.1.data.toList = s)).map fun x => .lit (.int .i64 x.2)
  | _ => none

def ShCells (L : Lay) (sem : Value) : Array Value := #[.int .i32 L.lk, sem, .int .i64 L.room, .int .i64 L.bytes, .int .i64 L.count, .int .i64 L.touch, .map (some L.mm), .map (some L.ml)]
def MdCells (m : LM) : Array Value := #[.string m.name, .int .i64 m.ver, m.val, .int .i64 m.used, .int .i64 m.touched]

/-- the shelf at p; all that it holds lies at B or beyond -/
structure ShelfIs (B : Nat) (W : World) (p : Nat) (L : Lay) : Prop where
  blk : ∃ sem, W.heap[p]? = some (.cells #[.int .i32 L.lk, sem, .int .i64 L.room, .int .i64 L.bytes, .int .i64 L.count, .int .i64 L.touch, .map (some L.mm), .map (some L.ml)] 88 (0, 0))
  outer : ∃ n D, n ≤ 1099511627776 ∧ W.ownsMap Tryz.prog 9 mapElem L.mm n D ∧ View D (outerF L.inn)
  names : ∃ n D, n ≤ 1099511627776 ∧ W.ownsMap Tryz.prog 9 (plainElem Tryz.prog 2) L.ml n D ∧ View D (lastF L.last)
  inner : ∀ x ∈ L.inn, ∃ n D, n ≤ 1099511627776 ∧ W.ownsMap Tryz.prog 2 ptrElem x.2 n D ∧ View D (innerF L.ms x.1)
  mods : ∀ m ∈ L.ms, W.heap[m.blk]? = some (.cells #[.string m.name, .int .i64 m.ver, m.val, .int .i64 m.used, .int .i64 m.touched] 93 (0, 0)) ∧ W.ownsRow B 5 1 m.val m.dat.length (m.dat.map encB)
  low : B ≤ p ∧ B ≤ L.mm ∧ B ≤ L.ml ∧ (∀ x ∈ L.inn, B ≤ x.2) ∧ ∀ m ∈ L.ms, B ≤ m.blk
  innNames : (L.inn.map (·.1)).Nodup
  innBlks : (L.inn.map (·.2)).Nodup
  far : L.mm ≠ L.ml ∧ ∀ x ∈ L.inn, x.2 ≠ L.mm ∧ x.2 ≠ L.ml
  keys : (L.ms.map fun m => (m.name, m.ver)).Nodup
  blks : (L.ms.map (·.blk)).Nodup
  homed : ∀ m ∈ L.ms, m.name ∈ L.inn.map (·.1)
  lastNames : (L.last.map (·.1)).Nodup
  few : L.ms.length ≤ 256

/-- how many entries -/
theorem View.size {W : World} {k : TypeId} {R : Value → Option (DataW Unit × List MemPlace)} {b n : Nat} {D : DataW Unit} {f : Lit → Option (DataW Unit)} (h : View D f) (hown : W.ownsMap Tryz.prog k R b n D) (K : Keyed Tryz.prog k)
    {ks : List Lit} (hn : ks.Nodup) (hk : ∀ x, (f x).isSome = true ↔ x ∈ ks) : Maps.size D = ks.length := by
  obtain ⟨es, rfl, hp, hl⟩ := hown.entries K
  have hes : (es.map (·.1)).Nodup := List.pairwise_map.2 hp
  have hperm : (es.map (·.1)).Perm ks := (List.perm_ext_iff_of_nodup hes hn).2 fun x => by
    rw [← hk, ← h.has, has_eq, List.any_eq_true, List.mem_map]
    constructor
    · rintro ⟨q, hq, rfl⟩
      refine ⟨q, hq, ?_⟩
      have := hl q hq
      revert this
      cases q.1 <;> simp [WideAt.IsKeyLit, Lit.sameKey]
    · rintro ⟨q, hq, hs⟩
      exact ⟨q, hq, WideAt.sameKey_eq hs⟩
  have := hperm.length_eq
  simpa [Maps.size] using this
theorem ownsMap_tight {W : World} {k : TypeId} {R : Value → Option (DataW Unit × List MemPlace)} {b n : Nat} {D : DataW Unit} (h : W.ownsMap Tryz.prog k R b n D) : W.ownsMap Tryz.prog k R b (Maps.size D) D := by
  obtain ⟨es, clock, h1, F, h2, rfl⟩ := h
  exact ⟨es, clock, h1, F, by rw [Maps.size]; simp [length_read], rfl⟩
theorem keyS_inj {a b : ByteArray} (h : keyS a = keyS b) : a = b := by
  cases a; cases b; simp [keyS] at h; simp [h]
theorem names_keys {α : Type} {l : List (ByteArray × α)} (h : (l.map (·.1)).Nodup) : (l.map fun x => keyS x.1).Nodup := by
  refine List.pairwise_map.2 ((List.pairwise_map.1 h).imp fun hne e => hne (keyS_inj e))
theorem outer_ks (inn : List (ByteArray × Nat)) (x : Lit) : (outerF inn x).isSome = true ↔ x ∈ inn.map fun y => keyS y.1 := by
  cases x <;> simp [outerF, keyS, List.mem_map, List.find?_isSome]
theorem last_ks (last : List (ByteArray × Int)) (x : Lit) : (lastF last x).isSome = true ↔ x ∈ last.map fun y => keyS y.1 := by
  cases x <;> simp [lastF, keyS, List.mem_map, List.find?_isSome]
def verK (m : LM) : Lit := .int .i64 m.ver
theorem inner_ks (ms : List LM) (nm : ByteArray) (x : Lit) : (innerF ms nm x).isSome = true ↔ x ∈ (ms.filter fun m => decide (m.name = nm)).map verK := by
  cases x <;> simp [innerF, verK, List.mem_map, List.find?_isSome]
  rename_i q v
  cases q <;> simp [innerF, verK, List.mem_map, List.find?_isSome, List.mem_filter, and_assoc]
theorem inner_keys {ms : List LM} {nm : ByteArray} (hk : (ms.map fun m => (m.name, m.ver)).Nodup) : ((ms.filter fun m => decide (m.name = nm)).map verK).Nodup := by
  have h1 : ((ms.filter fun m => decide (m.name = nm)).map fun m => (m.name, m.ver)).Nodup := (List.filter_sublist.map _).nodup hk
  refine List.pairwise_map.2 ((List.pairwise_map.1 h1).imp_of_mem fun {a c} ha hc hne e => hne ?_)
  simp [verK] at ha hc e
  rw [ha.2, hc.2, e]
end Go.Proofs.YtancenklmfamnaaGreat.Sh
namespace Go.Proofs.YtancenklmfamnaaGreat.Sh
open Go.RowKit Go.Maps Go.Sort Go.Shelf
open Go.Proofs

theorem nodup_of_map {α β : Type} {l : List α} {f : α → β} (h : (l.map f).Nodup) : l.Nodup := (List.pairwise_map.1 h).imp (fun hne e => hne (by rw [e]))
theorem map_inj {α β : Type} {f : α → β} : ∀ {l : List α}, (l.map f).Nodup → ∀ {a b : α}, a ∈ l → b ∈ l → f a = f b → a = b
  | [], _, _, _, ha, _, _ => by cases ha
  | x :: l, h, a, b, ha, hb, e => by
    simp only [List.map_cons, List.nodup_cons] at h
    rcases List.mem_cons.1 ha with e1 | ha' <;> rcases List.mem_cons.1 hb with e2 | hb'
    · rw [e1, e2]
    · exact (h.1 (List.mem_map.2 ⟨b, hb', by rw [← e, e1]⟩)).elim
    · exact (h.1 (List.mem_map.2 ⟨a, ha', by rw [e, e2]⟩)).elim
    · exact map_inj h.2 ha' hb' e
theorem find_key {ms : List LM} {nm : ByteArray} {v : Int} {m : LM} (h : ms.find? (fun m => decide (m.name = nm) && decide (m.ver = v)) = some m) : m ∈ ms ∧ m.name = nm ∧ m.ver = v := by
  have h1 := List.find?_some h
  simp at h1
  exact ⟨List.mem_of_find?_eq_some h, h1⟩

/-- all values of an inner map: the models of that name -/
theorem vals_of_inner {ms : List LM} {nm : ByteArray} {D : DataW Unit} {ps : List (Int × Option Addr)} (hV : View D (innerF ms nm)) (hk : (ms.map fun m => (m.name, m.ver)).Nodup) (h : AllOf D ps) {n b : Nat} {W : World}
    (hown : W.ownsMap Tryz.prog 2 ptrElem b n D) : (ps.map (·.2)).Perm ((ms.filter fun m => decide (m.name = nm)).map LM.ptr) := by
  obtain ⟨hp, hv⟩ := h
  obtain ⟨es, rfl, hes, hkl⟩ := hown.entries (int_keyed Tryz.underlying2)
  have hnd : (ps.map (·.1)).Nodup := hp.nodup_iff.2 (by
    obtain ⟨es', e, hks⟩ := hown.keysOf
    cases e
    show (es.map fun p => intOf p.1).Nodup
    refine List.pairwise_map.2 (hes.imp_of_mem fun {p q} hp' hq' hne e => hne ?_)
    obtain ⟨a, ha⟩ := hks p hp'
    obtain ⟨a', ha'⟩ := hks q hq'
    obtain ⟨x, _, hx, _⟩ := Maps.keyOf_i64 Tryz.underlying2 ha
    obtain ⟨x', _, hx', _⟩ := Maps.keyOf_i64 Tryz.underlying2 ha'
    rw [hx, hx'] at e ⊢
    exact congrArg _ e)
  have hps : ps.Nodup := nodup_of_map hnd
  have hmem : ∀ x, x ∈ ps.map (·.1) ↔ has (.map es) (.int .i64 x) = true := by
    intro x
    rw [hp.mem_iff, has_eq, List.any_eq_true]
    show x ∈ es.map (fun p => intOf p.1) ↔ _
    rw [List.mem_map]
    obtain ⟨es', e, hks⟩ := hown.keysOf
    cases e
    constructor
    · rintro ⟨p, hp', rfl⟩
      obtain ⟨a, ha⟩ := hks p hp'
      obtain ⟨y, _, hy, _⟩ := Maps.keyOf_i64 Tryz.underlying2 ha
      exact ⟨p, hp', by rw [hy]; simp [Lit.sameKey, intOf]⟩
    · rintro ⟨p, hp', hs⟩
      exact ⟨p, hp', by rw [WideAt.sameKey_eq hs]; rfl⟩
  have hsub : (ms.filter fun m => decide (m.name = nm)).Sublist ms := List.filter_sublist
  have hq : ((ms.filter fun m => decide (m.name = nm)).map fun m => (m.ver, m.ptr)).Nodup := by
    have h1 : ((ms.filter fun m => decide (m.name = nm)).map fun m => (m.name, m.ver)).Nodup := (hsub.map _).nodup hk
    refine List.pairwise_map.2 ((List.pairwise_map.1 h1).imp_of_mem fun {a c} ha hc hne e => hne ?_)
    simp at ha hc e
    rw [ha.2, hc.2, e.1]
  have hperm : ps.Perm ((ms.filter fun m => decide (m.name = nm)).map fun m => (m.ver, m.ptr)) := by
    refine (List.perm_ext_iff_of_nodup hps hq).2 fun x => ?_
    constructor
    · intro hx
      have h1 := (hmem x.1).1 (List.mem_map_of_mem hx)
      have h2 := hv x hx (.lit (.int .i64 0))
      rw [hV.has] at h1
      rw [hV.at_] at h2
      obtain ⟨d, hd⟩ := Option.isSome_iff_exists.1 h1
      rw [hd] at h2
      unfold innerF at hd
      simp only [Option.map_eq_some_iff] at hd
      obtain ⟨m, hm, rfl⟩ := hd
      obtain ⟨m1, m2, m3⟩ := find_key hm
      refine List.mem_map.2 ⟨m, List.mem_filter.2 ⟨m1, by simpa using m2⟩, ?_⟩
      have := ptr_of_litB h2.symm
      ext1
      · exact m3
      · exact this.symm
    · intro hx
      obtain ⟨m, hm, rfl⟩ := List.mem_map.1 hx
      obtain ⟨m1, m2⟩ := List.mem_filter.1 hm
      have m2 : m.name = nm := by simpa using m2
      have hf : ms.find? (fun m' => decide (m'.name = nm) && decide (m'.ver = m.ver)) = some m := by
        cases e : ms.find? (fun m' => decide (m'.name = nm) && decide (m'.ver = m.ver)) with
        | none => exact absurd (List.find?_eq_none.1 e m m1) (by simp [m2])
        | some m' =>
          obtain ⟨a1, a2, a3⟩ := find_key e
          have := map_inj hk a1 m1 (by rw [a2, a3, m2])
          rw [this]
      have hF : innerF ms nm (.int .i64 m.ver) = some (litB m.blk) := by simp only [innerF]; rw [hf]; rfl
      have h1 : has (.map es) (.int .i64 m.ver) = true := by rw [hV.has, hF]; rfl
      obtain ⟨q, hq1, hq2⟩ := List.mem_map.1 ((hmem m.ver).2 h1)
      have h2 := hv q hq1 (.lit (.int .i64 0))
      rw [hq2, hV.at_, hF] at h2
      have := ptr_of_litB h2.symm
      have e : q = (m.ver, m.ptr) := by
        ext1
        · exact hq2
        · exact this
      rw [← e]
      exact hq1
  have := hperm.map (·.2)
  simpa [List.map_map, Function.comp_def] using this

theorem ShelfIs.below {B p : Nat} {W W1 : World} {L : Lay} (h : ShelfIs B W p L) (hb : Below W.heap.size W W1) : ShelfIs B W1 p L := by
  have mv : ∀ {k : TypeId} {R : Value → Option (DataW Unit × List MemPlace)} {b n : Nat} {D : DataW Unit}, W.ownsMap Tryz.prog k R b n D → W1.ownsMap Tryz.prog k R b n D := fun hm => by
    have hl := hm.lt
    obtain ⟨es, clock, h1, F, hs, hD⟩ := hm
    exact ⟨es, clock, (hb.block _ hl).trans h1, F, hs, hD⟩
  have bk : ∀ {k : Nat} {o : Obj}, W.heap[k]? = some o → W1.heap[k]? = some o := fun hk => (hb.block _ (Array.getElem?_eq_some_iff.1 hk).1).trans hk
  obtain ⟨sem, h1⟩ := h.blk
  obtain ⟨n1, D1, a1, a2, a3⟩ := h.outer
  obtain ⟨n2, D2, b1, b2, b3⟩ := h.names
  exact { h with
    blk := ⟨sem, bk h1⟩
    outer := ⟨n1, D1, a1, mv a2, a3⟩
    names := ⟨n2, D2, b1, mv b2, b3⟩
    inner := fun x hx => by obtain ⟨n, D, c1, c2, c3⟩ := h.inner x hx; exact ⟨n, D, c1, mv c2, c3⟩
    mods := fun m hm => by
      obtain ⟨c1, c2⟩ := h.mods m hm
      refine ⟨bk c1, c2.1, ?_⟩
      rcases c2.2 with c | ⟨g, cap, cur, e1, e2, e3, e4⟩
      · exact .inl c
      · exact .inr ⟨g, cap, cur, e1, e2, bk e3, e4⟩ }

theorem infoSl : (Tryz.prog.info? 89).map (fun i => (i.zero, i.size, i.bytes)) = some (some (.slice none 0 0), 1, 24) := by kernel_rfl

theorem filter_two {α : Type} (f g : α → Bool) : ∀ (l : List α), (∀ x ∈ l, f x = true → g x = false) → (l.filter fun x => f x || g x).Perm (l.filter f ++ l.filter g)
  | [], _ => .refl _
  | x :: l, h => by
    have ih := filter_two f g l (fun y hy => h y (List.mem_cons_of_mem _ hy))
    cases hf : f x with
    | true =>
      have hg := h x List.mem_cons_self hf
      simpa [List.filter_cons, hf, hg] using ih.cons x
    | false =>
      cases hg : g x with
      | true => simpa [List.filter_cons, hf, hg] using (ih.cons x).trans List.perm_middle.symm
      | false => simpa [List.filter_cons, hf, hg] using ih
theorem outer_find {inn : List (ByteArray × Nat)} {s : List UInt8} {d : DataW Unit} (h : outerF inn (.string s) = some d) : ∃ x ∈ inn, x.1.data.toList = s ∧ d = litB x.2 := by
  simp only [outerF, Option.map_eq_some_iff] at h
  obtain ⟨x, hx, rfl⟩ := h
  exact ⟨x, List.mem_of_find?_eq_some hx, by simpa using List.find?_some hx, rfl⟩
theorem outer_has {inn : List (ByteArray × Nat)} {nm : ByteArray} (h : nm ∈ inn.map (·.1)) : (outerF inn (.string nm.data.toList)).isSome = true := by
  obtain ⟨x, hx, rfl⟩ := List.mem_map.1 h
  simp only [outerF, Option.isSome_map, List.find?_isSome]
  exact ⟨x, hx, by simp⟩
theorem mapElem_litB {c : Option Nat} {b : Nat} {ps : List MemPlace} (h : mapElem (.map c) = some (litB b, ps)) : c = some b := by
  cases c with
  | none => simp [mapElem, litB] at h
  | some c => simp [mapElem, litB] at h; simp; omega
theorem toList_inj {a b : ByteArray} (h : a.data.toList = b.data.toList) : a = b := by
  cases a; cases b; simp at h; simp [h]
theorem cells_not {W : World} {b : Nat} {n : Nat} {k : TypeId} {R : Value → Option (DataW Unit × List MemPlace)} {D : DataW Unit} (h : W.ownsMap Tryz.prog k R b n D) : ∃ o, W.heap[b]? = some o ∧ o.isCells = false := by
  obtain ⟨es, clock, hb, _⟩ := h
  exact ⟨_, hb, rfl⟩

set_option maxHeartbeats 4000000 in
set_option maxRecDepth 1000000 in
theorem all_any (B p : Nat) (L : Lay) (w : World) (h : ShelfIs B w p L) :
    Calls Tryz.prog 35 #[.pointer (some ⟨p, 0, none⟩)] w fun e w' => ∃ (v : Value) (bs : List (Option Addr)), e = .returned v ∧ bs.Perm (L.ms.map LM.ptr) ∧ w'.ownsRow w.heap.size 91 1 v bs.length (bs.map encP) ∧ Below w.heap.size w w' := by
  obtain ⟨sem, hblk⟩ := h.blk
  obtain ⟨n1, D1, hn1, hown1, hv1⟩ := h.outer
  have c6 : w.cell? ⟨p, 6, none⟩ = some (.map (some L.mm)) := by rw [Lib.cell_of_heap hblk]; rfl
  have H := Lib.hid h
  have HO := Lib.hid hown1
  clear h hblk hown1
  go_enter Tryz.func35, Tryz.ntmps35
  go_wp2_with (at_range; go_must (refine wpList_range_own _ rfl _ 85 rfl 9 112 (string_keyed Tryz.underlying9) Tryz.underlying85 mapElem L.mm n1 D1 rfl HO.out ?_; intro w0 hrg0 hg0 hs0))
  have HG0 := Lib.hid hg0
  have HS0 := Lib.hid hs0
  clear hg0 hs0
  go_frame
  go_loopw [3] (fun v3 wr => ∃ (left : Lit → Bool) (cnt : Nat) (nms : List (List UInt8)) (bs : List (Option Addr)), wr.ranges Tryz.prog 9 mapElem L.mm w.heap.size n1 D1 left cnt ∧ Collected D1 left nms ∧ bs.Perm ((L.ms.filter fun m => decide (m.name.data.toList ∈ nms)).map LM.ptr) ∧
      wr.ownsRow w.heap.size 91 1 v3 bs.length (bs.map encP) ∧ Below w.heap.size w wr) (fun _ wr => wr.rangeLeft L.mm w.heap.size)
  case atStart =>
    exact ⟨_, _, [], [], hrg0, Collected.start D1, by simp, World.ownsRow_nil _ _ _ _, (Below.refl _ w).grown HG0.out (Nat.le_refl _) (fun j e => by cases e)⟩
  case round =>
    obtain ⟨left, cnt, nms, bs, hrg, hC, hbs, hrow, hbl⟩ := hrel
    have HRG := Lib.hid hrg
    have HC := Lib.hid hC
    have HBS := Lib.hid hbs
    have HROW := Lib.hid hrow
    have HBL := Lib.hid hbl
    clear hrg hC hbs hrow hbl hrg0
    go_wp2_with (at_next; go_must (refine wpList_next_ranges _ rfl _ rfl 9 (string_keyed Tryz.underlying9) mapElem encStr Value.map (fun key kl hk => by obtain ⟨x, hx, _⟩ := Maps.keyOf_str Tryz.underlying9 hk; exact ⟨x, hx⟩) (fun v y hv => by obtain ⟨c, hc, _⟩ := mapElem_inv hv; exact ⟨c, hc⟩) L.mm w.heap.size n1 _ _ _ rfl HRG.out ?_ ?_))
    · intro hc0 hl0
      have hbs2 : bs.Perm (L.ms.map LM.ptr) := by
        have e : (L.ms.filter fun m => decide (m.name.data.toList ∈ nms)) = L.ms := List.filter_eq_self.2 fun m hm => by
          have h1 := outer_has (H.out.homed m hm)
          rw [← hv1.has] at h1
          simpa using (HC.out.2 _).2 ⟨h1, hl0 _⟩
        have := HBS.out
        rwa [e] at this
      go_wp2
      go_ret
      exact ⟨_, bs, rfl, hbs2, HROW.out, HBL.out⟩
    · intro x c kl yd yp w2 cnt2 hkey hlk hv hat hrg2 hlt hg2 hs2 hen
      obtain ⟨x', ex, rfl, _⟩ := Maps.keyOf_str Tryz.underlying9 hkey
      obtain rfl : x = x' := encStr_inj ex
      have hhas : has D1 (.string x) = true := has_true_of_atKey hat
      rw [hv1.has] at hhas
      obtain ⟨d, hd⟩ := Option.isSome_iff_exists.1 hhas
      obtain ⟨⟨nm, ib⟩, hin, hx, rfl⟩ := outer_find hd
      have h1 := hat (.lit (.int .i64 0))
      rw [hv1.at_, hd] at h1
      simp only [Option.getD_some] at h1
      subst h1
      obtain rfl := mapElem_litB hv
      obtain ⟨nI, DI, hnI, hownI, hvI⟩ := H.out.inner _ hin
      have bl2 : Below w.heap.size w w2 := HBL.out.grown hg2 HBL.out.size (fun j e => by cases e; exact Nat.le_refl _)
      have hib : ib < w.heap.size := hownI.lt
      have hownI2 : w2.ownsMap Tryz.prog 2 ptrElem ib nI DI := by
        obtain ⟨es, clock, e1, F, e2, e3⟩ := hownI
        exact ⟨es, clock, (bl2.block _ hib).trans e1, F, e2, e3⟩
      have hrow2 := HROW.out.kept hg2 (by
        by_cases e : u3.ownBlock = none
        · exact .inl e
        · refine .inr fun e' => ?_
          obtain ⟨o, ho, hw⟩ := HRG.out.iter_walk
          exact row_not_other HROW.out ho (Obj.not_cells_of_walk hw) e'.symm)
      have HRG2 := Lib.hid hrg2
      have HROW2 := Lib.hid hrow2
      have HOWN2 := Lib.hid hownI2
      have HBL2 := Lib.hid bl2
      have HLK := Lib.hid hlk
      have HAT := Lib.hid hat
      have HLT := Lib.hid hlt
      have HVI := Lib.hid hvI
      have HX := Lib.hid hx
      clear hrg2 hrow2 hownI2 hownI bl2 hlk hat hlt hvI hs2 hg2 hv hd hkey hx
      have hBB : w.heap.size ≤ (w2.alloc (.cells #[.map (some ib)] 112)).heap.size := by have := HBL2.out.size; simp; omega
      have hNN : bs.length + size DI ≤ 17592186044416 := by
        have h1 := HBS.out.length_eq
        have h2 := List.length_filter_le (fun m : LM => decide (m.name.data.toList ∈ nms)) L.ms
        have h3 := H.out.few
        have h4 := HOWN2.out.size_le
        simp at h1
        omega
      have CV : ∀ W : World, Calls Tryz.prog 60 #[.map (some ib)] W fun e w' => e = .returned (.func (.func 80) #[] #[.pointer (some ⟨W.heap.size, 0, none⟩)]) ∧ w' = W.alloc (.cells #[.map (some ib)] 112) := fun W => (callsIn_wide (n := 6)).1 (values_in Fence.wide 6 trivial rfl _ W)
      go_wp2_with (first
        | (go_at_call 60; go_must (refine (CV _).mono ?_; rintro e w3 ⟨rfl, rfl⟩))
        | (go_at_call 59; go_must (refine ((callsIn_wide (n := 6)).1 (appendSeq_in Fence.wide 6 trivial rfl (by omega) 80 _ trivial (enters_of Tryz.func80 (by kernel_rfl) rfl) _ _ _ w.heap.size _ bs _ (HROW2.out.alloc _) hBB hNN (values_stops Fence.wide 5 trivial rfl (by omega) w2.heap.size ib nI DI _ (by simp) ((Lib.cell_of_heap (World.alloc_heap_new w2 _) 0).trans rfl) (HOWN2.out.alloc _)))).mono ?_; rintro e w4 ⟨v, ss, rfl, ⟨ps, hps, rfl⟩, hrow4, hg4, hat4⟩)))
      have hbl4 : Below w.heap.size w w4 := (HBL2.out.alloc HBL2.out.size _).grown hg4 (by have := HBL2.out.size; simp; omega) (fun j e => (HROW2.out.lt j e).1)
      have hrow2' : (w2.alloc (.cells #[.map (some ib)] 112)).ownsRow w.heap.size 91 1 u3 bs.length (bs.map encP) := HROW2.out.alloc _
      have hrg4 := (HRG2.out.alloc (.cells #[.map (some ib)] 112)).kept hg4 (by
        obtain ⟨o, ho, hc⟩ := cells_not (HRG2.out.alloc (.cells #[.map (some ib)] 112)).owns
        exact row_not_other hrow2' ho hc) (by
        obtain ⟨o, ho, hw⟩ := (HRG2.out.alloc (.cells #[.map (some ib)] 112)).iter_walk
        exact row_not_other hrow2' ho (Obj.not_cells_of_walk hw))
      have hvals := vals_of_inner HVI.out H.out.keys hps HOWN2.out
      have hnx : ¬ x ∈ nms := fun hm => by
        have h1 := ((HC.out.2 x).1 hm).2
        rw [HLK.out] at h1
        cases h1
      have hperm : (bs ++ ps.map (·.2)).Perm ((L.ms.filter fun m => decide (m.name.data.toList ∈ nms ++ [x])).map LM.ptr) := by
        have h2 := filter_two (fun m : LM => decide (m.name.data.toList ∈ nms)) (fun m : LM => decide (m.name = nm)) L.ms (fun m hm h => by
          simp at h ⊢
          rintro rfl
          exact hnx (by rw [← HX.out]; exact h))
        have e : (L.ms.filter fun m => decide (m.name.data.toList ∈ nms ++ [x])) = L.ms.filter fun m => (decide (m.name.data.toList ∈ nms) || decide (m.name = nm)) := by
          congr 1
          funext m
          have h3 : (m.name.data.toList = x) = (m.name = nm) := propext ⟨fun h => toList_inj (by rw [h, ← HX.out]), fun h => by rw [h, ← HX.out]⟩
          simp [h3]
        rw [e]
        refine ((HBS.out.append hvals).trans ?_).trans (h2.map LM.ptr).symm
        rw [List.map_append]
      go_roundw
      case rel => exact ⟨_, cnt2, nms ++ [x], bs ++ ps.map (·.2), hrg4, HC.out.step HLK.out HAT.out, hperm, by simpa using hrow4, hbl4⟩
      case measure => rw [hrg4.left_eq, HRG.out.left_eq]; exact HLT.out
end Go.Proofs.YtancenklmfamnaaGreat.Sh
namespace Go.Proofs.YtancenklmfamnaaGreat.Sh
open Go.RowKit Go.Maps Go.Sort Go.Shelf
open Go.Proofs

/-- all blocks but those of S are as they were -/
def Same (S : Nat → Prop) (w w' : World) : Prop := w'.os = w.os ∧ w'.tape = w.tape ∧ w'.output = w.output ∧ w.heap.size ≤ w'.heap.size ∧ ∀ k, k < w.heap.size → ¬ S k → w'.heap[k]? = w.heap[k]?
theorem Same.trans {S : Nat → Prop} {a b c : World} (h : Same S a b) (k : Same S b c) : Same S a c :=
  ⟨k.1.trans h.1, k.2.1.trans h.2.1, k.2.2.1.trans h.2.2.1, Nat.le_trans h.2.2.2.1 k.2.2.2.1, fun i hi hS => (k.2.2.2.2 i (Nat.lt_of_lt_of_le hi h.2.2.2.1) hS).trans (h.2.2.2.2 i hi hS)⟩
theorem Same.below {S : Nat → Prop} {a b : World} (h : Below a.heap.size a b) : Same S a b := ⟨h.os, h.tape, h.output, h.size, fun k hk _ => h.block k hk⟩
theorem Same.grown {S : Nat → Prop} {a b : World} {row : Option Nat} (h : a.grownBy b row) (hr : ∀ k, row = some k → S k ∨ a.heap.size ≤ k) : Same S a b :=
  ⟨h.os, h.tape, h.output, h.size, fun k hk hS => h.block k hk (fun e => by rcases hr k e.symm with h | h; exact hS h; omega)⟩
theorem Same.set {S : Nat → Prop} (a : World) (p : Addr) (v : Value) (hp : S p.block) : Same S a (a.setCell p v) :=
  ⟨rfl, rfl, rfl, by simp [World.setCell], fun k hk hS => Below.heap_setCell a p v k (fun e => hS (by rw [e]; exact hp))⟩
theorem Same.refl {S : Nat → Prop} (a : World) : Same S a a := ⟨rfl, rfl, rfl, Nat.le_refl _, fun _ _ _ => rfl⟩
theorem Same.at {S : Nat → Prop} {a b : World} (h : Same S a b) {k : Nat} {o : Obj} (hk : a.heap[k]? = some o) (hS : ¬ S k) : b.heap[k]? = some o := (h.2.2.2.2 k (Array.getElem?_eq_some_iff.1 hk).1 hS).trans hk
theorem Same.imp {S S' : Nat → Prop} {a b : World} (h : Same S a b) (hi : ∀ k, S k → S' k) : Same S' a b := ⟨h.1, h.2.1, h.2.2.1, h.2.2.2.1, fun k hk hS => h.2.2.2.2 k hk (fun e => hS (hi k e))⟩

/-- the blocks that the shelf writes -/
def Owned (p : Nat) (L : Lay) (k : Nat) : Prop := k = p ∨ k = L.mm ∨ k = L.ml ∨ k ∈ L.inn.map (·.2) ∨ k ∈ L.ms.map (·.blk)
/-- .. and those that it reads beside -/
def Foot (p : Nat) (L : Lay) (k : Nat) : Prop := Owned p L k ∨ ∃ m ∈ L.ms, m.val.ownBlock = some k
/-- a call's work: the shelf is as L' says, all else as it was -/
def Step (B : Nat) (w w' : World) (p : Nat) (L L' : Lay) : Prop := Same (Owned p L) w w' ∧ ShelfIs B w' p L' ∧ (∀ k, Owned p L' k → Owned p L k ∨ w.heap.size ≤ k) ∧ ∀ k, Foot p L' k → Foot p L k ∨ w.heap.size ≤ k
theorem Step.is {B : Nat} {w w' : World} {p : Nat} {L L' : Lay} (h : Step B w w' p L L') : ShelfIs B w' p L' := h.2.1
theorem Step.size {B : Nat} {w w' : World} {p : Nat} {L L' : Lay} (h : Step B w w' p L L') : w.heap.size ≤ w'.heap.size := h.1.2.2.2.1
theorem Step.refl {B : Nat} {w w' : World} {p : Nat} {L : Lay} (h : ShelfIs B w p L) (hb : Below w.heap.size w w') : Step B w w' p L L := ⟨Same.below hb, h.below hb, fun k hk => .inl hk, fun k hk => .inl hk⟩
theorem Step.trans {B : Nat} {a b c : World} {p : Nat} {L L' L'' : Lay} (h : Step B a b p L L') (k : Step B b c p L' L'') : Step B a c p L L'' := by
  refine ⟨⟨k.1.1.trans h.1.1, k.1.2.1.trans h.1.2.1, k.1.2.2.1.trans h.1.2.2.1, Nat.le_trans h.1.2.2.2.1 k.1.2.2.2.1, fun i hi hS => ?_⟩, k.2.1, fun i hi => ?_, fun i hi => ?_⟩
  · refine (k.1.2.2.2.2 i (Nat.lt_of_lt_of_le hi h.1.2.2.2.1) fun e => ?_).trans (h.1.2.2.2.2 i hi hS)
    rcases h.2.2.1 i e with h1 | h1
    · exact hS h1
    · omega
  · rcases k.2.2.1 i hi with h1 | h1
    · exact h.2.2.1 i h1
    · exact .inr (Nat.le_trans h.1.2.2.2.1 h1)
  · rcases k.2.2.2 i hi with h1 | h1
    · exact h.2.2.2 i h1
    · exact .inr (Nat.le_trans h.1.2.2.2.1 h1)
/-- .. and new memory behind it -/
theorem Step.more {B : Nat} {a b c : World} {p : Nat} {L L' : Lay} (h : Step B a b p L L') (hb : Below b.heap.size b c) : Step B a c p L L' := h.trans (Step.refl h.2.1 hb)

set_option maxHeartbeats 1000000 in
theorem wanted_any (p b : Nat) (c5 c4 : Value) (t : Int) (w : World) (h5 : w.cell? ⟨p, 5, none⟩ = some (.int .i64 t)) (f5 : w.frozen? ⟨p, 5, none⟩ = false) (h4 : w.cell? ⟨b, 4, none⟩ = some c4) (f4 : w.frozen? ⟨b, 4, none⟩ = false) (hpb : p ≠ b) (hone : c4.oneCell' = true) :
    Calls Tryz.prog 48 #[.pointer (some ⟨p, 0, none⟩), .pointer (some ⟨b, 0, none⟩)] w fun e w' => e = .returned (.tuple #[]) ∧ w' = (w.setCell ⟨p, 5, none⟩ (.int .i64 (wrap64 (t + 1)))).setCell ⟨b, 4, none⟩ (.int .i64 (wrap64 (t + 1))) := by
  go_enter Tryz.func48, Tryz.ntmps48
  go_wp2
  go_end0
  exact ⟨rfl, rfl⟩

theorem map_far {W W1 : World} {S : Nat → Prop} {k : TypeId} {R : Value → Option (DataW Unit × List MemPlace)} {b n : Nat} {D : DataW Unit} (h : W.ownsMap Tryz.prog k R b n D) (hs : Same S W W1) (hb : ¬ S b) : W1.ownsMap Tryz.prog k R b n D := by
  obtain ⟨es, clock, h1, F, h2, h3⟩ := h
  exact ⟨es, clock, hs.at h1 hb, F, h2, h3⟩
theorem row_far {W W1 : World} {S : Nat → Prop} {B n : Nat} {t : TypeId} {v : Value} {xs : List Value} (h : W.ownsRow B t 1 v n xs) (hs : Same S W W1) (hb : ∀ k, v.ownBlock = some k → ¬ S k) : W1.ownsRow B t 1 v n xs := by
  obtain ⟨h1, h2⟩ := h
  refine ⟨h1, ?_⟩
  rcases h2 with h2 | ⟨g, cap, cur, rfl, e1, e2, e3⟩
  · exact .inl h2
  · exact .inr ⟨g, cap, cur, rfl, e1, hs.at e2 (hb g rfl), e3⟩
theorem row_ty {W : World} {B n : Nat} {t : TypeId} {v : Value} {xs : List Value} (h : W.ownsRow B t 1 v n xs) {k : Nat} (hk : v.ownBlock = some k) : B ≤ k ∧ ∃ cur, W.heap[k]? = some (.cells cur t (0, 0)) := by
  rcases h.2 with ⟨rfl, _⟩ | ⟨g, cap, cur, rfl, hB, h2, _⟩
  · cases hk
  · obtain rfl := Option.some.inj hk
    exact ⟨hB, cur, h2⟩
theorem obj_ne {W : World} {k k' : Nat} {o o' : Obj} (h : W.heap[k]? = some o) (h' : W.heap[k']? = some o') (hne : o ≠ o') : k ≠ k' := by
  rintro rfl
  rw [h] at h'
  exact hne (Option.some.inj h')
theorem ShelfIs.map_block {B p : Nat} {W : World} {L : Lay} (h : ShelfIs B W p L) {k n : Nat} {t : TypeId} {R : Value → Option (DataW Unit × List MemPlace)} {D : DataW Unit} (hk : W.ownsMap Tryz.prog t R k n D) : k ≠ p ∧ k ∉ L.ms.map (·.blk) := by
  obtain ⟨es, clock, h1, _⟩ := hk
  obtain ⟨sem, h2⟩ := h.blk
  refine ⟨obj_ne h1 h2 (by simp), fun hm => ?_⟩
  obtain ⟨m, hmm, e⟩ := List.mem_map.1 hm
  exact obj_ne h1 (h.mods m hmm).1 (by simp) e.symm
theorem innerF_map {ms : List LM} {f : LM → LM} (hf : ∀ m ∈ ms, (f m).name = m.name ∧ (f m).ver = m.ver ∧ (f m).blk = m.blk) (nm : ByteArray) (k : Lit) : innerF (ms.map f) nm k = innerF ms nm k := by
  cases k <;> try rfl
  rename_i q v
  cases q <;> try rfl
  simp only [innerF]
  induction ms with
  | nil => rfl
  | cons m ms ih =>
    obtain ⟨h1, h2, h3⟩ := hf m List.mem_cons_self
    simp only [List.map_cons, List.find?_cons, h1, h2]
    split
    · simp [h3]
    · exact ih (fun m hm => hf m (List.mem_cons_of_mem _ hm))

theorem ShelfIs.model_block {B p : Nat} {W : World} {L : Lay} (h : ShelfIs B W p L) {m : LM} (hm : m ∈ L.ms) : m.blk ≠ p := by
  obtain ⟨sem, h2⟩ := h.blk
  exact obj_ne (h.mods m hm).1 h2 (by simp)
theorem ShelfIs.val_block {B p : Nat} {W : World} {L : Lay} (h : ShelfIs B W p L) {m : LM} (hm : m ∈ L.ms) {k : Nat} (hk : m.val.ownBlock = some k) : B ≤ k ∧ ¬ Owned p L k := by
  obtain ⟨hB, cur, hc⟩ := row_ty (h.mods m hm).2 hk
  obtain ⟨sem, hp⟩ := h.blk
  obtain ⟨n1, D1, _, ⟨es1, c1, o1, _⟩, _⟩ := h.outer
  obtain ⟨n2, D2, _, ⟨es2, c2, o2, _⟩, _⟩ := h.names
  refine ⟨hB, ?_⟩
  rintro (rfl | rfl | rfl | e | e)
  · exact obj_ne hc hp (by simp) rfl
  · exact obj_ne hc o1 (by simp) rfl
  · exact obj_ne hc o2 (by simp) rfl
  · obtain ⟨x, hx, rfl⟩ := List.mem_map.1 e
    obtain ⟨n, D, _, ⟨es3, c3, o3, _⟩, _⟩ := h.inner x hx
    exact obj_ne hc o3 (by simp) rfl
  · obtain ⟨m2, hm2, rfl⟩ := List.mem_map.1 e
    exact obj_ne hc (h.mods m2 hm2).1 (by simp) rfl
/-- what is far from it changes nothing -/
theorem ShelfIs.aside {B p : Nat} {W W1 : World} {L : Lay} {S : Nat → Prop} (h : ShelfIs B W p L) (hs : Same S W W1) (hf : ∀ k, Foot p L k → ¬ S k) : ShelfIs B W1 p L := by
  obtain ⟨sem, h1⟩ := h.blk
  obtain ⟨n1, D1, a1, a2, a3⟩ := h.outer
  obtain ⟨n2, D2, b1, b2, b3⟩ := h.names
  exact { h with
    blk := ⟨sem, hs.at h1 (hf _ (.inl (.inl rfl)))⟩
    outer := ⟨n1, D1, a1, map_far a2 hs (hf _ (.inl (.inr (.inl rfl)))), a3⟩
    names := ⟨n2, D2, b1, map_far b2 hs (hf _ (.inl (.inr (.inr (.inl rfl))))), b3⟩
    inner := fun x hx => by obtain ⟨n, D, c1, c2, c3⟩ := h.inner x hx; exact ⟨n, D, c1, map_far c2 hs (hf _ (.inl (.inr (.inr (.inr (.inl (List.mem_map_of_mem hx))))))), c3⟩
    mods := fun m hm => by
      obtain ⟨c1, c2⟩ := h.mods m hm
      exact ⟨hs.at c1 (hf _ (.inl (.inr (.inr (.inr (.inr (List.mem_map_of_mem hm))))))), row_far c2 hs fun k hk => hf k (.inr ⟨m, hm, hk⟩)⟩ }

/-- the shelf's own cells turn -/
theorem ShelfIs.own {B p : Nat} {W W1 : World} {L : Lay} (h : ShelfIs B W p L) (lk bytes count touch : Int)
    (hp : ∃ sem, W1.heap[p]? = some (.cells #[.int .i32 lk, sem, .int .i64 L.room, .int .i64 bytes, .int .i64 count, .int .i64 touch, .map (some L.mm), .map (some L.ml)] 88 (0, 0)))
    (hs : Same (fun k => k = p) W W1) : Step B W W1 p L { L with lk := lk, bytes := bytes, count := count, touch := touch } := by
  obtain ⟨n1, D1, a1, a2, a3⟩ := h.outer
  obtain ⟨n2, D2, b1, b2, b3⟩ := h.names
  refine ⟨hs.imp fun k e => .inl e, { h with
    blk := hp
    outer := ⟨n1, D1, a1, map_far a2 hs (h.map_block a2).1, a3⟩
    names := ⟨n2, D2, b1, map_far b2 hs (h.map_block b2).1, b3⟩
    inner := fun x hx => by obtain ⟨n, D, c1, c2, c3⟩ := h.inner x hx; exact ⟨n, D, c1, map_far c2 hs (h.map_block c2).1, c3⟩
    mods := fun m hm => by
      obtain ⟨c1, c2⟩ := h.mods m hm
      exact ⟨hs.at c1 (h.model_block hm), row_far c2 hs fun k hk e => (h.val_block hm hk).2 (.inl e)⟩ }, fun k hk => .inl hk, fun k hk => .inl hk⟩
theorem heap_set {W : World} {p n : Nat} {cur : Array Value} {t : TypeId} (h : W.heap[p]? = some (.cells cur t (0, 0))) (v : Value) : (W.setCell ⟨p, n, none⟩ v).heap[p]? = some (.cells (cur.setIfInBounds n v) t (0, 0)) := by
  simp [World.setCell, Array.getElem?_modify, h]
theorem ShelfIs.setBytes {B p : Nat} {W : World} {L : Lay} (h : ShelfIs B W p L) (x : Int) : Step B W (W.setCell ⟨p, 3, none⟩ (.int .i64 x)) p L { L with bytes := x } := by
  obtain ⟨sem, h1⟩ := h.blk
  exact h.own L.lk x L.count L.touch ⟨sem, by rw [heap_set h1]; rfl⟩ (Same.set _ _ _ rfl)
theorem ShelfIs.setCount {B p : Nat} {W : World} {L : Lay} (h : ShelfIs B W p L) (x : Int) : Step B W (W.setCell ⟨p, 4, none⟩ (.int .i64 x)) p L { L with count := x } := by
  obtain ⟨sem, h1⟩ := h.blk
  exact h.own L.lk L.bytes x L.touch ⟨sem, by rw [heap_set h1]; rfl⟩ (Same.set _ _ _ rfl)
theorem ShelfIs.setTouch {B p : Nat} {W : World} {L : Lay} (h : ShelfIs B W p L) (x : Int) : Step B W (W.setCell ⟨p, 5, none⟩ (.int .i64 x)) p L { L with touch := x } := by
  obtain ⟨sem, h1⟩ := h.blk
  exact h.own L.lk L.bytes L.count x ⟨sem, by rw [heap_set h1]; rfl⟩ (Same.set _ _ _ rfl)
theorem ShelfIs.setLock {B p : Nat} {W : World} {L : Lay} (h : ShelfIs B W p L) (x : Int) : Step B W (W.setCell ⟨p, 0, none⟩ (.int .i32 x)) p L { L with lk := x } := by
  obtain ⟨sem, h1⟩ := h.blk
  exact h.own x L.bytes L.count L.touch ⟨sem, by rw [heap_set h1]; rfl⟩ (Same.set _ _ _ rfl)

/-- one model's use and touch turn -/
theorem ShelfIs.mod {B p : Nat} {W W1 : World} {L : Lay} (h : ShelfIs B W p L) (f : LM → LM) (hf : ∀ m ∈ L.ms, (f m).name = m.name ∧ (f m).ver = m.ver ∧ (f m).blk = m.blk ∧ (f m).val = m.val ∧ (f m).dat = m.dat)
    (hm : ∀ m ∈ L.ms, W1.heap[m.blk]? = some (.cells #[.string m.name, .int .i64 m.ver, m.val, .int .i64 (f m).used, .int .i64 (f m).touched] 93 (0, 0)))
    (hs : Same (fun k => k ∈ L.ms.map (·.blk)) W W1) : Step B W W1 p L { L with ms := L.ms.map f } := by
  have hbl : (L.ms.map f).map (·.blk) = L.ms.map (·.blk) := by
    rw [List.map_map]
    exact List.map_congr_left fun m hm => (hf m hm).2.2.1
  obtain ⟨sem, hp⟩ := h.blk
  obtain ⟨n1, D1, a1, a2, a3⟩ := h.outer
  obtain ⟨n2, D2, b1, b2, b3⟩ := h.names
  have hpm : p ∉ L.ms.map (·.blk) := fun e => by
    obtain ⟨m, hm, e⟩ := List.mem_map.1 e
    exact h.model_block hm e
  have ho : ∀ k, Owned p { L with ms := L.ms.map f } k → Owned p L k := fun k hk => by
    simp only [Owned] at hk ⊢
    rw [hbl] at hk
    exact hk
  refine ⟨hs.imp fun k e => .inr (.inr (.inr (.inr e))), ⟨⟨sem, hs.at hp hpm⟩, ⟨n1, D1, a1, map_far a2 hs (h.map_block a2).2, a3⟩, ⟨n2, D2, b1, map_far b2 hs (h.map_block b2).2, b3⟩, fun x hx => ?_, fun m' hm' => ?_, ⟨h.low.1, h.low.2.1, h.low.2.2.1, h.low.2.2.2.1, fun m' hm' => ?_⟩, h.innNames, h.innBlks, h.far, ?_, by rw [hbl]; exact h.blks, fun m' hm' => ?_, h.lastNames, by rw [List.length_map]; exact h.few⟩, fun k hk => .inl (ho k hk), fun k hk => .inl ?_⟩
  · obtain ⟨n, D, c1, c2, c3⟩ := h.inner x hx
    exact ⟨n, D, c1, map_far c2 hs (h.map_block c2).2, c3.congr fun k => (innerF_map (fun m hm => ⟨(hf m hm).1, (hf m hm).2.1, (hf m hm).2.2.1⟩) x.1 k).symm⟩
  · obtain ⟨m, hmm, rfl⟩ := List.mem_map.1 hm'
    obtain ⟨e1, e2, e3, e4, e5⟩ := hf m hmm
    refine ⟨by rw [e1, e2, e3, e4]; exact hm m hmm, ?_⟩
    rw [e4, e5]
    exact row_far (h.mods m hmm).2 hs fun k hk e => (h.val_block hmm hk).2 (.inr (.inr (.inr (.inr e))))
  · obtain ⟨m, hmm, rfl⟩ := List.mem_map.1 hm'
    rw [(hf m hmm).2.2.1]
    exact h.low.2.2.2.2 m hmm
  · have e : (L.ms.map f).map (fun m => (m.name, m.ver)) = L.ms.map fun m => (m.name, m.ver) := by
      rw [List.map_map]
      exact List.map_congr_left fun m hm => by simp [(hf m hm).1, (hf m hm).2.1]
    show ((L.ms.map f).map fun m => (m.name, m.ver)).Nodup
    rw [e]
    exact h.keys
  · obtain ⟨m, hmm, rfl⟩ := List.mem_map.1 hm'
    rw [(hf m hmm).1]
    exact h.homed m hmm
  · rcases hk with hk | ⟨m', hm', e⟩
    · exact .inl (ho k hk)
    · obtain ⟨m, hmm, rfl⟩ := List.mem_map.1 hm'
      rw [(hf m hmm).2.2.2.1] at e
      exact .inr ⟨m, hmm, e⟩
def setUsed (b : Nat) (u : Int) (x : LM) : LM := if x.blk = b then { x with used := u } else x
def setTouched (b : Nat) (u : Int) (x : LM) : LM := if x.blk = b then { x with touched := u } else x
theorem ShelfIs.putUsed {B p : Nat} {W : World} {L : Lay} (h : ShelfIs B W p L) {m : LM} (hm : m ∈ L.ms) (u : Int) : Step B W (W.setCell ⟨m.blk, 3, none⟩ (.int .i64 u)) p L { L with ms := L.ms.map (setUsed m.blk u) } := by
  refine h.mod (setUsed m.blk u) (fun x _ => by unfold setUsed; split <;> simp) (fun x hx => ?_) (Same.set _ _ _ (List.mem_map_of_mem hm))
  by_cases e : x.blk = m.blk
  · rw [e, heap_set (e ▸ (h.mods x hx).1)]
    simp [setUsed, e]
  · rw [Below.heap_setCell _ _ _ _ e]
    simpa [setUsed, e] using (h.mods x hx).1
theorem ShelfIs.putTouched {B p : Nat} {W : World} {L : Lay} (h : ShelfIs B W p L) {m : LM} (hm : m ∈ L.ms) (u : Int) : Step B W (W.setCell ⟨m.blk, 4, none⟩ (.int .i64 u)) p L { L with ms := L.ms.map (setTouched m.blk u) } := by
  refine h.mod (setTouched m.blk u) (fun x _ => by unfold setTouched; split <;> simp) (fun x hx => ?_) (Same.set _ _ _ (List.mem_map_of_mem hm))
  by_cases e : x.blk = m.blk
  · rw [e, heap_set (e ▸ (h.mods x hx).1)]
    simp [setTouched, e]
  · rw [Below.heap_setCell _ _ _ _ e]
    simpa [setTouched, e] using (h.mods x hx).1
end Go.Proofs.YtancenklmfamnaaGreat.Sh
