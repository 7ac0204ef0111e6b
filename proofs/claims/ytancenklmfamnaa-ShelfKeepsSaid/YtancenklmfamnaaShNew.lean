/- New. List's comparison. List: the order, the sort of the row. -/
import Derived.Test.YtancenklmfamnaaShLayM
import Derived.Test.YtancenklmfamnaaPShelfKeepsx0
set_option linter.unusedVariables false
set_option linter.unusedSimpArgs false
namespace Go.Proofs.Ytancenklmfamnaa.Sh
open Go.RowKit Go.Maps Go.Sort Go.Shelf
open Go.Proofs Go.MuLone

def Lay.start (room : Int) (mm ml : Nat) : Lay := ⟨0, room, 0, 0, 0, mm, ml, [], [], []⟩
set_option maxHeartbeats 4000000 in
theorem new_bad (n : Int) (w : World) (h : n < 1 ∨ 1099511627776 < n) : Calls Try.prog 7 #[.int .i64 n] w fun e w' => e = .returned (.tuple #[.pointer none, .int .i64 1]) ∧ w' = w := by
  rcases (show n < 1 ∨ (1 ≤ n ∧ 1099511627776 < n) by omega) with h | ⟨h1, h2⟩
  · have hd : decide (n < 1) = true := by simpa using h
    go_enter Try.func7, Try.ntmps7
    go_wp2
    go_ret2
    exact ⟨rfl, rfl⟩
  · have hd : decide (n < 1) = false := by simp; omega
    have hd2 : decide (1099511627776 < n) = true := by simpa using h2
    go_enter Try.func7, Try.ntmps7
    go_wp2
    go_ret2
    exact ⟨rfl, rfl⟩
theorem owns_none {W : World} {k : TypeId} {R : Value → Option (DataW Unit × List MemPlace)} {ib : Nat} (h : W.heap[ib]? = some (.map #[] 0)) : W.ownsMap Try.prog k R ib 0 (.map []) := by
  obtain ⟨es, clock, hb, F, hs, hD⟩ := World.ownsMap_made W Try.prog k R
  rw [World.alloc_heap_new] at hb
  cases hb
  exact ⟨#[], 0, h, F, hs, hD⟩
theorem alloc_old {w : World} {o : Obj} {k : Nat} (h : k < w.heap.size) : (w.alloc o).heap[k]? = w.heap[k]? := ((Below.refl w.heap.size w).alloc (Nat.le_refl _) o).block k h
theorem start_is (w : World) (n : Int) (W : World) (mm : Nat) (hb : W.heap.size = W.heap.size) (h1 : W.heap[w.heap.size]? = some (.map #[] 0)) (h2 : W.heap[w.heap.size + 1]? = some (.map #[] 0))
    (h3 : ∃ sem, W.heap[w.heap.size + 1 + 1]? = some (.cells #[.int .i32 0, sem, .int .i64 n, .int .i64 0, .int .i64 0, .int .i64 0, .map (some w.heap.size), .map (some (w.heap.size + 1))] 70 (0, 0))) :
    ShelfIs w.heap.size W (w.heap.size + 1 + 1) (Lay.start n w.heap.size (w.heap.size + 1)) := by
  refine ⟨h3, ⟨0, .map [], by omega, owns_none h1, View.empty.congr fun k => ?_⟩, ⟨0, .map [], by omega, owns_none h2, View.empty.congr fun k => ?_⟩, fun x hx => (by cases hx), fun m hm => (by cases hm), ⟨by omega, Nat.le_refl _, by show _ ≤ w.heap.size + 1; omega, fun x hx => (by cases hx), fun m hm => (by cases hm)⟩, List.nodup_nil, List.nodup_nil, ⟨by show w.heap.size ≠ w.heap.size + 1; omega, fun x hx => (by cases hx)⟩, List.nodup_nil, List.nodup_nil, fun m hm => (by cases hm), List.nodup_nil, by simp [Lay.start]⟩
  · cases k <;> rfl
  · cases k <;> rfl
theorem start_good {n : Int} {a b : Nat} (h1 : 1 ≤ n) (h2 : n ≤ 1099511627776) : Good (Lay.start n a b) :=
  ⟨⟨h1, h2⟩, rfl, rfl, by show (0 : Int) ≤ n; omega, by show (0 : Int) ≤ 0; omega, fun m hm => (by cases hm), List.nodup_nil, fun m hm => (by cases hm), fun m hm => (by cases hm), fun m hm => (by cases hm), fun x hx => (by cases hx), fun x hx => (by cases hx), by simp [Lay.start], fun m hm => (by cases hm)⟩
set_option maxHeartbeats 4000000 in
theorem new_any (n : Int) (w : World) (h1 : 1 ≤ n) (h2 : n ≤ 1099511627776) : Calls Try.prog 7 #[.int .i64 n] w fun e w' => ∃ p mm ml, e = .returned (.tuple #[.pointer (some ⟨p, 0, none⟩), .int .i64 0]) ∧ Below w.heap.size w w' ∧ ShelfIs w.heap.size w' p (Lay.start n mm ml) := by
  have hd : decide (n < 1) = false := by simp; omega
  have hd2 : decide (1099511627776 < n) = false := by simp; omega
  have hmk := @run_makeMap Try.prog
  go_enter Try.func7, Try.ntmps7
  go_wp2_with fail
  go_ret2
  have z2 : ((w.alloc (.map #[] 0)).alloc (.map #[] 0)).heap.size = w.heap.size + 1 + 1 := by simp
  refine ⟨w.heap.size + 1 + 1, w.heap.size, w.heap.size + 1, rfl, (((Below.refl _ w).alloc (Nat.le_refl _) _).alloc (by simp) _).alloc (by simp; omega) _, start_is w n _ 0 rfl ?_ ?_ ⟨.int .u32 0, ?_⟩⟩
  · rw [alloc_old (by simp; omega), alloc_old (by simp)]
    exact World.alloc_heap_new w _
  · rw [alloc_old (by simp)]
    have := World.alloc_heap_new (w.alloc (.map #[] 0)) (.map #[] 0)
    simpa using this
  · have := World.alloc_heap_new ((w.alloc (.map #[] 0)).alloc (.map #[] 0)) (.cells #[.int .i32 0, .int .u32 0, .int .i64 n, .int .i64 0, .int .i64 0, .int .i64 0, .map (some w.heap.size), .map (some (w.heap.size + 1))] 70)
    rw [z2] at this
    exact this
end Go.Proofs.Ytancenklmfamnaa.Sh
namespace Go.Proofs.Ytancenklmfamnaa.Sh
open Go.RowKit Go.Maps Go.Sort Go.Shelf
open Go.Proofs Go.MuLone

def orI (x y : Int) : Int := if x = 0 then y else x
set_option maxHeartbeats 4000000 in
set_option maxRecDepth 100000 in
theorem or_any (b : Nat) (x y : Int) (c : Nat) (w : World) (h0 : w.cell? ⟨b, 0, none⟩ = some (.int .i64 x)) (h1 : w.cell? ⟨b, 1, none⟩ = some (.int .i64 y)) :
    Calls Try.prog 29 #[.slice (some ⟨b, 0, none⟩) 2 c] w fun e w' => e = .returned (.int .i64 (orI x y)) ∧ w' = w := by
  by_cases hx : x = 0
  · have hxb : (x == 0) = true := by simp [hx]
    have hxn : (x != 0) = false := by simp [hx]
    rw [show orI x y = y from if_pos hx]
    clear hx
    by_cases hy : y = 0
    · have hyb : (y == 0) = true := by simp [hy]
      have hyn : (y != 0) = false := by simp [hy]
      have HY := Lib.hid hy
      clear hy
      go_enter Try.func29, Try.ntmps29
      go_wp2
      go_loop [8] (fun v8 => v8 = .int .i64 0 ∨ v8 = .int .i64 1 ∨ v8 = .int .i64 2) (fun v8 => 2 - (intOf v8).toNat)
      case atStart => exact .inl rfl
      case round =>
        rcases hrel with rfl | rfl | rfl
        · go_wp2
          go_round
          case rel => exact .inr (.inl rfl)
          case measure => simp [intOf]
        · go_wp2
          go_round
          case rel => exact .inr (.inr rfl)
          case measure => simp [intOf]
        · go_wp2
          go_ret
          exact ⟨by rw [HY.out]; rfl, rfl⟩
    · have hyb : (y == 0) = false := by simp [hy]
      have hyn : (y != 0) = true := by simp [hy]
      clear hy
      go_enter Try.func29, Try.ntmps29
      go_wp2
      go_loop [8] (fun v8 => v8 = .int .i64 0 ∨ v8 = .int .i64 1) (fun v8 => 2 - (intOf v8).toNat)
      case atStart => exact .inl rfl
      case round =>
        rcases hrel with rfl | rfl
        · go_wp2
          go_round
          case rel => exact .inr rfl
          case measure => simp [intOf]
        · go_wp2
          go_ret
          exact ⟨rfl, rfl⟩
  · have hxb : (x == 0) = false := by simp [hx]
    have hxn : (x != 0) = true := by simp [hx]
    rw [show orI x y = x from if_neg hx]
    clear hx
    go_enter Try.func29, Try.ntmps29
    go_wp2
    go_loop [8] (fun v8 => v8 = .int .i64 0) (fun v8 => 2 - (intOf v8).toNat)
    case atStart => rfl
    case round =>
      subst hrel
      go_wp2
      go_ret
      exact ⟨rfl, rfl⟩

/-- by name and version -/
def cmpH (n1 : ByteArray) (v1 : Int) (n2 : ByteArray) (v2 : Int) : Int := orI (Lib.compareBytes n1.data.toList n2.data.toList) (Lib.compareInt v1 v2)
set_option maxHeartbeats 4000000 in
set_option maxRecDepth 100000 in
theorem cmp28 (n1 n2 : ByteArray) (v1 v2 a1 a2 b1 b2 : Int) (w : World) :
    Calls Try.prog 28 #[.agg #[.string n1, .int .i64 v1, .int .i64 a1, .int .i64 b1], .agg #[.string n2, .int .i64 v2, .int .i64 a2, .int .i64 b2]] w fun e w' => e = .returned (.int .i64 (cmpH n1 v1 n2 v2)) ∧ ∃ q os', w' = grow (w.drewN q) os' := by
  go_enter Try.func28, Try.ntmps28
  have mixed : Try.prog.follows Departure.mixedOrders = true := by kernel_rfl
  have hw1 : ∃ w1, w1 = (w.alloc (.cells #[.string n1, .int .i64 v1, .int .i64 a1, .int .i64 b1] 39)).alloc (.cells #[.string n2, .int .i64 v2, .int .i64 a2, .int .i64 b2] 39) := ⟨_, rfl⟩
  obtain ⟨w1, hw1⟩ := hw1
  have k1 : w1.heap[w.heap.size]? = some (.cells #[.string n1, .int .i64 v1, .int .i64 a1, .int .i64 b1] 39 (0, 0)) := by
    rw [hw1, alloc_old (by simp)]
    exact World.alloc_heap_new w _
  have k2 : w1.heap[w.heap.size + 1]? = some (.cells #[.string n2, .int .i64 v2, .int .i64 a2, .int .i64 b2] 39 (0, 0)) := by
    have := World.alloc_heap_new (w.alloc (.cells #[.string n1, .int .i64 v1, .int .i64 a1, .int .i64 b1] 39)) (.cells #[.string n2, .int .i64 v2, .int .i64 a2, .int .i64 b2] 39)
    rw [hw1]
    simpa using this
  have q1 : w1.cell? ⟨w.heap.size, 0, none⟩ = some (.string n1) := by rw [Lib.cell_of_heap k1]; rfl
  have q2 : w1.cell? ⟨w.heap.size, 1, none⟩ = some (.int .i64 v1) := by rw [Lib.cell_of_heap k1]; rfl
  have q3 : w1.cell? ⟨w.heap.size + 1, 0, none⟩ = some (.string n2) := by rw [Lib.cell_of_heap k2]; rfl
  have q4 : w1.cell? ⟨w.heap.size + 1, 1, none⟩ = some (.int .i64 v2) := by rw [Lib.cell_of_heap k2]; rfl
  have HW1 := Lib.hid hw1
  have hsz : w.heap.size + 1 < w1.heap.size := (Array.getElem?_eq_some_iff.1 k2).1
  clear k1 k2
  go_wp2_with fail
  rw [← hw1]
  clear hw1
  refine wp_region_still_tail 10 (by kernel_rfl) (by kernel_rfl) ?_
  simp only [List.take_succ_cons, List.take_zero, List.drop_succ_cons, List.drop_zero]
  still_step
  still_step
  still_step
  still_step
  still_call (Try.strings_Compare _ _ _)
  still_step
  still_step
  still_step
  still_step
  still_call (AnyG.cmp_Compare_int Try.cmpI _ _ _)
  refine wpStill_nil ?_
  go_wp2_with fail
  have c0 : (w1.alloc (.cells #[.int .i64 (Lib.compareBytes n1.data.toList n2.data.toList), .int .i64 (Lib.compareInt v1 v2)] 3)).cell? ⟨w1.heap.size, 0, none⟩ = some (.int .i64 (Lib.compareBytes n1.data.toList n2.data.toList)) := by rw [Lib.cell_of_heap (World.alloc_heap_new w1 _)]; rfl
  have c1 : (w1.alloc (.cells #[.int .i64 (Lib.compareBytes n1.data.toList n2.data.toList), .int .i64 (Lib.compareInt v1 v2)] 3)).cell? ⟨w1.heap.size, 1, none⟩ = some (.int .i64 (Lib.compareInt v1 v2)) := by rw [Lib.cell_of_heap (World.alloc_heap_new w1 _)]; rfl
  refine (or_any w1.heap.size (Lib.compareBytes n1.data.toList n2.data.toList) (Lib.compareInt v1 v2) 2 _ (by exact c0) (by exact c1)).mono ?_
  rintro e w3 ⟨rfl, rfl⟩
  clear c0 c1
  go_wp2
  go_ret
  refine ⟨rfl, 1, #[.cells #[.string n1, .int .i64 v1, .int .i64 a1, .int .i64 b1] 39 (0, 0), .cells #[.string n2, .int .i64 v2, .int .i64 a2, .int .i64 b2] 39 (0, 0), .cells #[.int .i64 (Lib.compareBytes n1.data.toList n2.data.toList), .int .i64 (Lib.compareInt v1 v2)] 3 (0, 0)], ?_⟩
  rw [HW1.out, alloc_eq_grow, alloc_eq_grow, alloc_eq_grow, grow_grow, grow_grow, drew_grow]
  rfl
end Go.Proofs.Ytancenklmfamnaa.Sh
namespace Go.Proofs.Ytancenklmfamnaa.Sh
open Go.RowKit Go.Maps Go.Sort Go.Shelf
open Go.Proofs Go.MuLone
open Go.Proofs.YtancenklmfamnaaW.PrintWords (Reps OwnRow)
open Go.Proofs.Ytancenklmfamnaa.PShelfKeeps (S39 k39)

theorem cb_zero : ∀ (a b : List UInt8), Lib.compareBytes a b = 0 ↔ a = b
  | [], [] => by simp [Lib.compareBytes]
  | [], _ :: _ => by simp [Lib.compareBytes]
  | _ :: _, [] => by simp [Lib.compareBytes]
  | a :: ra, b :: rb => by
    simp only [Lib.compareBytes]
    split
    · rename_i h
      have : a ≠ b := fun e => by subst e; exact UInt8.lt_irrefl _ h
      simp [this]
    · split
      · rename_i h
        have : a ≠ b := fun e => by subst e; exact UInt8.lt_irrefl _ h
        simp [this]
      · rename_i h1 h2
        have : a = b := by
          rw [UInt8.lt_iff_toNat_lt] at h1 h2
          exact UInt8.toNat_inj.1 (by omega)
        rw [cb_zero ra rb, this]
        simp
theorem cb_lt : ∀ (a b : List UInt8), Lib.compareBytes a b < 0 ↔ a < b
  | [], [] => by simp [Lib.compareBytes]
  | [], _ :: _ => by simp [Lib.compareBytes]
  | _ :: _, [] => by simp [Lib.compareBytes]
  | a :: ra, b :: rb => by
    simp only [Lib.compareBytes, List.cons_lt_cons_iff]
    split
    · rename_i h
      simp [h]
    · split
      · rename_i h1 h2
        have : a ≠ b := fun e => by subst e; exact h1 h2
        simp [h1, this]
      · rename_i h1 h2
        have : a = b := by
          rw [UInt8.lt_iff_toNat_lt] at h1 h2
          exact UInt8.toNat_inj.1 (by omega)
        rw [cb_lt ra rb, this]
        simp [UInt8.lt_irrefl]

/-- by name and version -/
def ltN (a b : LM) : Prop := a.name.data.toList < b.name.data.toList ∨ (a.name = b.name ∧ a.ver < b.ver)
instance (a b : LM) : Decidable (ltN a b) := by unfold ltN; exact inferInstance
def cfH {L : Lay} (x y : El L) : Int := cmpH x.1.name x.1.ver y.1.name y.1.ver
theorem cmpH_lt (a b : LM) : cmpH a.name a.ver b.name b.ver < 0 ↔ ltN a b := by
  unfold cmpH orI ltN
  split
  · rename_i h
    have h1 := (cb_zero _ _).1 h
    have h2 : a.name = b.name := toList_inj h1
    have h3 : ¬ a.name.data.toList < b.name.data.toList := by rw [h1]; exact List.lt_irrefl _
    have h4 : Lib.compareInt a.ver b.ver < 0 ↔ a.ver < b.ver := by
      unfold Lib.compareInt
      split
      · simp; omega
      · split <;> simp <;> omega
    simp [h2, h4, List.lt_irrefl]
  · rename_i h
    have h1 : a.name ≠ b.name := fun e => h ((cb_zero _ _).2 (by rw [e]))
    simp [cb_lt, h1]
theorem ltH {L : Lay} (x y : El L) : ltOf cfH x y = decide (ltN x.1 y.1) := by
  unfold ltOf cfH
  simp [cmpH_lt]
theorem ltN_irrefl (a : LM) : ¬ ltN a a := by
  rintro (h | ⟨_, h⟩)
  · exact List.lt_irrefl _ h
  · omega
theorem ltN_trans {a b c : LM} (h1 : ltN a b) (h2 : ltN b c) : ltN a c := by
  rcases h1 with h1 | ⟨e1, h1⟩ <;> rcases h2 with h2 | ⟨e2, h2⟩
  · exact .inl (List.lt_trans h1 h2)
  · exact .inl (e2 ▸ h1)
  · exact .inl (e1 ▸ h2)
  · exact .inr ⟨e1.trans e2, by omega⟩
theorem list_tri (a b : List UInt8) : a < b ∨ a = b ∨ b < a := by
  by_cases h : a < b
  · exact .inl h
  · by_cases h2 : b < a
    · exact .inr (.inr h2)
    · exact .inr (.inl (List.le_antisymm (List.not_lt.1 h2) (List.not_lt.1 h)))
theorem ltN_total (a b : LM) : ltN a b ∨ ltN b a ∨ (a.name = b.name ∧ a.ver = b.ver) := by
  rcases list_tri a.name.data.toList b.name.data.toList with h | h | h
  · exact .inl (.inl h)
  · have e : a.name = b.name := toList_inj h
    rcases (show a.ver < b.ver ∨ a.ver = b.ver ∨ b.ver < a.ver by omega) with h2 | h2 | h2
    · exact .inl (.inr ⟨e, h2⟩)
    · exact .inr (.inr ⟨e, h2⟩)
    · exact .inr (.inl (.inr ⟨e.symm, h2⟩))
  · exact .inr (.inl (.inl h))
theorem swoH {L : Lay} : SWO (ltOf (cfH (L := L))) where
  irrefl x := by rw [ltH]; simpa using ltN_irrefl x.1
  trans x y z h1 h2 := by
    rw [ltH] at *
    simp at *
    exact ltN_trans h1 h2
  ntrans x y z h1 h2 := by
    rw [ltH] at *
    simp at *
    intro h3
    rcases ltN_total x.1 y.1 with h | h | ⟨h, h'⟩
    · exact h1 h
    · exact h2 (ltN_trans h h3)
    · apply h2
      rcases h3 with h3 | ⟨e, h3⟩
      · exact .inl (h ▸ h3)
      · exact .inr ⟨h ▸ e, h' ▸ h3⟩

abbrev encH {L : Lay} (m : El L) : List Value := [.string m.1.name, .int .i64 m.1.ver, .int .i64 m.1.dat.length, .int .i64 m.1.used]
def byName {L : Lay} (d : List (El L)) : List (El L) := d.mergeSort fun x y => !ltOf cfH y x
def RH {L : Lay} (m : El L) (c : List Value) : Prop := c = encH m
theorem reps_cell {L : Lay} {ps : List (El L)} {cs : List Value} (h : Reps RH 4 ps cs) {j c : Nat} {m : El L} (hj : ps[j]? = some m) (hc : c < 4) : cs[j * 4 + c]? = (encH m)[c]? := by
  have h1 : (cs.drop (j * 4)).take 4 = encH m := h.2 j m hj
  have h2 : ((cs.drop (j * 4)).take 4)[c]? = cs[j * 4 + c]? := by
    rw [List.getElem?_take_of_lt hc, List.getElem?_drop]
  rw [← h2, h1]
theorem reps_flat {L : Lay} [Inhabited (El L)] (ps : List (El L)) : Reps RH 4 ps (flatK encH 4 ps.toArray).toList := by
  refine ⟨by simp, fun j m hj => ?_⟩
  have hjl := (List.getElem?_eq_some_iff.1 hj).1
  show _ = encH m
  refine List.ext_getElem? fun c => ?_
  by_cases hc : c < 4
  · rw [List.getElem?_take_of_lt hc, List.getElem?_drop]
    have hlt : j * 4 + c < ps.toArray.size * 4 := by simp; omega
    have h1 := get_flatK encH 4 ps.toArray (j * 4 + c) hlt
    rw [show (j * 4 + c) / 4 = j by omega, show (j * 4 + c) % 4 = c by omega] at h1
    have h2 : j * 4 + c < (flatK encH 4 ps.toArray).size := by simpa using hlt
    rw [Array.getElem?_toList, Array.getElem?_eq_getElem h2, ← getElem!_pos (flatK encH 4 ps.toArray) (j * 4 + c) h2, h1]
    have h3 : (ps.toArray[j]! : El L) = m := by
      rw [getElem!_pos ps.toArray j (by simpa using hjl)]
      simp
      have := (List.getElem?_eq_some_iff.1 hj).2
      exact this
    rw [h3, getElem!_pos (encH m) c (by simpa using hc), List.getElem?_eq_getElem (by simpa using hc)]
  · rw [List.getElem?_eq_none (by simp; omega), List.getElem?_eq_none (by simp; omega)]

theorem sortH_row {L : Lay} (hk : (L.ms.map fun m => (m.name, m.ver)).Nodup) (W : World) (base : Nat) (d : List (El L)) (g cap : Nat) (hne : d ≠ []) (hlen : d.length ≤ 256)
    (hown : OwnRow RH 39 4 W base (.slice (some ⟨g, 0, none⟩) d.length cap) d) :
    Calls Try.prog 27 #[.slice (some ⟨g, 0, none⟩) d.length cap, .func (.func 28) #[] #[]] W fun e w' => e = .returned (.tuple #[]) ∧ Same (fun k => k = g) W w' ∧ OwnRow RH 39 4 w' base (.slice (some ⟨g, 0, none⟩) (byName d).length cap) (byName d) := by
  haveI : Inhabited (El L) := ⟨d.head hne⟩
  obtain ⟨inner, ⟨hl, hc⟩, hr⟩ := hown
  rcases hc with ⟨h0, _⟩ | ⟨g', cap', cur, he, hg, hcur, hcap, hcm, hsz, hcells⟩
  · cases h0
  simp at he
  obtain ⟨rfl, rfl⟩ := he
  have hblk : g < W.heap.size := (Array.getElem?_eq_some_iff.1 hcur).1
  have hH : HoldsK (encH (L := L)) 4 W g 0 d.toArray := fun t ht => by
    have ht' : t < d.length * 4 := by simpa using ht
    have hjl : t / 4 < d.length := by omega
    rw [Nat.zero_add, Lib.cell_of_heap hcur]
    refine ⟨?_, Lib.frozen_of_heap hcur _⟩
    have h1 := reps_cell hr (j := t / 4) (c := t % 4) (List.getElem?_eq_getElem hjl) (by omega)
    rw [show t / 4 * 4 + t % 4 = t by omega] at h1
    have h2 : cur[t]? = inner[t]? := by rw [← hcells, List.getElem?_take_of_lt ht', Array.getElem?_toList]
    rw [h2, h1]
    have hf := get_flatK (encH (L := L)) 4 d.toArray t (by simpa using ht')
    have h3 : (d.toArray[t / 4]! : El L) = d[t / 4] := by rw [getElem!_pos d.toArray (t / 4) (by simpa using hjl)]; simp
    rw [h3] at hf
    show _ = some (id _)
    rw [id, hf, getElem!_pos (encH d[t / 4]) (t % 4) (by simp; omega), List.getElem?_eq_getElem (by simp; omega)]
  have hcmp : CmpLays Try.prog 28 #[] (encH (L := L)) 4 cfH g 0 d.toArray.size W := fun m os dk hsd x y => cmp28 _ _ _ _ _ _ _ _ _
  have hT : ∀ x y : El L, ltOf cfH x y = false → ltOf cfH y x = false → x = y := fun x y h1 h2 => by
    rw [ltH] at h1 h2
    simp at h1 h2
    rcases ltN_total x.1 y.1 with h | h | ⟨h, h'⟩
    · exact absurd h h1
    · exact absurd h h2
    · exact Subtype.ext (map_inj hk x.2 y.2 (by rw [h, h']))
  have hcon := AnyQ.slices_SortFunc_total Try.sortH 4 Try.isAgg39 Try.sizeOf39 (encH (L := L)) (fun _ => rfl) (fun x v hv => by simp at hv; rcases hv with rfl | rfl | rfl | rfl <;> rfl) cfH swoH 28 #[] g 0 cap d.toArray W (enters_of Try.func28 (by kernel_rfl) rfl) hcmp hH hblk (by simp; omega) hT
  change Calls Try.prog 27 _ _ _ at hcon
  refine (show Calls Try.prog 27 #[.slice (some ⟨g, 0, none⟩) d.length cap, .func (.func 28) #[] #[]] W _ from by simpa using hcon).mono ?_
  rintro e w' ⟨he, n, os, rfl⟩
  have hlb : (byName d).length = d.length := List.length_mergeSort _
  have hw : sortWorldK (encH (L := L)) 4 W g 0 n (d.mergeSort fun x y => !ltOf cfH y x).toArray os = sortWorld id W g 0 n (flatK (encH (L := L)) 4 (byName d).toArray) os := rfl
  rw [hw]
  refine ⟨he, ⟨rfl, rfl, rfl, by simp [sortWorld, grow, putRow, mapBlock], fun k hk' hS => heap_sortWorld id W g 0 n _ os hS hk'⟩, (flatK (encH (L := L)) 4 (byName d).toArray).toList, ⟨by simp, .inr ⟨g, cap, putCells id 0 (flatK (encH (L := L)) 4 (byName d).toArray) cur, rfl, hg, ?_, by omega, hcm, by simpa [putCells] using hsz, ?_⟩⟩, reps_flat (byName d)⟩
  · unfold sortWorld
    rw [heap_grow_old _ _ (by simp [putRow, mapBlock]; exact hblk)]
    simp only [putRow, mapBlock, Array.getElem?_modify, if_true]
    rw [show (Sort.ahead W n).heap[g]? = some (.cells cur 39 (0, 0)) from hcur]
    rfl
  · have hfs : (flatK (encH (L := L)) 4 (byName d).toArray).size = (byName d).length * 4 := by simp
    refine List.ext_getElem? fun t => ?_
    by_cases ht : t < (byName d).length * 4
    · have htc : t < cur.size := by rw [hsz]; omega
      rw [List.getElem?_take_of_lt ht, Array.getElem?_toList, Array.getElem?_toList]
      simp only [putCells, Array.getElem?_mapIdx, Array.getElem?_eq_getElem htc, Option.map_some]
      rw [if_pos ⟨Nat.zero_le _, by rw [hfs]; simpa using ht⟩, Array.getElem?_eq_getElem (by rw [hfs]; exact ht), Nat.sub_zero, getElem!_pos (flatK encH 4 (byName d).toArray) t (by rw [hfs]; exact ht)]
      rfl
    · rw [List.getElem?_eq_none (by simp; omega), List.getElem?_eq_none (by simp; omega)]
end Go.Proofs.Ytancenklmfamnaa.Sh
