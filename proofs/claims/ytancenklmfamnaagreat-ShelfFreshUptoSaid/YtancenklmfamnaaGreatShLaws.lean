/- New. List's comparison. List: the order, the sort of the row. List. the calls, as the laws use them. -/
import Derived.Test.YtancenklmfamnaaGreatShLayM
import Derived.Test.YtancenklmfamnaaGreatVRef
import Derived.Deep.AppendLies
set_option linter.unusedVariables false
set_option linter.unusedSimpArgs false
namespace Go.Proofs.YtancenklmfamnaaGreat.Sh
open Go.RowKit Go.Maps Go.Sort Go.Shelf
open Go.Proofs Go.MuLone

def Lay.start (room : Int) (mm ml : Nat) : Lay := ⟨0, room, 0, 0, 0, mm, ml, [], [], []⟩
set_option maxHeartbeats 4000000 in
theorem new_bad (n : Int) (w : World) (h : n < 1 ∨ 1099511627776 < n) : Calls Tryz.prog 18 #[.int .i64 n] w fun e w' => e = .returned (.tuple #[.pointer none, .int .i64 1]) ∧ w' = w := by
  rcases (show n < 1 ∨ (1 ≤ n ∧ 1099511627776 < n) by omega) with h | ⟨h1, h2⟩
  · have hd : decide (n < 1) = true := by simpa using h
    go_enter Tryz.func18, Tryz.ntmps18
    go_wp2
    go_ret2
    exact ⟨rfl, rfl⟩
  · have hd : decide (n < 1) = false := by simp; omega
    have hd2 : decide (1099511627776 < n) = true := by simpa using h2
    go_enter Tryz.func18, Tryz.ntmps18
    go_wp2
    go_ret2
    exact ⟨rfl, rfl⟩
theorem owns_none {W : World} {k : TypeId} {R : Value → Option (DataW Unit × List MemPlace)} {ib : Nat} (h : W.heap[ib]? = some (.map #[] 0)) : W.ownsMap Tryz.prog k R ib 0 (.map []) := by
  obtain ⟨es, clock, hb, F, hs, hD⟩ := World.ownsMap_made W Tryz.prog k R
  rw [World.alloc_heap_new] at hb
  cases hb
  exact ⟨#[], 0, h, F, hs, hD⟩
theorem alloc_old {w : World} {o : Obj} {k : Nat} (h : k < w.heap.size) : (w.alloc o).heap[k]? = w.heap[k]? := ((Below.refl w.heap.size w).alloc (Nat.le_refl _) o).block k h
theorem start_is (w : World) (n : Int) (W : World) (mm : Nat) (hb : W.heap.size = W.heap.size) (h1 : W.heap[w.heap.size]? = some (.map #[] 0)) (h2 : W.heap[w.heap.size + 1]? = some (.map #[] 0))
    (h3 : ∃ sem, W.heap[w.heap.size + 1 + 1]? = some (.cells #[.int .i32 0, sem, .int .i64 n, .int .i64 0, .int .i64 0, .int .i64 0, .map (some w.heap.size), .map (some (w.heap.size + 1))] 88 (0, 0))) :
    ShelfIs w.heap.size W (w.heap.size + 1 + 1) (Lay.start n w.heap.size (w.heap.size + 1)) := by
  refine ⟨h3, ⟨0, .map [], by omega, owns_none h1, View.empty.congr fun k => ?_⟩, ⟨0, .map [], by omega, owns_none h2, View.empty.congr fun k => ?_⟩, fun x hx => (by cases hx), fun m hm => (by cases hm), ⟨by omega, Nat.le_refl _, by show _ ≤ w.heap.size + 1; omega, fun x hx => (by cases hx), fun m hm => (by cases hm)⟩, List.nodup_nil, List.nodup_nil, ⟨by show w.heap.size ≠ w.heap.size + 1; omega, fun x hx => (by cases hx)⟩, List.nodup_nil, List.nodup_nil, fun m hm => (by cases hm), List.nodup_nil, by simp [Lay.start]⟩
  · cases k <;> rfl
  · cases k <;> rfl
theorem start_good {n : Int} {a b : Nat} (h1 : 1 ≤ n) (h2 : n ≤ 1099511627776) : Good (Lay.start n a b) :=
  ⟨⟨h1, h2⟩, rfl, rfl, by show (0 : Int) ≤ n; omega, by show (0 : Int) ≤ 0; omega, fun m hm => (by cases hm), List.nodup_nil, fun m hm => (by cases hm), fun m hm => (by cases hm), fun m hm => (by cases hm), fun x hx => (by cases hx), fun x hx => (by cases hx), by simp [Lay.start], fun m hm => (by cases hm)⟩
set_option maxHeartbeats 4000000 in
theorem new_any (n : Int) (w : World) (h1 : 1 ≤ n) (h2 : n ≤ 1099511627776) : Calls Tryz.prog 18 #[.int .i64 n] w fun e w' => ∃ p mm ml, e = .returned (.tuple #[.pointer (some ⟨p, 0, none⟩), .int .i64 0]) ∧ Below w.heap.size w w' ∧ ShelfIs w.heap.size w' p (Lay.start n mm ml) := by
  have hd : decide (n < 1) = false := by simp; omega
  have hd2 : decide (1099511627776 < n) = false := by simp; omega
  have hmk := @run_makeMap Tryz.prog
  go_enter Tryz.func18, Tryz.ntmps18
  go_wp2_with fail
  go_ret2
  have z2 : ((w.alloc (.map #[] 0)).alloc (.map #[] 0)).heap.size = w.heap.size + 1 + 1 := by simp
  refine ⟨w.heap.size + 1 + 1, w.heap.size, w.heap.size + 1, rfl, (((Below.refl _ w).alloc (Nat.le_refl _) _).alloc (by simp) _).alloc (by simp; omega) _, start_is w n _ 0 rfl ?_ ?_ ⟨.int .u32 0, ?_⟩⟩
  · rw [alloc_old (by simp; omega), alloc_old (by simp)]
    exact World.alloc_heap_new w _
  · rw [alloc_old (by simp)]
    have := World.alloc_heap_new (w.alloc (.map #[] 0)) (.map #[] 0)
    simpa using this
  · have := World.alloc_heap_new ((w.alloc (.map #[] 0)).alloc (.map #[] 0)) (.cells #[.int .i32 0, .int .u32 0, .int .i64 n, .int .i64 0, .int .i64 0, .int .i64 0, .map (some w.heap.size), .map (some (w.heap.size + 1))] 88)
    rw [z2] at this
    exact this
end Go.Proofs.YtancenklmfamnaaGreat.Sh
namespace Go.Proofs.YtancenklmfamnaaGreat.Sh
open Go.RowKit Go.Maps Go.Sort Go.Shelf
open Go.Proofs Go.MuLone

def orI (x y : Int) : Int := if x = 0 then y else x
set_option maxHeartbeats 4000000 in
set_option maxRecDepth 100000 in
theorem or_any (b : Nat) (x y : Int) (c : Nat) (w : World) (h0 : w.cell? ⟨b, 0, none⟩ = some (.int .i64 x)) (h1 : w.cell? ⟨b, 1, none⟩ = some (.int .i64 y)) :
    Calls Tryz.prog 38 #[.slice (some ⟨b, 0, none⟩) 2 c] w fun e w' => e = .returned (.int .i64 (orI x y)) ∧ w' = w := by
  by_cases hx : x = 0
  · have hxb : (x == 0) = true := by simp [hx]
    have hxn : (x != 0) = false := by simp [hx]
    rw [show orI x y = y from if_pos hx]
    clear hx
    by_cases hy : y = 0
    · have hyb : (y == 0) = true := by simp [hy]
      have hyn : (y != 0) = false := by simp [hy]
      have HY := Lib.hid hy
      clear hy
      go_enter Tryz.func38, Tryz.ntmps38
      go_wp2
      go_loop [8] (fun v8 => v8 = .int .i64 0 ∨ v8 = .int .i64 1 ∨ v8 = .int .i64 2) (fun v8 => 2 - (intOf v8).toNat)
      case atStart => exact .inl rfl
      case round =>
        rcases hrel with rfl | rfl | rfl
        · go_wp2
          go_round
          case rel => exact .inr (.inl rfl)
          case measure => simp [intOf]
        · go_wp2
          go_round
          case rel => exact .inr (.inr rfl)
          case measure => simp [intOf]
        · go_wp2
          go_ret
          exact ⟨by rw [HY.out]; rfl, rfl⟩
    · have hyb : (y == 0) = false := by simp [hy]
      have hyn : (y != 0) = true := by simp [hy]
      clear hy
      go_enter Tryz.func38, Tryz.ntmps38
      go_wp2
      go_loop [8] (fun v8 => v8 = .int .i64 0 ∨ v8 = .int .i64 1) (fun v8 => 2 - (intOf v8).toNat)
      case atStart => exact .inl rfl
      case round =>
        rcases hrel with rfl | rfl
        · go_wp2
          go_round
          case rel => exact .inr rfl
          case measure => simp [intOf]
        · go_wp2
          go_ret
          exact ⟨rfl, rfl⟩
  · have hxb : (x == 0) = false := by simp [hx]
    have hxn : (x != 0) = true := by simp [hx]
    rw [show orI x y = x from if_neg hx]
    clear hx
    go_enter Tryz.func38, Tryz.ntmps38
    go_wp2
    go_loop [8] (fun v8 => v8 = .int .i64 0) (fun v8 => 2 - (intOf v8).toNat)
    case atStart => rfl
    case round =>
      subst hrel
      go_wp2
      go_ret
      exact ⟨rfl, rfl⟩

/-- by name and version -/
def cmpH (n1 : ByteArray) (v1 : Int) (n2 : ByteArray) (v2 : Int) : Int := orI (Lib.compareBytes n1.data.toList n2.data.toList) (Lib.compareInt v1 v2)
set_option maxHeartbeats 4000000 in
set_option maxRecDepth 100000 in
theorem cmp28 (n1 n2 : ByteArray) (v1 v2 a1 a2 b1 b2 : Int) (w : World) :
    Calls Tryz.prog 37 #[.agg #[.string n1, .int .i64 v1, .int .i64 a1, .int .i64 b1], .agg #[.string n2, .int .i64 v2, .int .i64 a2, .int .i64 b2]] w fun e w' => e = .returned (.int .i64 (cmpH n1 v1 n2 v2)) ∧ ∃ q os', w' = grow (w.drewN q) os' := by
  go_enter Tryz.func37, Tryz.ntmps37
  have mixed : Tryz.prog.follows Departure.mixedOrders = true := by kernel_rfl
  have hw1 : ∃ w1, w1 = (w.alloc (.cells #[.string n1, .int .i64 v1, .int .i64 a1, .int .i64 b1] 70)).alloc (.cells #[.string n2, .int .i64 v2, .int .i64 a2, .int .i64 b2] 70) := ⟨_, rfl⟩
  obtain ⟨w1, hw1⟩ := hw1
  have k1 : w1.heap[w.heap.size]? = some (.cells #[.string n1, .int .i64 v1, .int .i64 a1, .int .i64 b1] 70 (0, 0)) := by
    rw [hw1, alloc_old (by simp)]
    exact World.alloc_heap_new w _
  have k2 : w1.heap[w.heap.size + 1]? = some (.cells #[.string n2, .int .i64 v2, .int .i64 a2, .int .i64 b2] 70 (0, 0)) := by
    have := World.alloc_heap_new (w.alloc (.cells #[.string n1, .int .i64 v1, .int .i64 a1, .int .i64 b1] 70)) (.cells #[.string n2, .int .i64 v2, .int .i64 a2, .int .i64 b2] 70)
    rw [hw1]
    simpa using this
  have q1 : w1.cell? ⟨w.heap.size, 0, none⟩ = some (.string n1) := by rw [Lib.cell_of_heap k1]; rfl
  have q2 : w1.cell? ⟨w.heap.size, 1, none⟩ = some (.int .i64 v1) := by rw [Lib.cell_of_heap k1]; rfl
  have q3 : w1.cell? ⟨w.heap.size + 1, 0, none⟩ = some (.string n2) := by rw [Lib.cell_of_heap k2]; rfl
  have q4 : w1.cell? ⟨w.heap.size + 1, 1, none⟩ = some (.int .i64 v2) := by rw [Lib.cell_of_heap k2]; rfl
  have HW1 := Lib.hid hw1
  have hsz : w.heap.size + 1 < w1.heap.size := (Array.getElem?_eq_some_iff.1 k2).1
  clear k1 k2
  go_wp2_with fail
  rw [← hw1]
  clear hw1
  refine wp_region_still_tail 10 (by kernel_rfl) (by kernel_rfl) ?_
  simp only [List.take_succ_cons, List.take_zero, List.drop_succ_cons, List.drop_zero]
  still_step
  still_step
  still_step
  still_step
  still_call (Tryz.strings_Compare _ _ _)
  still_step
  still_step
  still_step
  still_step
  still_call (AnyG.cmp_Compare_int Tryz.cmpI _ _ _)
  refine wpStill_nil ?_
  go_wp2_with fail
  have c0 : (w1.alloc (.cells #[.int .i64 (Lib.compareBytes n1.data.toList n2.data.toList), .int .i64 (Lib.compareInt v1 v2)] 3)).cell? ⟨w1.heap.size, 0, none⟩ = some (.int .i64 (Lib.compareBytes n1.data.toList n2.data.toList)) := by rw [Lib.cell_of_heap (World.alloc_heap_new w1 _)]; rfl
  have c1 : (w1.alloc (.cells #[.int .i64 (Lib.compareBytes n1.data.toList n2.data.toList), .int .i64 (Lib.compareInt v1 v2)] 3)).cell? ⟨w1.heap.size, 1, none⟩ = some (.int .i64 (Lib.compareInt v1 v2)) := by rw [Lib.cell_of_heap (World.alloc_heap_new w1 _)]; rfl
  refine (or_any w1.heap.size (Lib.compareBytes n1.data.toList n2.data.toList) (Lib.compareInt v1 v2) 2 _ (by exact c0) (by exact c1)).mono ?_
  rintro e w3 ⟨rfl, rfl⟩
  clear c0 c1
  go_wp2
  go_ret
  refine ⟨rfl, 1, #[.cells #[.string n1, .int .i64 v1, .int .i64 a1, .int .i64 b1] 70 (0, 0), .cells #[.string n2, .int .i64 v2, .int .i64 a2, .int .i64 b2] 70 (0, 0), .cells #[.int .i64 (Lib.compareBytes n1.data.toList n2.data.toList), .int .i64 (Lib.compareInt v1 v2)] 3 (0, 0)], ?_⟩
  rw [HW1.out, alloc_eq_grow, alloc_eq_grow, alloc_eq_grow, grow_grow, grow_grow, drew_grow]
  rfl
end Go.Proofs.YtancenklmfamnaaGreat.Sh
namespace Go.Proofs.YtancenklmfamnaaGreat.Sh
open Go.RowKit Go.Maps Go.Sort Go.Shelf
open Go.Proofs Go.MuLone
open Go.Proofs.YtancenklmfamnaaGreatW.PrintWords (Reps OwnRow)
open Go.Proofs.YtancenklmfamnaaGreat.PShelfPlays (S70 k70)

theorem cb_zero : ∀ (a b : List UInt8), Lib.compareBytes a b = 0 ↔ a = b
  | [], [] => by simp [Lib.compareBytes]
  | [], _ :: _ => by simp [Lib.compareBytes]
  | _ :: _, [] => by simp [Lib.compareBytes]
  | a :: ra, b :: rb => by
    simp only [Lib.compareBytes]
    split
    · rename_i h
      have : a ≠ b := fun e => by subst e; exact UInt8.lt_irrefl _ h
      simp [this]
    · split
      · rename_i h
        have : a ≠ b := fun e => by subst e; exact UInt8.lt_irrefl _ h
        simp [this]
      · rename_i h1 h2
        have : a = b := by
          rw [UInt8.lt_iff_toNat_lt] at h1 h2
          exact UInt8.toNat_inj.1 (by omega)
        rw [cb_zero ra rb, this]
        simp
theorem cb_lt : ∀ (a b : List UInt8), Lib.compareBytes a b < 0 ↔ a < b
  | [], [] => by simp [Lib.compareBytes]
  | [], _ :: _ => by simp [Lib.compareBytes]
  | _ :: _, [] => by simp [Lib.compareBytes]
  | a :: ra, b :: rb => by
    simp only [Lib.compareBytes, List.cons_lt_cons_iff]
    split
    · rename_i h
      simp [h]
    · split
      · rename_i h1 h2
        have : a ≠ b := fun e => by subst e; exact h1 h2
        simp [h1, this]
      · rename_i h1 h2
        have : a = b := by
          rw [UInt8.lt_iff_toNat_lt] at h1 h2
          exact UInt8.toNat_inj.1 (by omega)
        rw [cb_lt ra rb, this]
        simp [UInt8.lt_irrefl]

/-- by name and version -/
def ltN (a b : LM) : Prop := a.name.data.toList < b.name.data.toList ∨ (a.name = b.name ∧ a.ver < b.ver)
instance (a b : LM) : Decidable (ltN a b) := by unfold ltN; exact inferInstance
def cfH {L : Lay} (x y : El L) : Int := cmpH x.1.name x.1.ver y.1.name y.1.ver
theorem cmpH_lt (a b : LM) : cmpH a.name a.ver b.name b.ver < 0 ↔ ltN a b := by
  unfold cmpH orI ltN
  split
  · rename_i h
    have h1 := (cb_zero _ _).1 h
    have h2 : a.name = b.name := toList_inj h1
    have h3 : ¬ a.name.data.toList < b.name.data.toList := by rw [h1]; exact List.lt_irrefl _
    have h4 : Lib.compareInt a.ver b.ver < 0 ↔ a.ver < b.ver := by
      unfold Lib.compareInt
      split
      · simp; omega
      · split <;> simp <;> omega
    simp [h2, h4, List.lt_irrefl]
  · rename_i h
    have h1 : a.name ≠ b.name := fun e => h ((cb_zero _ _).2 (by rw [e]))
    simp [cb_lt, h1]
theorem ltH {L : Lay} (x y : El L) : ltOf cfH x y = decide (ltN x.1 y.1) := by
  unfold ltOf cfH
  simp [cmpH_lt]
theorem ltN_irrefl (a : LM) : ¬ ltN a a := by
  rintro (h | ⟨_, h⟩)
  · exact List.lt_irrefl _ h
  · omega
theorem ltN_trans {a b c : LM} (h1 : ltN a b) (h2 : ltN b c) : ltN a c := by
  rcases h1 with h1 | ⟨e1, h1⟩ <;> rcases h2 with h2 | ⟨e2, h2⟩
  · exact .inl (List.lt_trans h1 h2)
  · exact .inl (e2 ▸ h1)
  · exact .inl (e1 ▸ h2)
  · exact .inr ⟨e1.trans e2, by omega⟩
theorem list_tri (a b : List UInt8) : a < b ∨ a = b ∨ b < a := by
  by_cases h : a < b
  · exact .inl h
  · by_cases h2 : b < a
    · exact .inr (.inr h2)
    · exact .inr (.inl (List.le_antisymm (List.not_lt.1 h2) (List.not_lt.1 h)))
theorem ltN_total (a b : LM) : ltN a b ∨ ltN b a ∨ (a.name = b.name ∧ a.ver = b.ver) := by
  rcases list_tri a.name.data.toList b.name.data.toList with h | h | h
  · exact .inl (.inl h)
  · have e : a.name = b.name := toList_inj h
    rcases (show a.ver < b.ver ∨ a.ver = b.ver ∨ b.ver < a.ver by omega) with h2 | h2 | h2
    · exact .inl (.inr ⟨e, h2⟩)
    · exact .inr (.inr ⟨e, h2⟩)
    · exact .inr (.inl (.inr ⟨e.symm, h2⟩))
  · exact .inr (.inl (.inl h))
theorem swoH {L : Lay} : SWO (ltOf (cfH (L := L))) where
  irrefl x := by rw [ltH]; simpa using ltN_irrefl x.1
  trans x y z h1 h2 := by
    rw [ltH] at *
    simp at *
    exact ltN_trans h1 h2
  ntrans x y z h1 h2 := by
    rw [ltH] at *
    simp at *
    intro h3
    rcases ltN_total x.1 y.1 with h | h | ⟨h, h'⟩
    · exact h1 h
    · exact h2 (ltN_trans h h3)
    · apply h2
      rcases h3 with h3 | ⟨e, h3⟩
      · exact .inl (h ▸ h3)
      · exact .inr ⟨h ▸ e, h' ▸ h3⟩

abbrev encH {L : Lay} (m : El L) : List Value := [.string m.1.name, .int .i64 m.1.ver, .int .i64 m.1.dat.length, .int .i64 m.1.used]
def byName {L : Lay} (d : List (El L)) : List (El L) := d.mergeSort fun x y => !ltOf cfH y x
def RH {L : Lay} (m : El L) (c : List Value) : Prop := c = encH m
theorem reps_cell {L : Lay} {ps : List (El L)} {cs : List Value} (h : Reps RH 4 ps cs) {j c : Nat} {m : El L} (hj : ps[j]? = some m) (hc : c < 4) : cs[j * 4 + c]? = (encH m)[c]? := by
  have h1 : (cs.drop (j * 4)).take 4 = encH m := h.2 j m hj
  have h2 : ((cs.drop (j * 4)).take 4)[c]? = cs[j * 4 + c]? := by
    rw [List.getElem?_take_of_lt hc, List.getElem?_drop]
  rw [← h2, h1]
theorem reps_flat {L : Lay} [Inhabited (El L)] (ps : List (El L)) : Reps RH 4 ps (flatK encH 4 ps.toArray).toList := by
  refine ⟨by simp, fun j m hj => ?_⟩
  have hjl := (List.getElem?_eq_some_iff.1 hj).1
  show _ = encH m
  refine List.ext_getElem? fun c => ?_
  by_cases hc : c < 4
  · rw [List.getElem?_take_of_lt hc, List.getElem?_drop]
    have hlt : j * 4 + c < ps.toArray.size * 4 := by simp; omega
    have h1 := get_flatK encH 4 ps.toArray (j * 4 + c) hlt
    rw [show (j * 4 + c) / 4 = j by omega, show (j * 4 + c) % 4 = c by omega] at h1
    have h2 : j * 4 + c < (flatK encH 4 ps.toArray).size := by simpa using hlt
    rw [Array.getElem?_toList, Array.getElem?_eq_getElem h2, ← getElem!_pos (flatK encH 4 ps.toArray) (j * 4 + c) h2, h1]
    have h3 : (ps.toArray[j]! : El L) = m := by
      rw [getElem!_pos ps.toArray j (by simpa using hjl)]
      simp
      have := (List.getElem?_eq_some_iff.1 hj).2
      exact this
    rw [h3, getElem!_pos (encH m) c (by simpa using hc), List.getElem?_eq_getElem (by simpa using hc)]
  · rw [List.getElem?_eq_none (by simp; omega), List.getElem?_eq_none (by simp; omega)]

theorem sortH_row {L : Lay} (hk : (L.ms.map fun m => (m.name, m.ver)).Nodup) (W : World) (base : Nat) (d : List (El L)) (g cap : Nat) (hne : d ≠ []) (hlen : d.length ≤ 256)
    (hown : OwnRow RH 70 4 W base (.slice (some ⟨g, 0, none⟩) d.length cap) d) :
    Calls Tryz.prog 36 #[.slice (some ⟨g, 0, none⟩) d.length cap, .func (.func 37) #[] #[]] W fun e w' => e = .returned (.tuple #[]) ∧ Same (fun k => k = g) W w' ∧ OwnRow RH 70 4 w' base (.slice (some ⟨g, 0, none⟩) (byName d).length cap) (byName d) := by
  haveI : Inhabited (El L) := ⟨d.head hne⟩
  obtain ⟨inner, ⟨hl, hc⟩, hr⟩ := hown
  rcases hc with ⟨h0, _⟩ | ⟨g', cap', cur, he, hg, hcur, hcap, hcm, hsz, hcells⟩
  · cases h0
  simp at he
  obtain ⟨rfl, rfl⟩ := he
  have hblk : g < W.heap.size := (Array.getElem?_eq_some_iff.1 hcur).1
  have hH : HoldsK (encH (L := L)) 4 W g 0 d.toArray := fun t ht => by
    have ht' : t < d.length * 4 := by simpa using ht
    have hjl : t / 4 < d.length := by omega
    rw [Nat.zero_add, Lib.cell_of_heap hcur]
    refine ⟨?_, Lib.frozen_of_heap hcur _⟩
    have h1 := reps_cell hr (j := t / 4) (c := t % 4) (List.getElem?_eq_getElem hjl) (by omega)
    rw [show t / 4 * 4 + t % 4 = t by omega] at h1
    have h2 : cur[t]? = inner[t]? := by rw [← hcells, List.getElem?_take_of_lt ht', Array.getElem?_toList]
    rw [h2, h1]
    have hf := get_flatK (encH (L := L)) 4 d.toArray t (by simpa using ht')
    have h3 : (d.toArray[t / 4]! : El L) = d[t / 4] := by rw [getElem!_pos d.toArray (t / 4) (by simpa using hjl)]; simp
    rw [h3] at hf
    show _ = some (id _)
    rw [id, hf, getElem!_pos (encH d[t / 4]) (t % 4) (by simp; omega), List.getElem?_eq_getElem (by simp; omega)]
  have hcmp : CmpLays Tryz.prog 37 #[] (encH (L := L)) 4 cfH g 0 d.toArray.size W := fun m os dk hsd x y => cmp28 _ _ _ _ _ _ _ _ _
  have hT : ∀ x y : El L, ltOf cfH x y = false → ltOf cfH y x = false → x = y := fun x y h1 h2 => by
    rw [ltH] at h1 h2
    simp at h1 h2
    rcases ltN_total x.1 y.1 with h | h | ⟨h, h'⟩
    · exact absurd h h1
    · exact absurd h h2
    · exact Subtype.ext (map_inj hk x.2 y.2 (by rw [h, h']))
  have hcon := AnyQ.slices_SortFunc_total Tryz.sortH 4 Tryz.isAgg70 Tryz.sizeOf70 (encH (L := L)) (fun _ => rfl) (fun x v hv => by simp at hv; rcases hv with rfl | rfl | rfl | rfl <;> rfl) cfH swoH 37 #[] g 0 cap d.toArray W (enters_of Tryz.func37 (by kernel_rfl) rfl) hcmp hH hblk (by simp; omega) hT
  change Calls Tryz.prog 36 _ _ _ at hcon
  refine (show Calls Tryz.prog 36 #[.slice (some ⟨g, 0, none⟩) d.length cap, .func (.func 37) #[] #[]] W _ from by simpa using hcon).mono ?_
  rintro e w' ⟨he, n, os, rfl⟩
  have hlb : (byName d).length = d.length := List.length_mergeSort _
  have hw : sortWorldK (encH (L := L)) 4 W g 0 n (d.mergeSort fun x y => !ltOf cfH y x).toArray os = sortWorld id W g 0 n (flatK (encH (L := L)) 4 (byName d).toArray) os := rfl
  rw [hw]
  refine ⟨he, ⟨rfl, rfl, rfl, by simp [sortWorld, grow, putRow, mapBlock], fun k hk' hS => heap_sortWorld id W g 0 n _ os hS hk'⟩, (flatK (encH (L := L)) 4 (byName d).toArray).toList, ⟨by simp, .inr ⟨g, cap, putCells id 0 (flatK (encH (L := L)) 4 (byName d).toArray) cur, rfl, hg, ?_, by omega, hcm, by simpa [putCells] using hsz, ?_⟩⟩, reps_flat (byName d)⟩
  · unfold sortWorld
    rw [heap_grow_old _ _ (by simp [putRow, mapBlock]; exact hblk)]
    simp only [putRow, mapBlock, Array.getElem?_modify, if_true]
    rw [show (Sort.ahead W n).heap[g]? = some (.cells cur 70 (0, 0)) from hcur]
    rfl
  · have hfs : (flatK (encH (L := L)) 4 (byName d).toArray).size = (byName d).length * 4 := by simp
    refine List.ext_getElem? fun t => ?_
    by_cases ht : t < (byName d).length * 4
    · have htc : t < cur.size := by rw [hsz]; omega
      rw [List.getElem?_take_of_lt ht, Array.getElem?_toList, Array.getElem?_toList]
      simp only [putCells, Array.getElem?_mapIdx, Array.getElem?_eq_getElem htc, Option.map_some]
      rw [if_pos ⟨Nat.zero_le _, by rw [hfs]; simpa using ht⟩, Array.getElem?_eq_getElem (by rw [hfs]; exact ht), Nat.sub_zero, getElem!_pos (flatK encH 4 (byName d).toArray) t (by rw [hfs]; exact ht)]
      rfl
    · rw [List.getElem?_eq_none (by simp; omega), List.getElem?_eq_none (by simp; omega)]
end Go.Proofs.YtancenklmfamnaaGreat.Sh
namespace Go.Proofs.YtancenklmfamnaaGreat.Sh
open Go.RowKit Go.Maps Go.Sort Go.Shelf
open Go.Proofs Go.MuLone
open Go.Proofs.YtancenklmfamnaaGreatW.PrintWords (Reps OwnRow)
open Go.Proofs.YtancenklmfamnaaGreat.PShelfPlays (S70 k70)

def cellsOf (m : LM) : List Value := [.string m.name, .int .i64 m.ver, .int .i64 m.dat.length, .int .i64 m.used]
def RL (m : LM) (c : List Value) : Prop := c = cellsOf m
def sortedN (L : Lay) : List LM := L.ms.mergeSort fun a b => !decide (ltN b a)
theorem byName_same {L : Lay} (hk : (L.ms.map fun m => (m.name, m.ver)).Nodup) {d : List (El L)} (hd : (d.map (·.1)).Perm L.ms) : (byName d).map (·.1) = sortedN L := by
  have e1 : (byName d).map (·.1) = (d.map (·.1)).mergeSort fun a b => !decide (ltN b a) := by
    unfold byName
    refine List.map_mergeSort fun a _ b _ => ?_
    rw [ltH]
  rw [e1]
  have tr : ∀ a b c : LM, (!decide (ltN b a)) = true → (!decide (ltN c b)) = true → (!decide (ltN c a)) = true := fun a b c h1 h2 => by
    simp at *
    intro h3
    rcases ltN_total a b with h | h | ⟨h, h'⟩
    · exact h2 (ltN_trans h3 h)
    · exact h1 h
    · apply h2
      rcases h3 with h3 | ⟨e, h3⟩
      · exact .inl (h ▸ h3)
      · exact .inr ⟨e.trans h, h' ▸ h3⟩
  have tot : ∀ a b : LM, ((!decide (ltN b a)) || (!decide (ltN a b))) = true := fun a b => by
    simp
    rcases ltN_total a b with h | h | ⟨h, h'⟩
    · exact .inl fun h2 => ltN_irrefl _ (ltN_trans h h2)
    · exact .inr fun h2 => ltN_irrefl _ (ltN_trans h h2)
    · left
      rintro (h2 | ⟨_, h2⟩)
      · rw [h] at h2; exact List.lt_irrefl _ h2
      · omega
  refine List.Perm.eq_of_pairwise (le := fun a b => (!decide (ltN b a)) = true) (fun a b ha hb h1 h2 => ?_) (List.pairwise_mergeSort tr tot _) (List.pairwise_mergeSort tr tot _) (((List.mergeSort_perm _ _).trans hd).trans (List.mergeSort_perm _ _).symm)
  simp at h1 h2
  have ha' : a ∈ L.ms := hd.mem_iff.1 ((List.mergeSort_perm _ _).mem_iff.1 ha)
  have hb' : b ∈ L.ms := (List.mergeSort_perm _ _).mem_iff.1 hb
  rcases ltN_total a b with h | h | ⟨h, h'⟩
  · exact absurd h h2
  · exact absurd h h1
  · exact map_inj hk ha' hb' (by rw [h, h'])
theorem reps_vals {L : Lay} {d : List (El L)} {cs : List Value} (h : Reps RH 4 d cs) : Reps RL 4 (d.map (·.1)) cs := by
  refine ⟨by rw [h.1]; simp, fun j m hj => ?_⟩
  rw [List.getElem?_map] at hj
  obtain ⟨x, hx, rfl⟩ := Option.map_eq_some_iff.1 hj
  exact h.2 j x hx
theorem row_farN {W W1 : World} {S : Nat → Prop} {B n k : Nat} {t : TypeId} {v : Value} {xs : List Value} (h : W.ownsRow B t k v n xs) (hs : Same S W W1) (hb : ∀ j, v.ownBlock = some j → ¬ S j) : W1.ownsRow B t k v n xs := by
  obtain ⟨h1, h2⟩ := h
  refine ⟨h1, ?_⟩
  rcases h2 with h2 | ⟨g, cap, cur, rfl, e1, e2, e3⟩
  · exact .inl h2
  · exact .inr ⟨g, cap, cur, rfl, e1, hs.at e2 (hb g rfl), e3⟩
theorem row_tyN {W : World} {B n k : Nat} {t : TypeId} {v : Value} {xs : List Value} (h : W.ownsRow B t k v n xs) {j : Nat} (hk : v.ownBlock = some j) : B ≤ j ∧ ∃ cur, W.heap[j]? = some (.cells cur t (0, 0)) := by
  rcases h.2 with ⟨rfl, _⟩ | ⟨g, cap, cur, rfl, hB, h2, _⟩
  · cases hk
  · obtain rfl := Option.some.inj hk
    exact ⟨hB, cur, h2⟩
/-- in the midst of the loop -/
structure LiMid {L : Lay} (b0 : Nat) (wL wr : World) (v1 v3 : Value) (d : List (El L)) (k : Nat) : Prop where
  row : ∃ inner, wr.ownsRow b0 70 4 v3 k inner ∧ Reps RH 4 (d.take k) inner
  ptrs : wr.ownsRow b0 91 1 v1 d.length (d.map (encM L))
  below : Below b0 wL wr
theorem LiMid.cell {L : Lay} {b0 : Nat} {wL wr : World} {A : Option Addr} {c : Nat} {v3 : Value} {d : List (El L)} {k : Nat} (h : LiMid b0 wL wr (.slice A d.length c) v3 d k) {j : Nat} {x : El L} (hx : d[j]? = some x) : ∃ g, A = some ⟨g, 0, none⟩ ∧ wr.cell? ⟨g, j, none⟩ = some (encM L x) := by
  have hj := (List.getElem?_eq_some_iff.1 hx).1
  rcases h.ptrs.2 with ⟨_, h0⟩ | ⟨g, cap, cur, he, hg, hcur, hcap, hcm, hsz, hcells⟩
  · omega
  · simp at he
    obtain ⟨rfl, rfl⟩ := he
    refine ⟨g, rfl, ?_⟩
    rw [Lib.cell_of_heap hcur]
    have h1 : (d.map (encM L))[j]? = some (encM L x) := by simp [hx]
    rw [← hcells, List.getElem?_take_of_lt (by omega)] at h1
    simpa using h1
theorem LiMid.next {L : Lay} {b0 : Nat} {wL wr w2 : World} {g c : Nat} {v3 v' : Value} {d : List (El L)} {k : Nat} (h : LiMid b0 wL wr (.slice (some ⟨g, 0, none⟩) d.length c) v3 d k) {x : El L} (hx : d[k]? = some x) {inner : List Value} (hr : Reps RH 4 (d.take k) inner) (hv3 : wr.ownsRow b0 70 4 v3 k inner) (X : Obj)
    (hown : w2.ownsRow b0 70 4 v' (k + 1) (inner ++ encH x)) (hg : ((wr.alloc X).drew).grownBy w2 v3.ownBlock) (hb : b0 ≤ wr.heap.size) : LiMid b0 wL w2 (.slice (some ⟨g, 0, none⟩) d.length c) v' d (k + 1) := by
  refine ⟨⟨inner ++ encH x, hown, ?_⟩, ?_, ?_⟩
  · rw [List.take_add_one, hx]
    exact hr.snoc (p := x) rfl rfl
  · refine (show ((wr.alloc X).drew).ownsRow b0 91 1 _ _ _ from h.ptrs.alloc X).kept hg (.inr fun e => ?_)
    obtain ⟨_, cur, hc⟩ := row_ty (h.ptrs.alloc X) (k := g) rfl
    obtain ⟨_, cur2, hc2⟩ := row_tyN (hv3.alloc X) (j := g) (by rw [← e]; rfl)
    rw [hc] at hc2
    simp at hc2
  · have h1 : Below b0 wL (wr.alloc X).drew := (h.below.alloc hb X).drew
    refine h1.grown hg (by simp; omega) fun j e => (row_tyN hv3 e).1
/-- what List answers -/
def ListP (B p : Nat) (w : World) (L : Lay) (e : Ending) (w' : World) : Prop := ∃ v, e = .returned v ∧ OwnRow RL 70 4 w' w.heap.size v (sortedN L) ∧ Step B w w' p L L

theorem sortL_any {L : Lay} (hk : (L.ms.map fun m => (m.name, m.ver)).Nodup) (wL W : World) (base : Nat) (d : List (El L)) (v : Value) (hd : (d.map (·.1)).Perm L.ms) (hlen : d.length ≤ 256) (hown : OwnRow RH 70 4 W base v d) (hb : Below base wL W) (hbw : base ≤ wL.heap.size) :
    Calls Tryz.prog 36 #[v, .func (.func 37) #[] #[]] W fun e w' => e = .returned (.tuple #[]) ∧ OwnRow RL 70 4 w' base v (sortedN L) ∧ Below base wL w' := by
  have hs := byName_same hk hd
  have hl : (byName d).length = d.length := List.length_mergeSort _
  by_cases hne : d = []
  · subst hne
    obtain ⟨inner, hr, hreps⟩ := hown
    have hnil : sortedN L = [] := by rw [← hs]; simp [byName]
    have hin : inner = [] := by
      have := hr.1
      simpa using this
    subst hin
    rw [hnil]
    have hf : ∃ A c, v = .slice A 0 c := by
      rcases hr.2 with ⟨rfl, _⟩ | ⟨g, cap, cur, rfl, _⟩
      · exact ⟨_, _, rfl⟩
      · exact ⟨_, _, rfl⟩
    obtain ⟨A, c, rfl⟩ := hf
    have hcon := AnyF.slices_SortFunc_none Tryz.sortH A c (.func (.func 37) #[] #[]) W
    change Calls Tryz.prog 36 _ _ _ at hcon
    exact hcon.mono fun e w' ⟨he, hw⟩ => ⟨he, by rw [hw]; exact ⟨[], hr, Reps.none _ _⟩, by rw [hw]; exact hb⟩
  · obtain ⟨inner, hr, hreps⟩ := hown
    rcases hr.2 with ⟨_, h0⟩ | ⟨g, cap, cur, rfl, hg, _⟩
    · have := List.length_pos_iff.2 hne
      omega
    · refine (sortH_row hk W base d g cap hne hlen ⟨inner, hr, hreps⟩).mono fun e w' ⟨he, hsm, inner2, hr2, hreps2⟩ => ⟨he, ⟨inner2, ?_, by rw [← hs]; exact reps_vals hreps2⟩, ?_⟩
      · have e1 : (sortedN L).length = (byName d).length := by rw [← hs]; simp
        rw [e1, ← hl]
        exact hr2
      · exact ⟨hsm.1.trans hb.os, hsm.2.1.trans hb.tape, hsm.2.2.1.trans hb.output, Nat.le_trans hb.size hsm.2.2.2.1, fun k hk2 => (hsm.2.2.2.2 k (Nat.lt_of_lt_of_le (Nat.lt_of_lt_of_le hk2 hbw) hb.size) (by omega)).trans (hb.block k hk2)⟩
theorem info39 : (Tryz.prog.info? 70).map (fun i => (i.zero, i.size, i.bytes)) = some (some (.agg #[.string ByteArray.empty, .int .i64 0, .int .i64 0, .int .i64 0]), 4, 40) := by kernel_rfl

set_option maxHeartbeats 8000000 in
set_option maxRecDepth 1000000 in
theorem list_any (B p : Nat) (L : Lay) (w : World) (h : ShelfIs B w p L) (hl : L.lk = 0) (hsz : ∀ m ∈ L.ms, m.dat.length ≤ 1099511627776) :
    Calls Tryz.prog 12 #[.pointer (some ⟨p, 0, none⟩)] w (ListP B p w L) := by
  obtain ⟨sem, hblk⟩ := h.blk
  rw [hl] at hblk
  have c0 : w.cell? ⟨p, 0, none⟩ = some (.int .i32 0) := by rw [Lib.cell_of_heap hblk]; rfl
  have f0 : w.frozen? ⟨p, 0, none⟩ = false := Lib.frozen_of_heap hblk _
  have s1 := h.setLock 1
  have S1 := Lib.hid s1
  have H := Lib.hid h
  have HL := Lib.hid hl
  have HZ := Lib.hid hsz
  obtain ⟨i0, hi, hz0, hz1, hz2⟩ := info_parts info39
  clear h hblk hl s1 hsz
  go_enter_defers Tryz.func12, Tryz.ntmps12
  go_wp2_with (go_at_call 33; refine (lock_free Tryz.muLib ⟨p, 0, none⟩ _ c0 f0).mono ?_; rintro e w' ⟨rfl, rfl⟩)
  refine (all_any B p _ _ S1.out.is).mono ?_
  rintro e w1 ⟨v1, bs, rfl, hp, hrow, hbl⟩
  have hz1 : (w.setCell ⟨p, 0, none⟩ (.int .i32 1)).heap.size = w.heap.size := by simp [World.setCell]
  rw [hz1] at hrow hbl
  obtain ⟨ms, hms, rfl⟩ := perm_map_inv hp L.ms rfl
  obtain ⟨d, hd⟩ := attach_map (L := L) ms fun x hx => hms.mem_iff.1 hx
  have hdp : (d.map (·.1)).Perm L.ms := by rw [hd]; exact hms
  have hbs : (ms.map LM.ptr).map encP = d.map (encM L) := by rw [← hd, List.map_map, List.map_map]; rfl
  have hl2 : (ms.map LM.ptr).length = d.length := by rw [← hd]; simp
  rw [hbs, hl2] at hrow
  obtain ⟨A, c, rfl⟩ := row_len hrow
  have hd256 : d.length ≤ 256 := by
    have := hms.length_eq
    have := H.out.few
    have : d.length = ms.length := by rw [← hd]; simp
    omega
  have HR := Lib.hid hrow
  have HB := Lib.hid hbl
  have HDP := Lib.hid hdp
  clear hp hrow hbl hms hd hdp hbs hl2 hz1
  have HM0 : Hid (LiMid w.heap.size (w.setCell ⟨p, 0, none⟩ (.int .i32 1)) w1 (.slice A d.length c) (.slice none 0 0) d 0) := Lib.hid ⟨⟨[], World.ownsRow_nil _ _ _ _, by simpa using Reps.none RH 4⟩, HR.out, HB.out⟩
  have hm1 : d.length ≤ 9223372036854775807 := by omega
  go_wp2_with fail
  go_loopw [3, 16] (fun v3 v16 wr => ∃ k : Nat, k ≤ d.length ∧ v16 = .int .i64 k ∧ Hid (LiMid w.heap.size (w.setCell ⟨p, 0, none⟩ (.int .i32 1)) wr (.slice A d.length c) v3 d k)) (fun _ v16 _ => d.length - (intOf v16).toNat)
  case atStart => exact ⟨0, Nat.zero_le _, rfl, HM0⟩
  case round =>
    obtain ⟨k, hk, rfl, HM⟩ := hrel
    obtain ⟨v3, rfl⟩ : ∃ v3 : Value, v3 = u3 := ⟨_, rfl⟩
    by_cases hlt : k < d.length
    · obtain ⟨x, hx⟩ : ∃ x, d[k]? = some x := ⟨d[k], List.getElem?_eq_getElem hlt⟩
      obtain ⟨g, rfl, hcg⟩ := HM.out.cell hx
      have hwL : (w.setCell ⟨p, 0, none⟩ (.int .i32 1)).heap.size = w.heap.size := by simp [World.setCell]
      have hmd := ((S1.out.is.below (by rw [hwL]; exact HM.out.below)).mods x.1 x.2)
      obtain ⟨hmb, hmr⟩ := hmd
      obtain ⟨A2, c2, hval⟩ := row_len hmr
      have e0 : wr.cell? ⟨x.1.blk, 0, none⟩ = some (.string x.1.name) := by rw [Lib.cell_of_heap hmb]; rfl
      have e1 : wr.cell? ⟨x.1.blk, 1, none⟩ = some (.int .i64 x.1.ver) := by rw [Lib.cell_of_heap hmb]; rfl
      have e2 : wr.cell? ⟨x.1.blk, 2, none⟩ = some (.slice A2 x.1.dat.length c2) := by rw [Lib.cell_of_heap hmb, ← hval]; rfl
      have e3 : wr.cell? ⟨x.1.blk, 3, none⟩ = some (.int .i64 x.1.used) := by rw [Lib.cell_of_heap hmb]; rfl
      have HX := Lib.hid hx
      obtain ⟨inner, hown, hreps⟩ := HM.out.row
      have hb0 : w.heap.size ≤ wr.heap.size := by have := HM.out.below.size; simpa [World.setCell] using this
      have hxw : x.1.blk < w.heap.size := mod_old H.out x.2
      have hxr : x.1.blk < wr.heap.size := by omega
      have ag : v3.ownBlock ≠ some x.1.blk := fun e => by
        have := (row_tyN hown e).1
        omega
      have HRp := Lib.hid hreps
      clear hx hwL hmb hmr hval hreps
      go_wp2_with fail
      go_region_held3 (fun w' => w'.cell? ⟨x.1.blk, 0, none⟩ = some (.string x.1.name) ∧ w'.cell? ⟨x.1.blk, 1, none⟩ = some (.int .i64 x.1.ver) ∧ w'.cell? ⟨x.1.blk, 2, none⟩ = some (.slice A2 x.1.dat.length c2) ∧ w'.cell? ⟨x.1.blk, 3, none⟩ = some (.int .i64 x.1.used))
        (first
          | go_keep
          | (go_split_ands
             refine ⟨?_, ?_, ?_, ?_⟩
             · (rw [hgrow.cell_far _ (by simp; omega) (Ne.symm ag)]; assumption)
             · (rw [hgrow.cell_far _ (by simp; omega) (Ne.symm ag)]; assumption)
             · (rw [hgrow.cell_far _ (by simp; omega) (Ne.symm ag)]; assumption)
             · (rw [hgrow.cell_far _ (by simp; omega) (Ne.symm ag)]; assumption)))
        ((refine step_append_lies _ (by rfl) _ _ _ (by rfl) w.heap.size 70 i0 _ 4 40 Tryz.underlying40 hi hz0 hz1 hz2 rfl (by omega) v3 k inner (by rfl) ((hown.alloc _).drew)
            ⟨wr.heap.size, 0, none⟩ 1 1 (encH x) (by rfl) (by rfl) (World.news_of_block (cs := #[.string x.1.name, .int .i64 x.1.ver, .int .i64 x.1.dat.length, .int .i64 x.1.used]) (t := 70) (fr := (0, 0)) (heap_alloc_new wr _)) (by simp [Value.oneCell'])
            (by omega) (by unfold maxLen; omega) (by omega) (by simp; omega) (wr.heap.size + 1) (by simp) ?_; intro gg cap w2 hown1 hgrow hat hlt))
      have HN := Lib.hid (HM.out.next HX.out HRp.out hown _ hown1 hgrow hb0)
      clear hown1 hgrow hown hat hlt
      go_wp2_with fail
      go_roundw
      case rel => exact ⟨k + 1, by omega, by go_num, HN⟩
      case measure => simp [intOf]; omega
    · obtain rfl : k = d.length := by omega
      have hwL : (w.setCell ⟨p, 0, none⟩ (.int .i32 1)).heap.size = w.heap.size := by simp [World.setCell]
      have HS := Lib.hid (sortL_any H.out.keys _ wr w.heap.size d v3 HDP.out hd256 (by
        obtain ⟨inner, h1, h2⟩ := HM.out.row
        rw [List.take_length] at h2
        exact ⟨inner, h1, h2⟩) HM.out.below (by rw [hwL]; exact Nat.le_refl _))
      clear hwL
      go_wp2_with fail
      refine HS.out.mono ?_
      rintro e w5 ⟨rfl, hrow5, hbl5⟩
      have HR5 := Lib.hid hrow5
      have S5 := Lib.hid (S1.out.trans (Step.refl S1.out.is (show Below (w.setCell ⟨p, 0, none⟩ (.int .i32 1)).heap.size _ _ by simpa [World.setCell] using hbl5)))
      clear hrow5 hbl5
      go_wp2
      refine leaves_cons (f := 34) (args := #[.pointer (some ⟨p, 0, none⟩)]) (by simp) (by simp [go_sem]) ?_
      refine (unlock_deferred Tryz.muLib ⟨p, 0, none⟩ .returning _ S5.out.is.lockCell.1 S5.out.is.lockCell.2).mono ?_
      rintro e u' w'' ⟨rfl, rfl, rfl⟩
      have hpw : p < w.heap.size := H.out.lt (.inl rfl)
      refine ⟨_, results_tmp rfl _ _ _, v3, rfl, ?_, ?_⟩
      · obtain ⟨inner, h1, h2⟩ := HR5.out
        refine ⟨inner, row_farN h1 (Same.set (S := fun k => k = p) _ _ _ rfl) fun j hj e => ?_, h2⟩
        have := (row_tyN h1 hj).1
        omega
      · have := S5.out.unlock
        rwa [show ({ ({ L with lk := 1 } : Lay) with lk := 0 } : Lay) = L from unlk HL.out] at this
end Go.Proofs.YtancenklmfamnaaGreat.Sh
namespace Go.Proofs.YtancenklmfamnaaGreat.Sh
open Go.RowKit Go.Maps Go.Sort Go.Shelf
open Go.Proofs Go.MuLone
open Go.Proofs.YtancenklmfamnaaGreatW.PrintWords (Reps OwnRow)

/-- a shelf at rest -/
structure Rest (B : Nat) (w : World) (p : Nat) (L : Lay) : Prop where
  is : ShelfIs B w p L
  good : Good L
  lk : L.lk = 0
/-- one more model lies there -/
structure Laid (L L' : Lay) (nm : ByteArray) (ver : Int) (dat : List Int) (i : Nat) (new : LM) : Prop where
  pick : pickL L dat.length = some i
  name : new.name = nm
  ver_ : new.ver = ver
  dat_ : new.dat = dat
  used : new.used = 0
  touched : new.touched = L.touch + 1
  ms : L'.ms = keepL L ((unusedL L).take i) ++ [new]
  room : L'.room = L.room
  touch : L'.touch = L.touch + 1
  last : L'.last = setLast L.last nm (max ((L.lastOf nm).getD 0) ver)
theorem Rest.low {B p : Nat} {w : World} {L : Lay} (h : Rest B w p L) {k : Nat} (hk : Owned p L k) : B ≤ k := by
  obtain ⟨h1, h2, h3, h4, h5⟩ := h.is.low
  rcases hk with rfl | rfl | rfl | e | e
  · exact h1
  · exact h2
  · exact h3
  · obtain ⟨x, hx, rfl⟩ := List.mem_map.1 e
    exact h4 x hx
  · obtain ⟨x, hx, rfl⟩ := List.mem_map.1 e
    exact h5 x hx
theorem Step.base {B p b : Nat} {w0 w w' : World} {L L' : Lay} (h : Step B w w' p L L') (hr : Rest B w p L) (hb : Below b w0 w) (hB : b ≤ B) (hbw : b ≤ w0.heap.size) : Below b w0 w' :=
  ⟨h.1.1.trans hb.os, h.1.2.1.trans hb.tape, h.1.2.2.1.trans hb.output, Nat.le_trans hb.size h.size, fun k hk => (h.1.2.2.2.2 k (Nat.lt_of_lt_of_le (Nat.lt_of_lt_of_le hk hbw) hb.size) (fun ho => by have := hr.low ho; omega)).trans (hb.block k hk)⟩
theorem Rest.below {B p : Nat} {w w' : World} {L : Lay} (h : Rest B w p L) (hb : Below w.heap.size w w') : Rest B w' p L := ⟨h.is.below hb, h.good, h.lk⟩
theorem lastOf_laid {L L' : Lay} {nm : ByteArray} {ver : Int} {dat : List Int} {i : Nat} {new : LM} (h : Laid L L' nm ver dat i new) (s : ByteArray) : L'.lastOf s = if s = nm then some (max ((L.lastOf nm).getD 0) ver) else L.lastOf s := by
  simp only [Lay.lastOf]
  rw [h.last, find_set]
  split
  · simp [Lay.lastOf]
  · rfl
section
variable {B p : Nat} {w : World} {L : Lay}
theorem put_yes (h : Rest B w p L) (htc : L.touch < 4611686018427387904) (nm : ByteArray) (hn : Nm.nameOk nm = true) (sv : Value) (dat : List Int) (B0 : Nat) (hrow : RdB w sv dat)
    (hdl : dat.length ≤ 16777216) (hsv : ∀ k, sv.ownBlock = some k → ¬ Owned p L k) (hlast : (L.lastOf nm).getD 0 < 4611686018427387904) (hroom : ¬ NoRoom L nm dat.length) :
    Calls Tryz.prog 19 #[.pointer (some ⟨p, 0, none⟩), .string nm, sv] w fun e w' => e = .returned (.tuple #[.int .i64 ((L.lastOf nm).getD 0 + 1), .int .i64 0]) ∧ ∃ L' i new, Laid L L' nm ((L.lastOf nm).getD 0 + 1) dat i new ∧ Step B w w' p L L' ∧ Rest B w' p L' := by
  have hns := nameOk_size hn
  refine (put_any B p L w h.is h.good h.lk htc nm (by omega) sv dat B0 hrow (by omega) hsv).mono fun e w' hP => ?_
  rcases hP with ⟨h1, _⟩ | ⟨_, h1, _⟩ | ⟨_, _, h1, _⟩ | ⟨_, _, _, err, rfl, hP⟩
  · rw [hn] at h1; cases h1
  · omega
  · omega
  · rcases hP with ⟨_, _, h1⟩ | ⟨rfl, _, L', i, new, st, g, h1, h2, h3, h4, h5, h6, h7, h8, h9, h10, h11⟩
    · exact absurd h1 hroom
    · exact ⟨by simp, L', i, new, ⟨h1, h2, h3, h4, h5, h6, h7, h8, h9, h10⟩, st, ⟨st.is, g, h11.trans h.lk⟩⟩
theorem put_ver (h : Rest B w p L) (htc : L.touch < 4611686018427387904) (nm : ByteArray) (hn : Nm.nameOk nm = true) (sv : Value) (dat : List Int) (ver : Int) (hver : (L.lastOf nm).getD 0 + 1 = ver) (hv2 : ver ≤ 4611686018427387904) (hrow : RdB w sv dat)
    (hdl : dat.length ≤ 16777216) (hsv : ∀ k, sv.ownBlock = some k → ¬ Owned p L k) (hroom : ¬ NoRoom L nm dat.length) :
    Calls Tryz.prog 19 #[.pointer (some ⟨p, 0, none⟩), .string nm, sv] w fun e w' => e = .returned (.tuple #[.int .i64 ver, .int .i64 0]) ∧ ∃ L' i new, Laid L L' nm ver dat i new ∧ Step B w w' p L L' ∧ Rest B w' p L' := by
  subst hver
  exact put_yes h htc nm hn sv dat 0 hrow hdl hsv (by omega) hroom
theorem put_full (h : Rest B w p L) (htc : L.touch < 4611686018427387904) (nm : ByteArray) (hn : Nm.nameOk nm = true) (sv : Value) (dat : List Int) (B0 : Nat) (hrow : RdB w sv dat)
    (hdl : dat.length ≤ 16777216) (hsv : ∀ k, sv.ownBlock = some k → ¬ Owned p L k) (hlast : (L.lastOf nm).getD 0 < 4611686018427387904) (hroom : NoRoom L nm dat.length) :
    Calls Tryz.prog 19 #[.pointer (some ⟨p, 0, none⟩), .string nm, sv] w fun e w' => e = .returned (.tuple #[.int .i64 0, .int .i64 4]) ∧ Step B w w' p L L ∧ Rest B w' p L := by
  have hns := nameOk_size hn
  refine (put_any B p L w h.is h.good h.lk htc nm (by omega) sv dat B0 hrow (by omega) hsv).mono fun e w' hP => ?_
  rcases hP with ⟨h1, _⟩ | ⟨_, h1, _⟩ | ⟨_, _, h1, _⟩ | ⟨_, _, _, err, rfl, hP⟩
  · rw [hn] at h1; cases h1
  · omega
  · omega
  · rcases hP with ⟨rfl, st, h1⟩ | ⟨rfl, h0, _⟩
    · exact ⟨by simp, st, ⟨st.is, h.good, h.lk⟩⟩
    · exact absurd hroom h0
theorem layM_full (h : Rest B w p L) (htc : L.touch < 4611686018427387904) (nm : ByteArray) (hn : Nm.nameOk nm = true) (ver : Int) (hv : 1 ≤ ver ∧ ver ≤ 4611686018427387904) (sv : Value) (dat : List Int) (B0 : Nat) (hrow : RdB w sv dat)
    (hdl : dat.length ≤ 16777216) (hsv : ∀ k, sv.ownBlock = some k → ¬ Owned p L k) (hmod : L.modOf nm ver = none) (hroom : NoRoom L nm dat.length) :
    Calls Tryz.prog 23 #[.pointer (some ⟨p, 0, none⟩), .string nm, .int .i64 ver, sv] w fun e w' => e = .returned (.int .i64 4) ∧ Step B w w' p L L ∧ Rest B w' p L := by
  have hns := nameOk_size hn
  refine (layM_any B p L w h.is h.good h.lk htc nm (by omega) ver (wf_of hv) sv dat B0 hrow (by omega) hsv).mono fun e w' hP => ?_
  obtain ⟨err, rfl, hP⟩ := hP
  rcases hP with ⟨h1, _⟩ | ⟨_, h1, _⟩ | ⟨_, _, h1, _⟩ | ⟨_, _, _, h1, _⟩ | ⟨_, _, _, _, hP⟩
  · rw [hn] at h1; cases h1
  · omega
  · omega
  · rw [hmod] at h1; cases h1
  · rcases hP with ⟨rfl, st, h1⟩ | ⟨rfl, h0, _⟩
    · exact ⟨rfl, st, ⟨st.is, h.good, h.lk⟩⟩
    · exact absurd hroom h0
theorem Good.same {L L' : Lay} (g : Good L) (hms : L'.ms.map (fun m => (m.name, m.ver, m.dat)) = L.ms.map fun m => (m.name, m.ver, m.dat)) (h1 : L'.room = L.room) (h2 : L'.bytes = L.bytes) (h3 : L'.count = L.count) (h4 : 0 ≤ L'.touch) (h5 : ∀ m ∈ L'.ms, m.touched ≤ L'.touch) (h6 : (L'.ms.map (·.touched)).Nodup)
    (h7 : ∀ m ∈ L'.ms, 0 ≤ m.used ∧ m.used ≤ 2147483647) (h8 : L'.inn = L.inn) (h9 : L'.last = L.last) : Good L' := by
  have hmem : ∀ m ∈ L'.ms, ∃ m' ∈ L.ms, m'.name = m.name ∧ m'.ver = m.ver ∧ m'.dat = m.dat := fun m hm => by
    have : (m.name, m.ver, m.dat) ∈ L.ms.map fun m => (m.name, m.ver, m.dat) := hms ▸ List.mem_map_of_mem hm
    obtain ⟨m', hm', e⟩ := List.mem_map.1 this
    simp at e
    exact ⟨m', hm', e.1, e.2.1, e.2.2⟩
  have hsz : sizes L'.ms = sizes L.ms := by
    have e : ∀ l : List LM, sizes l = ((l.map fun m => (m.name, m.ver, m.dat)).map fun x => (x.2.2.length : Int)).sum := fun l => by
      induction l with
      | nil => rfl
      | cons x l ih => simp [sizes, sz] at ih ⊢; rw [ih]
    rw [e, e, hms]
  have hl : L'.ms.length = L.ms.length := by have := congrArg List.length hms; simpa using this
  refine ⟨by rw [h1]; exact g.room, by rw [h2, hsz]; exact g.bytes, by rw [h3, hl]; exact g.count, by rw [h2, h1]; exact g.fits, h4, h5, h6, h7, fun m hm => ?_, fun m hm => ?_, fun x hx => ?_, by rw [h9]; exact g.lasts, by rw [h9]; exact g.lastFew, fun m hm => ?_⟩
  · obtain ⟨m', hm', e1, e2, e3⟩ := hmem m hm
    rw [← e2]; exact g.vers m' hm'
  · obtain ⟨m', hm', e1, e2, e3⟩ := hmem m hm
    rw [← e1]; exact g.names m' hm'
  · rw [h8] at hx
    obtain ⟨m, hm, e⟩ := g.full x hx
    have : (m.name, m.ver, m.dat) ∈ L'.ms.map fun m => (m.name, m.ver, m.dat) := hms ▸ List.mem_map.2 ⟨m, hm, rfl⟩
    obtain ⟨m', hm', e2⟩ := List.mem_map.1 this
    simp at e2
    exact ⟨m', hm', e2.1.trans e⟩
  · obtain ⟨m', hm', e1, e2, e3⟩ := hmem m hm
    obtain ⟨v, a1, a2⟩ := g.known m' hm'
    refine ⟨v, ?_, by rw [← e2]; exact a2⟩
    rw [← e1]
    simp only [Lay.lastOf] at a1 ⊢
    rw [h9]
    exact a1
end
def takeF (b : Nat) (u t : Int) (x : LM) : LM := if x.blk = b then { x with used := u, touched := t } else x
theorem takeF_eq (b : Nat) (u t : Int) (l : List LM) : (l.map (setUsed b u)).map (setTouched b t) = l.map (takeF b u t) := by
  rw [List.map_map]
  refine List.map_congr_left fun x _ => ?_
  simp only [Function.comp_def, setUsed, setTouched, takeF]
  split <;> simp_all
theorem takeF_key (b : Nat) (u t : Int) (x : LM) : (takeF b u t x).name = x.name ∧ (takeF b u t x).ver = x.ver ∧ (takeF b u t x).dat = x.dat ∧ (takeF b u t x).blk = x.blk := by
  unfold takeF
  split <;> simp
def Lay.took (L : Lay) (m : LM) : Lay := { L with touch := L.touch + 1, ms := L.ms.map (takeF m.blk (m.used + 1) (L.touch + 1)) }
def Lay.gave (L : Lay) (m : LM) : Lay := { L with ms := L.ms.map (setUsed m.blk (m.used - 1)) }
theorem setUsed_key (b : Nat) (u : Int) (x : LM) : (setUsed b u x).name = x.name ∧ (setUsed b u x).ver = x.ver ∧ (setUsed b u x).dat = x.dat ∧ (setUsed b u x).blk = x.blk ∧ (setUsed b u x).touched = x.touched := by
  unfold setUsed
  split <;> simp
theorem took_nodup {l : List LM} {b : Nat} {u t : Int} (h1 : (l.map (·.touched)).Nodup) (h2 : (l.map (·.blk)).Nodup) (h3 : ∀ m ∈ l, m.touched < t) : ((l.map (takeF b u t)).map (·.touched)).Nodup := by
  rw [List.map_map]
  refine List.pairwise_map.2 (((List.pairwise_map.1 h1).and (List.pairwise_map.1 h2)).imp_of_mem fun {x y} hx hy ⟨e1, e2⟩ => ?_)
  simp only [Function.comp_def, takeF]
  have hx3 := h3 x hx
  have hy3 := h3 y hy
  split <;> split
  · rename_i a c
    exact absurd (a.trans c.symm) e2
  · simp; omega
  · simp; omega
  · exact e1
section
variable {B p : Nat} {w : World} {L : Lay}
theorem Good.took (g : Good L) (hb : (L.ms.map (·.blk)).Nodup) {m : LM} (hm : m ∈ L.ms) (hu : m.used < 2147483647) : Good (L.took m) := by
  have hus := g.used m hm
  refine g.same ?_ rfl rfl rfl (by have := g.touch; show 0 ≤ L.touch + 1; omega) (fun x hx => ?_) (took_nodup g.tnodup hb fun x hx => by have := g.touched x hx; omega) (fun x hx => ?_) rfl rfl
  · show (L.ms.map (takeF m.blk (m.used + 1) (L.touch + 1))).map _ = _
    rw [List.map_map]
    refine List.map_congr_left fun x _ => ?_
    obtain ⟨e1, e2, e3, _⟩ := takeF_key m.blk (m.used + 1) (L.touch + 1) x
    simp [Function.comp_def, e1, e2, e3]
  · obtain ⟨y, hy, rfl⟩ := List.mem_map.1 hx
    have := g.touched y hy
    show (takeF _ _ _ y).touched ≤ L.touch + 1
    unfold takeF
    split
    · exact Int.le_refl _
    · omega
  · obtain ⟨y, hy, rfl⟩ := List.mem_map.1 hx
    have := g.used y hy
    unfold takeF
    split
    · show 0 ≤ m.used + 1 ∧ m.used + 1 ≤ 2147483647
      omega
    · exact this
theorem Good.gave (g : Good L) {m : LM} (hm : m ∈ L.ms) (hu : 0 < m.used) : Good (L.gave m) := by
  have hus := g.used m hm
  refine g.same ?_ rfl rfl rfl g.touch (fun x hx => ?_) ?_ (fun x hx => ?_) rfl rfl
  · show (L.ms.map (setUsed m.blk (m.used - 1))).map _ = _
    rw [List.map_map]
    refine List.map_congr_left fun x _ => ?_
    obtain ⟨e1, e2, e3, _⟩ := setUsed_key m.blk (m.used - 1) x
    simp [Function.comp_def, e1, e2, e3]
  · obtain ⟨y, hy, rfl⟩ := List.mem_map.1 hx
    rw [(setUsed_key _ _ y).2.2.2.2]
    exact g.touched y hy
  · show ((L.ms.map (setUsed m.blk (m.used - 1))).map (·.touched)).Nodup
    rw [List.map_map]
    have : (L.ms.map ((·.touched) ∘ setUsed m.blk (m.used - 1))) = L.ms.map (·.touched) := List.map_congr_left fun x _ => (setUsed_key _ _ x).2.2.2.2
    rw [this]
    exact g.tnodup
  · obtain ⟨y, hy, rfl⟩ := List.mem_map.1 hx
    have := g.used y hy
    unfold setUsed
    split
    · show 0 ≤ m.used - 1 ∧ m.used - 1 ≤ 2147483647
      omega
    · exact this
theorem take_yes (h : Rest B w p L) (htc : L.touch < 4611686018427387904) (nm : ByteArray) (hnm : nm.size ≤ maxLen) (v : Int) (hv : (Lit.int .i64 v).wf = true) {m : LM} (hf : (L.find nm v true).1 = some m) (hu : m.used < 2147483647) :
    Calls Tryz.prog 20 #[.pointer (some ⟨p, 0, none⟩), .string nm, .int .i64 v] w fun e w' => ∃ v', e = .returned (.tuple #[v', .int .i64 m.ver, .int .i64 0]) ∧ w'.ownsRow w.heap.size 5 1 v' m.dat.length (m.dat.map encB) ∧
      (∀ k, v'.ownBlock = some k → ¬ Foot p (L.took m) k) ∧ Step B w w' p L (L.took m) ∧ Rest B w' p (L.took m) := by
  obtain ⟨hm, _⟩ := find_mem hf
  have ht : L.take nm v = (L.took m, some m, 0) := by
    unfold Lay.take
    rw [hf]
    simp only [Lay.took]
    rw [if_neg (by omega), takeF_eq]
  refine (take_any B p L w h.is h.good h.lk htc nm hnm v hv).mono fun e w' hP => ?_
  unfold TakeP at hP
  rw [ht] at hP
  obtain ⟨st, v', he, hr, hfo⟩ := hP
  exact ⟨v', he, hr, hfo, st, ⟨st.is, h.good.took h.is.blks hm hu, h.lk⟩⟩
theorem take_no (h : Rest B w p L) (htc : L.touch < 4611686018427387904) (nm : ByteArray) (hnm : nm.size ≤ maxLen) (v : Int) (hv : (Lit.int .i64 v).wf = true) (hf : (L.find nm v true).1 = none) :
    Calls Tryz.prog 20 #[.pointer (some ⟨p, 0, none⟩), .string nm, .int .i64 v] w fun e w' => e = .returned (.tuple #[.slice none 0 0, .int .i64 0, .int .i64 (L.find nm v true).2]) ∧ Step B w w' p L L ∧ Rest B w' p L := by
  have ht : L.take nm v = (L, none, (L.find nm v true).2) := by unfold Lay.take; rw [hf]
  refine (take_any B p L w h.is h.good h.lk htc nm hnm v hv).mono fun e w' hP => ?_
  unfold TakeP at hP
  rw [ht] at hP
  obtain ⟨st, he⟩ := hP
  exact ⟨he, st, ⟨st.is, h.good, h.lk⟩⟩
theorem give_yes (h : Rest B w p L) (nm : ByteArray) (hnm : nm.size ≤ maxLen) (v : Int) (hv : (Lit.int .i64 v).wf = true) {m : LM} (hf : (L.find nm v false).1 = some m) (hu : 0 < m.used) :
    Calls Tryz.prog 24 #[.pointer (some ⟨p, 0, none⟩), .string nm, .int .i64 v] w fun e w' => e = .returned (.int .i64 0) ∧ Step B w w' p L (L.gave m) ∧ Rest B w' p (L.gave m) := by
  obtain ⟨hm, _⟩ := find_mem hf
  have ht : L.give nm v = (L.gave m, 0) := by
    unfold Lay.give
    rw [hf]
    simp only [Lay.gave]
    rw [if_neg (by omega)]
  refine (give_any B p L w h.is h.good h.lk nm hnm v hv).mono fun e w' ⟨he, st⟩ => ?_
  rw [ht] at he st
  exact ⟨he, st, ⟨st.is, h.good.gave hm hu, h.lk⟩⟩
theorem list_yes (h : Rest B w p L) : Calls Tryz.prog 12 #[.pointer (some ⟨p, 0, none⟩)] w fun e w' => ∃ v, e = .returned v ∧ OwnRow RL 70 4 w' w.heap.size v (sortedN L) ∧ Step B w w' p L L ∧ Rest B w' p L :=
  (list_any B p L w h.is h.lk fun m hm => by have := h.good.size_le hm; have := h.good.fits; have := h.good.room; omega).mono fun e w' ⟨v, he, hr, st⟩ => ⟨v, he, hr, st, ⟨st.is, h.good, h.lk⟩⟩
theorem new_yes (n : Int) (w : World) (h1 : 1 ≤ n) (h2 : n ≤ 1099511627776) : Calls Tryz.prog 18 #[.int .i64 n] w fun e w' => ∃ p mm ml, e = .returned (.tuple #[.pointer (some ⟨p, 0, none⟩), .int .i64 0]) ∧ Below w.heap.size w w' ∧ Rest w.heap.size w' p (Lay.start n mm ml) :=
  (new_any n w h1 h2).mono fun e w' ⟨p, mm, ml, he, hb, hs⟩ => ⟨p, mm, ml, he, hb, hs, start_good h1 h2, rfl⟩
end
end Go.Proofs.YtancenklmfamnaaGreat.Sh
