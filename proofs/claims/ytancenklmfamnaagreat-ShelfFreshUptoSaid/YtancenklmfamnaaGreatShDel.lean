/- (*Shelf).victims. slices.DeleteFunc of the models in use. slices.SortFunc of the models by their touch. DeleteFunc and SortFunc of empty rows. -/
import Derived.Test.YtancenklmfamnaaGreatShIter
import Derived.Test.YtancenklmfamnaaGreatShelf
import Derived.Shelf.SlicesG.Cmp
import Derived.Shelf.RegionOpenPlain
import Derived.Test.YtancenklmfamnaaGreatVWords
import Derived.Lib.SliceRun
set_option linter.unusedVariables false
set_option linter.unusedSimpArgs false
namespace Go.Proofs.YtancenklmfamnaaGreat.Sh
open Go.RowKit Go.Maps Go.Sort Go.Shelf
open Go.Proofs

set_option maxHeartbeats 1000000 in
theorem used_any (b : Nat) (u : Int) (w : World) (h3 : w.cell? ⟨b, 3, none⟩ = some (.int .i64 u)) :
    Calls Tryz.prog 93 #[.pointer (some ⟨b, 0, none⟩)] w fun e w' => e = .returned (.bool (decide (0 < u))) ∧ w' = w := by
  go_enter Tryz.func93, Tryz.ntmps93
  go_wp2
  go_ret
  exact ⟨rfl, rfl⟩

set_option maxHeartbeats 1000000 in
theorem cmp_any (a b : Nat) (x y : Int) (w : World) (h3 : w.cell? ⟨a, 4, none⟩ = some (.int .i64 x)) (h4 : w.cell? ⟨b, 4, none⟩ = some (.int .i64 y)) :
    Calls Tryz.prog 95 #[.pointer (some ⟨a, 0, none⟩), .pointer (some ⟨b, 0, none⟩)] w fun e w' => e = .returned (.int .i64 (Lib.compareInt x y)) ∧ ∃ n, w' = w.drewN n := by
  have hcon := fun W' => AnyG.cmp_Compare_int Tryz.cmpI x y W'
  change ∀ W', Calls Tryz.prog 40 _ _ _ at hcon
  generalize Lib.compareInt x y = r at hcon ⊢
  go_enter Tryz.func95, Tryz.ntmps95
  go_wp2
  have mixed : Tryz.prog.follows Departure.mixedOrders = true := by kernel_rfl
  go_quiet_o (exact Calls.quiet_of_same (hcon _))
  go_wp2
  go_ret
  exact ⟨rfl, _, rfl⟩

theorem perm_map_inv {α β : Type} {f : α → β} {l l2 : List β} (h : l.Perm l2) : ∀ m : List α, l2 = m.map f → ∃ m' : List α, m'.Perm m ∧ l = m'.map f := by
  induction h with
  | nil => intro m e; exact ⟨[], by simp at e; rw [e], rfl⟩
  | cons x _ ih =>
    intro m e
    cases m with
    | nil => simp at e
    | cons a m0 =>
      simp at e
      obtain ⟨m', h1, h2⟩ := ih m0 e.2
      exact ⟨a :: m', h1.cons a, by simp [e.1, h2]⟩
  | swap x y l =>
    intro m e
    match m, e with
    | a :: b :: m0, e =>
      simp at e
      exact ⟨b :: a :: m0, .swap _ _ _, by simp [e.1, e.2.1, e.2.2]⟩
  | trans _ _ ih1 ih2 =>
    intro m e
    obtain ⟨m1, h1, h2⟩ := ih2 m e
    obtain ⟨m2, h3, h4⟩ := ih1 m1 h2
    exact ⟨m2, h3.trans h1, h4⟩

/-- the shelf's models, as elements -/
abbrev El (L : Lay) := { m : LM // m ∈ L.ms }
abbrev encM (L : Lay) (m : El L) : Value := .pointer (some ⟨m.1.blk, 0, none⟩)

theorem used_at {B p : Nat} {W W0 : World} {L : Lay} (h : ShelfIs B W0 p L) (hs : ∀ m ∈ L.ms, W.heap[m.blk]? = W0.heap[m.blk]?) (m : El L) :
    Calls Tryz.prog 93 #[encM L m] W fun e w' => e = .returned (.bool (decide (0 < m.1.used))) ∧ w' = W := by
  have h1 := (hs m.1 m.2).trans (h.mods m.1 m.2).1
  exact used_any m.1.blk m.1.used W ((Lib.cell_of_heap h1 3).trans rfl)
theorem cmp_at {B p : Nat} {W W0 : World} {L : Lay} (h : ShelfIs B W0 p L) (hs : ∀ m ∈ L.ms, W.heap[m.blk]? = W0.heap[m.blk]?) (m n : El L) :
    Calls Tryz.prog 95 #[encM L m, encM L n] W fun e w' => e = .returned (.int .i64 (Lib.compareInt m.1.touched n.1.touched)) ∧ ∃ q, w' = W.drewN q := by
  have h1 := (hs m.1 m.2).trans (h.mods m.1 m.2).1
  have h2 := (hs n.1 n.2).trans (h.mods n.1 n.2).1
  exact cmp_any m.1.blk n.1.blk m.1.touched n.1.touched W ((Lib.cell_of_heap h1 4).trans rfl) ((Lib.cell_of_heap h2 4).trans rfl)

theorem heap_putRow {α : Type} [Inhabited α] (enc : α → Value) (w : World) (blk off : Nat) (d : Array α) {k : Nat} (h : k ≠ blk) : (putRow enc w blk off d).heap[k]? = w.heap[k]? := by
  simp only [putRow, mapBlock, Array.getElem?_modify]
  rw [if_neg (fun e => h e.symm)]
theorem heap_sortWorld {α : Type} [Inhabited α] (enc : α → Value) (w : World) (blk off m : Nat) (d : Array α) (os : Array Obj) {k : Nat} (h : k ≠ blk) (hk : k < w.heap.size) : (sortWorld enc w blk off m d os).heap[k]? = w.heap[k]? := by
  unfold sortWorld
  rw [heap_grow_old _ _ (by simp [putRow, mapBlock]; exact hk), heap_putRow enc _ blk off d h]
  rfl

theorem mod_old {B p : Nat} {w : World} {L : Lay} (h : ShelfIs B w p L) {m : LM} (hm : m ∈ L.ms) : m.blk < w.heap.size := (Array.getElem?_eq_some_iff.1 (h.mods m hm).1).1

end Go.Proofs.YtancenklmfamnaaGreat.Sh
namespace Go.Proofs.YtancenklmfamnaaGreat.Sh
open Go.RowKit Go.Maps Go.Sort Go.Shelf
open Go.Proofs

/-- none of the first k is in use -/
def NoneUsed {L : Lay} (d : List (El L)) (k : Nat) : Prop := ∀ j x, j < k → d[j]? = some x → ¬ 0 < x.1.used
/-- the first in use is at k -/
def IdxOk {L : Lay} (d : List (El L)) (k : Nat) : Prop := k ≤ d.length ∧ NoneUsed d k ∧ ∀ x, d[k]? = some x → 0 < x.1.used

set_option maxHeartbeats 4000000 in
set_option maxRecDepth 1000000 in
theorem index_row {B p : Nat} {w0 : World} {L : Lay} (h : ShelfIs B w0 p L) (W : World) (hs : ∀ m ∈ L.ms, W.heap[m.blk]? = w0.heap[m.blk]?) (d : List (El L)) (A : Option Addr) (cap : Nat)
    (hc : ∀ j x, d[j]? = some x → ∃ blk, A = some ⟨blk, 0, none⟩ ∧ W.cell? ⟨blk, j, none⟩ = some (encM L x)) (hlen : d.length ≤ 256) :
    Calls Tryz.prog 110 #[.slice A d.length cap, .func (.func 93) #[] #[]] W fun e w' => ∃ k : Nat, IdxOk d k ∧
      e = .returned (.int .i64 (if k = d.length then -1 else (k : Int))) ∧ ∃ q, w' = W.drewN q := by
  have H := Lib.hid h
  have HS := Lib.hid hs
  have HC := Lib.hid hc
  clear h hs hc
  go_enter Tryz.func110, Tryz.ntmps110
  go_wp2
  go_loopw [8] (fun v8 wr => ∃ i q : Nat, i ≤ d.length ∧ v8 = .int .i64 i ∧ wr = W.drewN q ∧ NoneUsed d i) (fun v8 wr => d.length - (intOf v8).toNat)
  case atStart => exact ⟨0, 0, Nat.zero_le _, rfl, rfl, fun j x hj => absurd hj (Nat.not_lt_zero _)⟩
  case round =>
    obtain ⟨i, q, hi, rfl, rfl, HI⟩ := hrel
    by_cases hlt : i < d.length
    · obtain ⟨x, hx⟩ : ∃ x, d[i]? = some x := ⟨d[i], List.getElem?_eq_getElem hlt⟩
      obtain ⟨blk, rfl, hcx⟩ := HC.out i x hx
      have hcx2 : (W.drewN q).cell? ⟨blk, i, none⟩ = some (encM L x) := hcx
      have HX := Lib.hid hx
      clear hx hcx
      go_wp2_with (go_at_call 93; ((refine (used_at H.out (W := W.drewN q) HS.out x).mono ?_); rintro e w1 ⟨rfl, rfl⟩))
      · rename_i hu
        go_ret
        refine ⟨i, ⟨hi, HI, fun y hy => ?_⟩, by rw [if_neg (by omega)]; rfl, q, rfl⟩
        have := HX.out.symm.trans hy
        cases this
        first | exact hu | simpa using hu
      · rename_i hu
        refine ⟨⟨i + 1, q, by omega, by go_num, rfl, fun j y hj hy => ?_⟩, by simp [intOf]; omega⟩
        by_cases e : j = i
        · subst e
          have := HX.out.symm.trans hy
          cases this
          first | exact hu | simpa using hu
        · exact HI j y (by omega) hy
    · go_wp2
      go_ret
      have e : i = d.length := by omega
      exact ⟨i, ⟨hi, HI, fun x hx => by have := (List.getElem?_eq_some_iff.1 hx).1; omega⟩, by simp [e], q, rfl⟩

def unused {L : Lay} (x : El L) : Bool := !decide (0 < x.1.used)
/-- the row in the midst of it: k written, i read -/
def Mid {L : Lay} (W : World) (blk : Nat) (d : List (El L)) (cap i k : Nat) : Prop :=
  k ≤ i ∧ i ≤ d.length ∧ (∃ cur, W.heap[blk]? = some (.cells cur 91 (0, 0)) ∧ cur.size = cap ∧ (∀ (j : Nat) (x : El L), ((d.take i).filter unused)[j]? = some x → cur[j]? = some (encM L x)) ∧ ∀ (j : Nat) (x : El L), i ≤ j → d[j]? = some x → cur[j]? = some (encM L x)) ∧ ((d.take i).filter unused).length = k

theorem take_keep {L : Lay} {d : List (El L)} {i : Nat} {x : El L} (hx : d[i]? = some x) (hu : ¬ 0 < x.1.used) : (d.take (i + 1)).filter unused = (d.take i).filter unused ++ [x] := by
  rw [List.take_add_one, hx, List.filter_append]
  simp [unused]
  omega
theorem take_drop {L : Lay} {d : List (El L)} {i : Nat} {x : El L} (hx : d[i]? = some x) (hu : 0 < x.1.used) : (d.take (i + 1)).filter unused = (d.take i).filter unused := by
  rw [List.take_add_one, hx, List.filter_append]
  simp [unused]
  omega
theorem Mid.skip {L : Lay} {W : World} {blk cap i k : Nat} {d : List (El L)} (h : Mid W blk d cap i k) {x : El L} (hx : d[i]? = some x) (hu : 0 < x.1.used) : Mid W blk d cap (i + 1) k := by
  obtain ⟨h1, h2, ⟨cur, h3, h4, h5, h6⟩, h7⟩ := h
  have := (List.getElem?_eq_some_iff.1 hx).1
  exact ⟨by omega, by omega, ⟨cur, h3, h4, by rw [take_drop hx hu]; exact h5, fun j y hj hy => h6 j y (by omega) hy⟩, by rw [take_drop hx hu]; exact h7⟩
theorem Mid.keep {L : Lay} {W : World} {blk cap i k : Nat} {d : List (El L)} (h : Mid W blk d cap i k) (hcap : d.length ≤ cap) {x : El L} (hx : d[i]? = some x) (hu : ¬ 0 < x.1.used) : Mid (W.setCell ⟨blk, k, none⟩ (encM L x)) blk d cap (i + 1) (k + 1) := by
  obtain ⟨h1, h2, ⟨cur, h3, h4, h5, h6⟩, h7⟩ := h
  have hi := (List.getElem?_eq_some_iff.1 hx).1
  refine ⟨by omega, by omega, ⟨_, YtancenklmfamnaaGreatW.PrintWords.blk_set h3 k (encM L x), by simpa using h4, fun j y hj => ?_, fun j y hj hy => ?_⟩, by rw [take_keep hx hu]; simp [h7]⟩
  · rw [take_keep hx hu] at hj
    by_cases e : j < k
    · rw [Array.getElem?_setIfInBounds_ne (by omega)]
      rw [List.getElem?_append_left (by omega)] at hj
      exact h5 j y hj
    · have h8 := (List.getElem?_eq_some_iff.1 hj).1
      simp [h7] at h8
      obtain rfl : j = k := by omega
      rw [List.getElem?_append_right (by omega), h7] at hj
      simp at hj
      subst hj
      rw [Array.getElem?_setIfInBounds_self_of_lt (by omega)]
  · rw [Array.getElem?_setIfInBounds_ne (by omega)]
    exact h6 j y (by omega) hy
theorem zero72d (w : World) : (zeroValue 91).run Tryz.prog w = .ok (.pointer none) w := by kernel_rfl

set_option maxHeartbeats 4000000 in
set_option maxRecDepth 1000000 in
theorem del_row {B p : Nat} {w0 : World} {L : Lay} (h : ShelfIs B w0 p L) (W : World) (hs : ∀ m ∈ L.ms, W.heap[m.blk]? = w0.heap[m.blk]?) (d : List (El L)) (blk cap : Nat) (hne : d ≠ []) (hb : ∀ m ∈ L.ms, m.blk ≠ blk) (hcap : d.length ≤ cap) (hcm : cap ≤ maxLen)
    (cur : Array Value) (hrow : W.heap[blk]? = some (.cells cur 91 (0, 0))) (hsz : cur.size = cap) (hc : ∀ (j : Nat) (x : El L), d[j]? = some x → cur[j]? = some (encM L x)) (hlen : d.length ≤ 256) :
    Calls Tryz.prog 92 #[.slice (some ⟨blk, 0, none⟩) d.length cap, .func (.func 93) #[] #[]] W fun e w' => e = .returned (.slice (some ⟨blk, 0, none⟩) (d.filter unused).length cap) ∧ Same (fun k => k = blk) W w' ∧
      ∃ cur', w'.heap[blk]? = some (.cells cur' 91 (0, 0)) ∧ cur'.size = cap ∧ ∀ (j : Nat) (x : El L), (d.filter unused)[j]? = some x → cur'[j]? = some (encM L x) := by
  have H := Lib.hid h
  have HS := Lib.hid hs
  have HC := Lib.hid hc
  have HR := Lib.hid hrow
  have hix := index_row h W hs d (some ⟨blk, 0, none⟩) cap (fun j x hx => ⟨blk, rfl, by rw [Lib.cell_of_heap hrow]; exact hc j x hx⟩) hlen
  clear h hs hc hrow
  by_cases hu : NoneUsed d d.length
  · have hA : Calls Tryz.prog 110 #[.slice (some ⟨blk, 0, none⟩) d.length cap, .func (.func 93) #[] #[]] W fun e w' => e = .returned (.int .i64 (-1)) ∧ ∃ q, w' = W.drewN q := hix.mono fun e w' ⟨k, hk, he, hq⟩ => by
      have hkd : k = d.length := by
        by_cases hlt : k < d.length
        · exact absurd (hk.2.2 _ (List.getElem?_eq_getElem hlt)) (hu k _ hlt (List.getElem?_eq_getElem hlt))
        · have := hk.1
          omega
      exact ⟨by rw [he, if_pos hkd], hq⟩
    have hf : d.filter unused = d := List.filter_eq_self.2 fun x hx => by
      obtain ⟨j, hj⟩ := List.getElem?_of_mem hx
      have := hu j x (List.getElem?_eq_some_iff.1 hj).1 hj
      simp [unused]
      omega
    clear hix
    have HU := Lib.hid hu
    have HF := Lib.hid hf
    clear hu hf
    go_enter Tryz.func92, Tryz.ntmps92
    go_wp2_with (go_at_call 110; ((refine hA.mono ?_); rintro e w1 ⟨rfl, q, rfl⟩))
    go_ret
    rw [HF.out]
    exact ⟨rfl, ⟨rfl, rfl, rfl, Nat.le_refl _, fun _ _ _ => rfl⟩, cur, HR.out, hsz, HC.out⟩
  · have hB : Calls Tryz.prog 110 #[.slice (some ⟨blk, 0, none⟩) d.length cap, .func (.func 93) #[] #[]] W fun e w' => ∃ k : Nat, k < d.length ∧ IdxOk d k ∧ e = .returned (.int .i64 k) ∧ ∃ q, w' = W.drewN q := hix.mono fun e w' ⟨k, hk, he, hq⟩ => by
      have hkd : k < d.length := by
        by_cases e : k = d.length
        · exact absurd (e ▸ hk.2.1) hu
        · have := hk.1
          omega
      exact ⟨k, hkd, hk, by rw [he, if_neg (by omega)], hq⟩
    clear hix hu
    go_enter Tryz.func92, Tryz.ntmps92
    go_wp2_with (go_at_call 110; ((refine hB.mono ?_); rintro e w1 ⟨k0, hk0, hok, rfl, q, rfl⟩; have HOK := Lib.hid hok; clear hok))
    go_loopw [5, 6] (fun v5 v6 wr => ∃ i k : Nat, v5 = .int .i64 k ∧ v6 = .int .i64 i ∧ Mid wr blk d cap i k ∧ k < i ∧ Same (fun k => k = blk) W wr) (fun v5 v6 wr => d.length - (intOf v6).toNat)
    case atStart =>
      refine ⟨k0 + 1, k0, rfl, by go_num, ?_, by omega, ⟨rfl, rfl, rfl, Nat.le_refl _, fun _ _ _ => rfl⟩⟩
      have hfk : (d.take k0).filter unused = d.take k0 := List.filter_eq_self.2 fun x hx => by
        obtain ⟨j, hj⟩ := List.getElem?_of_mem hx
        have hjk : j < k0 := by
          have := (List.getElem?_eq_some_iff.1 hj).1
          simp at this
          omega
        rw [List.getElem?_take_of_lt hjk] at hj
        have := HOK.out.2.1 j x hjk hj
        simp [unused]
        omega
      have hx : d[k0]? = some (d[k0]'hk0) := List.getElem?_eq_getElem hk0
      have hd := take_drop hx (HOK.out.2.2 _ hx)
      refine ⟨by omega, by omega, ⟨cur, HR.out, hsz, fun j x hj => ?_, fun j x _ hj => HC.out j x hj⟩, by rw [hd, hfk]; simp; omega⟩
      rw [hd, hfk] at hj
      have hjk : j < k0 := by
        have := (List.getElem?_eq_some_iff.1 hj).1
        simp at this
        omega
      rw [List.getElem?_take_of_lt hjk] at hj
      exact HC.out j x hj
    case round =>
      obtain ⟨i, k, rfl, rfl, hM, hkl, hS⟩ := hrel
      have HM := Lib.hid hM
      have HSm := Lib.hid hS
      obtain ⟨hki, hil, ⟨cur2, hc2, hsz2, _, hrest⟩, hlenk⟩ := hM
      have hfz : wr.frozen? ⟨blk, k, none⟩ = false := Lib.frozen_of_heap hc2 k
      have hck : ∃ u, wr.cell? ⟨blk, k, none⟩ = some u := ⟨cur2[k]'(by omega), by rw [Lib.cell_of_heap hc2]; exact Array.getElem?_eq_getElem _⟩
      obtain ⟨uk, hck⟩ := hck
      by_cases hlt : i < d.length
      · obtain ⟨x, hx⟩ : ∃ x, d[i]? = some x := ⟨d[i], List.getElem?_eq_getElem hlt⟩
        have hcx : wr.cell? ⟨blk, i, none⟩ = some (encM L x) := by rw [Lib.cell_of_heap hc2]; exact hrest i x (Nat.le_refl _) hx
        have HX := Lib.hid hx
        have hsm : ∀ m ∈ L.ms, wr.heap[m.blk]? = w0.heap[m.blk]? := fun m hm => (hS.2.2.2.2 m.blk (by
          have h1 := (HS.out m hm).trans (H.out.mods m hm).1
          exact (Array.getElem?_eq_some_iff.1 h1).1) (hb m hm)).trans (HS.out m hm)
        have HSW := Lib.hid hsm
        clear hx hS hc2 hrest hlenk hsm
        go_wp2_with (go_at_call 93; ((refine (used_at H.out (W := wr) HSW.out x).mono ?_); rintro e w2 ⟨rfl, rfl⟩))
        · rename_i hu
          go_roundw
          case rel =>
            refine ⟨_, _, _, _, _, _, _, _, _, _, _, _, _, _, _, _, _, _, _, _, _, _, _, ?_, rfl⟩
            exact ⟨i + 1, k + 1, by go_num, by go_num, HM.out.keep hcap HX.out (by first | exact hu | omega | simpa using hu), by omega, HSm.out.trans (Same.set _ _ _ rfl)⟩
          case measure => simp [intOf]; omega
        · rename_i hu
          go_roundw
          case rel =>
            refine ⟨_, _, _, _, _, _, _, _, _, _, _, _, _, _, _, _, _, _, _, _, _, _, _, ?_, rfl⟩
            exact ⟨i + 1, k, rfl, by go_num, HM.out.skip HX.out (by first | exact hu | omega | simpa using hu), by omega, HSm.out⟩
          case measure => simp [intOf]; omega
      · obtain rfl : i = d.length := by omega
        have hcl : ∀ ty, (Builtin.clear_ #[89] ty #[.slice (some ⟨blk, k, none⟩) (d.length - k) (cap - k)]).run Tryz.prog wr = .ok (.tuple #[]) (wr.setCells blk k (List.replicate (d.length - k) (.pointer none))) :=
          fun ty => Lib.run_clear_slice wr 89 91 ty (.pointer none) Tryz.underlying89 zero72d rfl rfl blk k _ _ (by omega) (fun t ht => by rw [Lib.cell_of_heap hc2]; simp; omega) (fun t ht => Lib.frozen_of_heap hc2 _)
        obtain ⟨cur3, h3, h4, h5⟩ := YtancenklmfamnaaGreatW.PrintWords.setCells_row (List.replicate (d.length - k) (.pointer none)) k wr cur2 hc2 (by simp; omega)
        have hsame := YtancenklmfamnaaGreatW.PrintWords.setCells_same blk (List.replicate (d.length - k) (.pointer none)) k wr
        have HR3 := Lib.hid (And.intro h3 (And.intro h4 h5))
        have HSS := Lib.hid hsame
        have HC2 := Lib.hid hc2
        clear hS hc2 hrest hlenk h3 h4 h5 hsame
        go_wp2
        go_ret
        obtain ⟨cur4, h6, h7, h8, h9⟩ := id HM.out.2.2.1
        have hlk : (d.filter unused).length = k := by have := HM.out.2.2.2; rwa [List.take_length] at this
        refine ⟨by rw [hlk]; rfl, HSm.out.trans ⟨HSS.out.1, HSS.out.2.1, HSS.out.2.2.1, by rw [HSS.out.2.2.2]; exact Nat.le_refl _, fun j hj hS => YtancenklmfamnaaGreatW.PrintWords.setCells_far _ _ _ hS⟩, cur3, HR3.out.1, by rw [HR3.out.2.1, hsz2], fun j x hj => ?_⟩
        have hjk : j < k := by rw [← hlk]; exact (List.getElem?_eq_some_iff.1 hj).1
        rw [← Array.getElem?_toList, HR3.out.2.2, List.append_assoc, List.getElem?_append_left (by simp; omega), List.getElem?_take_of_lt hjk, Array.getElem?_toList]
        have e : cur4 = cur2 := by
          have h10 := HC2.out.symm.trans h6
          cases h10
          rfl
        rw [← e]
        exact h8 j x (by rw [List.take_length]; exact hj)
end Go.Proofs.YtancenklmfamnaaGreat.Sh
namespace Go.Proofs.YtancenklmfamnaaGreat.Sh
open Go.RowKit Go.Maps Go.Sort Go.Shelf
open Go.Proofs

def cfM {L : Lay} (x y : El L) : Int := Lib.compareInt x.1.touched y.1.touched
theorem ltM {L : Lay} (x y : El L) : ltOf cfM x y = decide (x.1.touched < y.1.touched) := by
  unfold ltOf cfM Lib.compareInt
  split
  · simp; omega
  · split <;> simp <;> omega
theorem swoM {L : Lay} : SWO (ltOf (cfM (L := L))) where
  irrefl x := by rw [ltM]; simp
  trans x y z h1 h2 := by rw [ltM] at *; simp at *; omega
  ntrans x y z h1 h2 := by rw [ltM] at *; simp at *; omega
/-- by touch -/
def byTouch {L : Lay} (d : List (El L)) : List (El L) := d.mergeSort fun x y => !ltOf cfM y x

theorem sort_row {B p : Nat} {w0 : World} {L : Lay} (h : ShelfIs B w0 p L) (ht : (L.ms.map (·.touched)).Nodup) (W : World) (hs : ∀ m ∈ L.ms, W.heap[m.blk]? = w0.heap[m.blk]?) (d : List (El L)) (blk cap : Nat) (hne : d ≠ []) (hb : ∀ m ∈ L.ms, m.blk ≠ blk)
    (cur : Array Value) (hrow : W.heap[blk]? = some (.cells cur 91 (0, 0))) (hc : ∀ (j : Nat) (x : El L), d[j]? = some x → cur[j]? = some (encM L x)) (hlen : d.length ≤ 256) :
    Calls Tryz.prog 94 #[.slice (some ⟨blk, 0, none⟩) d.length cap, .func (.func 95) #[] #[]] W fun e w' => e = .returned (.tuple #[]) ∧ Same (fun k => k = blk) W w' ∧
      ∃ cur', w'.heap[blk]? = some (.cells cur' 91 (0, 0)) ∧ cur'.size = cur.size ∧ ∀ (j : Nat) (x : El L), (byTouch d)[j]? = some x → cur'[j]? = some (encM L x) := by
  haveI : Inhabited (El L) := ⟨d.head hne⟩
  have hblk : blk < W.heap.size := (Array.getElem?_eq_some_iff.1 hrow).1
  have hsz : d.length ≤ cur.size := by
    by_cases e : d.length = 0
    · omega
    · have := hc (d.length - 1) _ (List.getElem?_eq_getElem (by omega))
      have := (Array.getElem?_eq_some_iff.1 this).1
      omega
  have hcmp : CmpLays1 Tryz.prog 95 #[] (encM L) cfM blk 0 d.toArray.size W := CmpReads.lays fun m os dk hsd x y => by
    refine (show Calls Tryz.prog 95 #[encM L x, encM L y] _ _ from cmp_at h (W := sortWorld (encM L) W blk 0 m dk os) (fun m' hm' => ?_) x y)
    have h1 := (hs m' hm').trans (h.mods m' hm').1
    exact (heap_sortWorld _ W blk 0 m dk os (hb m' hm') (Array.getElem?_eq_some_iff.1 h1).1).trans (hs m' hm')
  have hH : Holds (encM L) W blk 0 d.toArray := fun j hj => by
    have hj' : j < d.length := by simpa using hj
    rw [Nat.zero_add, Lib.cell_of_heap hrow]
    refine ⟨?_, Lib.frozen_of_heap hrow _⟩
    rw [hc j _ (List.getElem?_eq_getElem hj')]
    simp [hj']
  have hT : ∀ x y : El L, ltOf cfM x y = false → ltOf cfM y x = false → x = y := fun x y h1 h2 => by
    rw [ltM] at h1 h2
    simp at h1 h2
    exact Subtype.ext (map_inj ht x.2 y.2 (by omega))
  have hcon := Any.slices_SortFunc_total Tryz.sortP (encM L) (fun _ => rfl) cfM swoM 95 #[] blk 0 cap d.toArray W (enters_of Tryz.func95 (by kernel_rfl) rfl) hcmp hH hblk (by simp; omega) hT
  change Calls Tryz.prog 94 _ _ _ at hcon
  refine (show Calls Tryz.prog 94 #[.slice (some ⟨blk, 0, none⟩) d.length cap, .func (.func 95) #[] #[]] W _ from by simpa using hcon).mono ?_
  rintro e w' ⟨he, n, os, rfl⟩
  have hms : (d.mergeSort fun x y => !ltOf cfM y x) = byTouch d := rfl
  have hlb : (byTouch d).length = d.length := List.length_mergeSort _
  refine ⟨he, ⟨rfl, rfl, rfl, by simp [sortWorld, grow, putRow, mapBlock], fun k hk hS => heap_sortWorld _ W blk 0 n _ os hS hk⟩, putCells (encM L) 0 (byTouch d).toArray cur, ?_, by simp [putCells], fun j x hj => ?_⟩
  · unfold sortWorld
    rw [heap_grow_old _ _ (by simp [putRow, mapBlock]; exact hblk)]
    simp only [putRow, mapBlock, Array.getElem?_modify, if_true]
    rw [show (Sort.ahead W n).heap[blk]? = some (.cells cur 91 (0, 0)) from hrow]
    rfl
  · have hjl := (List.getElem?_eq_some_iff.1 hj).1
    have hjc : j < cur.size := by omega
    simp only [putCells, Array.getElem?_mapIdx, Array.getElem?_eq_getElem hjc, Option.map_some]
    rw [if_pos ⟨Nat.zero_le _, by simpa using hjl⟩]
    simp [List.getElem?_eq_getElem hjl] at hj
    simp [hjl, hj]
end Go.Proofs.YtancenklmfamnaaGreat.Sh
namespace Go.Proofs.YtancenklmfamnaaGreat.Sh
open Go.RowKit Go.Maps Go.Sort Go.Shelf
open Go.Proofs

set_option maxHeartbeats 2000000 in
set_option maxRecDepth 1000000 in
theorem del_empty (A : Option Addr) (cap : Nat) (W : World) :
    Calls Tryz.prog 92 #[.slice A 0 cap, .func (.func 93) #[] #[]] W fun e w' => e = .returned (.slice A 0 cap) ∧ ∃ q, w' = W.drewN q := by
  have hix : Calls Tryz.prog 110 #[.slice A 0 cap, .func (.func 93) #[] #[]] W fun e w' => e = .returned (.int .i64 (-1)) ∧ w' = W := by
    go_enter Tryz.func110, Tryz.ntmps110
    go_wp2
    go_loop [8] (fun v8 => v8 = .int .i64 0) (fun v8 => 0)
    case atStart => rfl
    case round =>
      subst hrel
      go_wp2
      go_ret
      exact ⟨rfl, rfl⟩
  go_enter Tryz.func92, Tryz.ntmps92
  go_wp2_with (go_at_call 110; ((refine hix.mono ?_); rintro e w1 ⟨rfl, rfl⟩))
  go_ret
  exact ⟨rfl, 0, rfl⟩

set_option maxHeartbeats 2000000 in
set_option maxRecDepth 1000000 in
theorem len64_zero (W : World) : Calls Tryz.prog 90 #[.int .u64 0] W fun e w' => (∃ r, e = .returned (.int .i64 r)) ∧ w' = W := by
  go_enter Tryz.func90, Tryz.ntmps90
  go_wp2
  go_ret
  exact ⟨⟨_, rfl⟩, rfl⟩
set_option maxHeartbeats 2000000 in
set_option maxRecDepth 1000000 in
theorem len_zero (W : World) : Calls Tryz.prog 62 #[.int .u64 0] W fun e w' => (∃ r, e = .returned (.int .i64 r)) ∧ w' = W := by
  go_enter Tryz.func62, Tryz.ntmps62
  go_wp2_with (go_at_call 90; ((refine (len64_zero _).mono ?_); rintro e w1 ⟨⟨r, rfl⟩, rfl⟩))
  go_ret
  exact ⟨⟨_, rfl⟩, rfl⟩
set_option maxHeartbeats 2000000 in
set_option maxRecDepth 1000000 in
theorem ins_zero (A : Option Addr) (cap : Nat) (W : World) : Calls Tryz.prog 113 #[.slice A 0 cap, .int .i64 0, .int .i64 0, .func (.func 95) #[] #[]] W fun e w' => e = .returned (.tuple #[]) ∧ w' = W := by
  go_enter Tryz.func113, Tryz.ntmps113
  go_wp2
  go_loop [8] (fun v8 => v8 = .int .i64 1) (fun v8 => 0)
  case atStart => rfl
  case round =>
    subst hrel
    go_wp2
    go_end0
    exact ⟨rfl, rfl⟩
set_option maxHeartbeats 2000000 in
set_option maxRecDepth 1000000 in
theorem pdq_zero (A : Option Addr) (cap : Nat) (r : Int) (W : World) : Calls Tryz.prog 111 #[.slice A 0 cap, .int .i64 0, .int .i64 0, .int .i64 r, .func (.func 95) #[] #[]] W fun e w' => e = .returned (.tuple #[]) ∧ w' = W := by
  go_enter Tryz.func111, Tryz.ntmps111
  go_wp2
  go_loop [1, 2] (fun a b => a = .int .i64 0 ∧ b = .int .i64 0) (fun a b => 0)
  case atStart => exact ⟨rfl, rfl⟩
  case round =>
    obtain ⟨rfl, rfl⟩ := hrel
    go_wp2_with (go_at_call 113; ((refine (ins_zero _ _ _).mono ?_); rintro e w1 ⟨rfl, rfl⟩))
    exact bodyPost_ret (results_none rfl _ _ _) rfl ⟨rfl, rfl⟩
set_option maxHeartbeats 2000000 in
set_option maxRecDepth 1000000 in
theorem sort_empty (A : Option Addr) (cap : Nat) (W : World) :
    Calls Tryz.prog 94 #[.slice A 0 cap, .func (.func 95) #[] #[]] W fun e w' => e = .returned (.tuple #[]) ∧ ∃ q, w' = W.drewN q := by
  go_enter Tryz.func94, Tryz.ntmps94
  go_wp2_with (first | (go_at_call 62; ((refine (len_zero _).mono ?_); rintro e w1 ⟨⟨r, rfl⟩, rfl⟩)) | (go_at_call 111; ((refine (pdq_zero _ _ _ _).mono ?_); rintro e w1 ⟨rfl, rfl⟩)))
  go_end0
  exact ⟨rfl, 0, rfl⟩
end Go.Proofs.YtancenklmfamnaaGreat.Sh
