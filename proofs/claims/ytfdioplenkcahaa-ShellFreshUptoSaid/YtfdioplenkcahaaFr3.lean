/- heddlelaw31's Book.take, walked. -/
import Derived.Test.YtfdioplenkcahaaFr2
import Derived.Deep.DeepMust
set_option linter.unusedVariables false
set_option linter.unusedSimpArgs false
namespace Go.Proofs.Ytfdioplenkcahaa.Fresh
open Go.RowKit Go.Proofs.Ytfdioplenkcahaa.PShellFresh Go.Proofs.YtfdioplenkcahaaW.PrintWords Go.Proofs.YtfdioplenkcahaaW.PrintLast Go.Proofs.YtfdioplenkcahaaW.PrintMore

theorem Row.move {W W1 : World} {x : Value} {m : ByteArray} (h : Row W x m) (hm : ∀ k, x.ownBlock = some k → W1.heap[k]? = W.heap[k]?) : Row W1 x m := by
  rcases h with rfl | ⟨b, n, c, cur, rfl, h1, h2, h3, h4⟩
  · exact .inl rfl
  · exact .inr ⟨b, n, c, cur, rfl, h1, h2, (hm b rfl).trans h3, h4⟩
theorem Row.typed {W : World} {x : Value} {m : ByteArray} (h : Row W x m) {k : Nat} (hk : x.ownBlock = some k) : ∃ cur, W.heap[k]? = some (.cells cur 9 (0, 0)) := by
  rcases h with rfl | ⟨b, n, c, cur, rfl, h1, h2, h3, h4⟩
  · cases hk
  · obtain rfl := Option.some.inj hk
    exact ⟨cur, h3⟩
theorem ty_ne {W : World} {k k' : Nat} {c c' : Array Value} {t t' : TypeId} (h : W.heap[k]? = some (.cells c t (0, 0))) (h' : W.heap[k']? = some (.cells c' t' (0, 0))) (hne : t ≠ t') : k ≠ k' := by
  rintro rfl
  rw [h] at h'
  injection h' with h'
  injection h' with _ h'
  exact hne h'
theorem own_ty {W : World} {B n : Nat} {v : Value} {xs : List Value} (h : W.ownsRow B 22 1 v n xs) {k : Nat} (hk : v.ownBlock = some k) : B ≤ k ∧ ∃ cur, W.heap[k]? = some (.cells cur 22 (0, 0)) := by
  rcases h.2 with ⟨rfl, _⟩ | ⟨g, cap, cur, rfl, hB, h2, _⟩
  · cases hk
  · obtain rfl := Option.some.inj hk
    exact ⟨hB, cur, h2⟩

/-- a slice of strings of the call's own, from the head of its block on -/
def Lst (W : World) (A : Option Addr) (n cap : Nat) : Prop :=
  (A = none ∧ n = 0 ∧ cap = 0) ∨ ∃ b cur, A = some ⟨b, 0, none⟩ ∧ n ≤ cap ∧ cap ≤ maxLen ∧ W.heap[b]? = some (.cells cur 9 (0, 0)) ∧ cur.size = cap
theorem Lst.move {W W1 : World} {A : Option Addr} {n cap : Nat} (h : Lst W A n cap) (hm : ∀ k, A.map (·.block) = some k → W1.heap[k]? = W.heap[k]?) : Lst W1 A n cap := by
  rcases h with h | ⟨b, cur, rfl, h1, h2, h3, h4⟩
  · exact .inl h
  · exact .inr ⟨b, cur, rfl, h1, h2, (hm b rfl).trans h3, h4⟩
theorem Lst.typed {W : World} {A : Option Addr} {n cap k : Nat} (h : Lst W A n cap) (hk : A.map (·.block) = some k) : ∃ cur, W.heap[k]? = some (.cells cur 9 (0, 0)) := by
  rcases h with ⟨rfl, _⟩ | ⟨b, cur, rfl, h1, h2, h3, h4⟩
  · cases hk
  · obtain rfl := Option.some.inj hk
    exact ⟨cur, h3⟩

theorem most_ex (n cap : Nat) (hn : n ≤ cap) (hc : n ≤ 1099511627776) : ∃ M : Nat, heddlelaw31_most.f (n : Int) (cap : Int) = some (M : Int) ∧ n ≤ M ∧ M ≤ cap ∧ M ≤ n + 70000 := by
  have w1 : wrap64 ((n : Int) + 70000) = ((n + 70000 : Nat) : Int) := by unfold wrap64; omega
  unfold heddlelaw31_most.f
  rw [w1]
  by_cases h : (cap : Int) > ((n + 70000 : Nat) : Int)
  · exact ⟨n + 70000, by rw [if_pos h], by omega, by omega, by omega⟩
  · exact ⟨cap, by rw [if_neg h], hn, Nat.le_refl _, by omega⟩

/-- what taking a list leaves -/
def TakeEnd (wd : Nat → ByteArray) (B : Nat) (w w' : World) (g : Nat) (xs : List Value) (A : Option Addr) : Prop :=
  ∃ xs' much', BookIs B w' g xs' much' ∧ Good wd w' xs' ∧ xs'.length % 2 = 0 ∧ xs'.length ≤ xs.length + 2 ∧
    (∀ x ∈ xs', x ∈ xs ∨ x.ownBlock = A.map (·.block) ∨ ∃ k, x.ownBlock = some k ∧ w.heap.size ≤ k) ∧
    w'.os = w.os ∧ w'.tape = w.tape ∧ w'.output = w.output ∧ w.heap.size ≤ w'.heap.size ∧ ∀ k, k < B → some k ≠ A.map (·.block) → w'.heap[k]? = w.heap[k]?

/-- all blocks but those of S are as they were -/
def Same (S : Nat → Prop) (w w' : World) : Prop := w'.os = w.os ∧ w'.tape = w.tape ∧ w'.output = w.output ∧ w.heap.size ≤ w'.heap.size ∧ ∀ k, k < w.heap.size → ¬ S k → w'.heap[k]? = w.heap[k]?
theorem Same.trans {S : Nat → Prop} {a b c : World} (h : Same S a b) (k : Same S b c) : Same S a c :=
  ⟨k.1.trans h.1, k.2.1.trans h.2.1, k.2.2.1.trans h.2.2.1, Nat.le_trans h.2.2.2.1 k.2.2.2.1, fun i hi hS => (k.2.2.2.2 i (Nat.lt_of_lt_of_le hi h.2.2.2.1) hS).trans (h.2.2.2.2 i hi hS)⟩
theorem Same.below {S : Nat → Prop} {a b : World} (h : Below a.heap.size a b) : Same S a b := ⟨h.os, h.tape, h.output, h.size, fun k hk _ => h.block k hk⟩
theorem Same.grown {S : Nat → Prop} {a b : World} {row : Option Nat} (h : a.grownBy b row) (hr : ∀ k, row = some k → S k) : Same S a b :=
  ⟨h.os, h.tape, h.output, h.size, fun k hk hS => h.block k hk (fun e => hS (hr k e.symm))⟩
theorem Same.set {S : Nat → Prop} (a : World) (p : Addr) (v : Value) (hp : S p.block) : Same S a (a.setCell p v) :=
  ⟨rfl, rfl, rfl, by simp [World.setCell], fun k hk hS => Below.heap_setCell a p v k (fun e => hS (by rw [e]; exact hp))⟩
theorem Same.refl {S : Nat → Prop} (a : World) : Same S a a := ⟨rfl, rfl, rfl, Nat.le_refl _, fun _ _ _ => rfl⟩
theorem Same.at {S : Nat → Prop} {a b : World} (h : Same S a b) {k : Nat} {o : Obj} (hk : a.heap[k]? = some o) (hS : ¬ S k) : b.heap[k]? = some o := (h.2.2.2.2 k (Array.getElem?_eq_some_iff.1 hk).1 hS).trans hk

theorem upd_facts (w : World) (nd g : Nat) (v : Value) (much q : Int) (w1 : World) (hg : w.heap[g]? = some (.cells #[v, .int .i64 much] 35 (0, 0))) (h : w1 = (w.drewN nd).setCell ⟨g, 1, none⟩ (.int .i64 q)) :
    w1.heap[g]? = some (.cells #[v, .int .i64 q] 35 (0, 0)) ∧ Same (fun k => k = g) w w1 := by
  subst h
  refine ⟨?_, Same.trans (b := w.drewN nd) ⟨rfl, rfl, rfl, Nat.le_refl _, fun _ _ _ => rfl⟩ (Same.set _ _ _ rfl)⟩
  have := blk_set (w := w.drewN nd) (g := g) hg 1 (.int .i64 q)
  simpa using this

theorem Good.move {wd : Nat → ByteArray} {W W1 : World} {xs : List Value} (h : Good wd W xs) (hm : ∀ x ∈ xs, ∀ k, x.ownBlock = some k → W1.heap[k]? = W.heap[k]?) : Good wd W1 xs :=
  fun i x hx => (h i x hx).move (hm x (List.mem_of_getElem? hx))
theorem good_far {wd : Nat → ByteArray} {W W1 : World} {xs : List Value} {S : Nat → Prop} (h : Good wd W xs) (hs : Same S W W1) (hS : ∀ x ∈ xs, ∀ k, x.ownBlock = some k → ¬ S k) : Good wd W1 xs := by
  refine h.move fun x hx k hk => ?_
  obtain ⟨i, hi, rfl⟩ := List.getElem_of_mem hx
  obtain ⟨cur, hc⟩ := (h i _ (List.getElem?_eq_getElem hi)).typed hk
  exact hs.2.2.2.2 k (Array.getElem?_eq_some_iff.1 hc).1 (hS _ hx k hk)
theorem own_far {W W1 : World} {B n : Nat} {v : Value} {xs : List Value} {S : Nat → Prop} (h : W.ownsRow B 22 1 v n xs) (hs : Same S W W1) (hS : ∀ k, v.ownBlock = some k → ¬ S k) : W1.ownsRow B 22 1 v n xs := by
  refine own_move h fun k hk => ?_
  obtain ⟨_, cur, hc⟩ := own_ty h hk
  exact hs.2.2.2.2 k (Array.getElem?_eq_some_iff.1 hc).1 (hS k hk)

theorem same_imp {S S' : Nat → Prop} {a b : World} (h : Same S a b) (hi : ∀ k, S k → S' k) : Same S' a b := ⟨h.1, h.2.1, h.2.2.1, h.2.2.2.1, fun k hk hS => h.2.2.2.2 k hk (fun e => hS (hi k e))⟩
theorem full_alloc {w : World} {x : Value} {n : Nat} {m : ByteArray} (h : Full w x n m) (o : Obj) : Full (w.drew.alloc o) x n m := by
  rcases h with h | ⟨b, c, cur, rfl, h1, h2, h3, h4⟩
  · exact .inl h
  · exact .inr ⟨b, c, cur, rfl, h1, h2, blk_alloc (blk_drew h3) o, h4⟩
theorem new_cell (w : World) (u : Value) (t : TypeId) : (w.drew.alloc (.cells #[u] t)).cell? ⟨w.heap.size, 0, none⟩ = some u := by
  have h : (w.drew.alloc (.cells #[u] t)).heap[w.heap.size]? = some (.cells #[u] t (0, 0)) := by simpa using heap_alloc_new w.drew (.cells #[u] t)
  exact (Lib.cell_of_heap h 0).trans rfl
theorem grown_at {w w' : World} {row : Option Nat} {g : Nat} {o : Obj} (h : w.grownBy w' row) (hg : w.heap[g]? = some o) (hne : ∀ k, row = some k → g ≠ k) : w'.heap[g]? = some o :=
  (h.block g (Array.getElem?_eq_some_iff.1 hg).1 (fun e => hne g e.symm rfl)).trans hg
theorem full_form {w : World} {x : Value} {n : Nat} {m : ByteArray} (h : Full w x n m) (hn : 0 < n) : ∃ b c cur, x = .slice (some ⟨b, 0, none⟩) n c ∧ n ≤ c ∧ c ≤ maxLen ∧ w.heap[b]? = some (.cells cur 9 (0, 0)) ∧ cur.size = c ∧ ∀ j, j < n → cur[j]? = some (.string m) := by
  rcases h with ⟨_, h⟩ | h
  · omega
  · exact h
theorem two_cells (w : World) (u v : Value) (t : TypeId) : ∀ j x, [u, v][j]? = some x → (w.alloc (.cells #[u, v] t)).cell? ⟨w.heap.size, j, none⟩ = some x := by
  have h : (w.alloc (.cells #[u, v] t)).heap[w.heap.size]? = some (.cells #[u, v] t (0, 0)) := by simpa using heap_alloc_new w (.cells #[u, v] t)
  intro j x hx
  rw [Lib.cell_of_heap h]
  match j, hx with
  | 0, hx => exact hx
  | 1, hx => exact hx
theorem two_one (A A' : Option Addr) {n c n' c' : Nat} : ∀ u ∈ [Value.slice A n c, Value.slice A' n' c'], u.oneCell' = true := by
  intro u hu
  simp at hu
  rcases hu with rfl | rfl <;> rfl
theorem own3 {w w3 : World} {o : Obj} {B n : Nat} {v : Value} {xs : List Value} {row : Option Nat} (h : w.ownsRow B 22 1 v n xs) (hg : (w.drew.alloc o).grownBy w3 row) (hne : ∀ k, v.ownBlock = some k → row ≠ some k) : w3.ownsRow B 22 1 v n xs := by
  refine own_move h fun k hk => ?_
  obtain ⟨_, cur, hc⟩ := own_ty h hk
  exact (grown_at hg (blk_alloc (blk_drew hc) o) (fun k' hk' e => by subst e; exact hne k hk hk')).trans hc.symm
theorem hB3 {w w3 : World} {o : Obj} {o2 : Obj} {B : Nat} (h : B ≤ w.heap.size) (hs : (w.drew.alloc o).heap.size ≤ w3.heap.size) : B ≤ (w3.alloc o2).heap.size := by
  simp at hs ⊢
  omega
theorem take_over {wd : Nat → ByteArray} {B g : Nat} {xs : List Value} {much q : Int} {A A1 : Option Addr} {c1 : Nat} {w w1 : World}
    (hg : w.heap[g]? = some (.cells #[.slice A1 xs.length c1, .int .i64 much] 35 (0, 0))) (ho : w.ownsRow B 22 1 (.slice A1 xs.length c1) xs.length xs) (hgood : Good wd w xs) (hev : xs.length % 2 = 0) (hB : B ≤ g)
    (h1 : w1.heap[g]? = some (.cells #[.slice A1 xs.length c1, .int .i64 q] 35 (0, 0))) (hs : Same (fun k => k = g) w w1) : TakeEnd wd B w w1 g xs A := by
  refine ⟨xs, q, ⟨hB, _, h1, own_far ho hs fun k hk e => ?_⟩, good_far hgood hs fun x hx k hk e => ?_, hev, by omega, fun x hx => .inl hx, hs.1, hs.2.1, hs.2.2.1, hs.2.2.2.1, fun k hk _ => ?_⟩
  · obtain ⟨_, cur, hc⟩ := own_ty ho hk
    exact ty_ne hc hg (by decide) e
  · obtain ⟨i, hi, rfl⟩ := List.getElem_of_mem hx
    obtain ⟨cur, hc⟩ := (hgood i _ (List.getElem?_eq_getElem hi)).typed hk
    exact ty_ne hc hg (by decide) e
  · have hgl : g < w.heap.size := (Array.getElem?_eq_some_iff.1 hg).1
    exact hs.2.2.2.2 k (by omega) (by omega)

theorem take_end {wd : Nat → ByteArray} {B g : Nat} {xs : List Value} {much q : Int} {A A1 A4 : Option Addr} {c1 c4 n cap j b' c' : Nat} {m : ByteArray} {o1 o2 : Obj} {w wr w3 w4 : World}
    (hg : w.heap[g]? = some (.cells #[.slice A1 xs.length c1, .int .i64 much] 35 (0, 0))) (ho : w.ownsRow B 22 1 (.slice A1 xs.length c1) xs.length xs) (hgood : Good wd w xs) (hev : xs.length % 2 = 0) (hB : B ≤ g) (hL : Lst w A n cap)
    (hD : ∀ x ∈ xs, ∀ k, x.ownBlock = some k → A.map (·.block) ≠ some k) (hBw : B ≤ w.heap.size) (hs : Same (fun k => k = g ∨ A.map (·.block) = some k) w wr)
    (hf1 : Full w3 (.slice A j cap) j m) (hf2 : Full w3 (.slice (some ⟨b', 0, none⟩) (j + 1) c') (j + 1) m)
    (hob : (Value.slice (some ⟨b', 0, none⟩) (j + 1) c').ownBlock = (Value.slice A j cap).ownBlock ∨ ∃ k, (Value.slice (some ⟨b', 0, none⟩) (j + 1) c').ownBlock = some k ∧ (wr.drew.alloc o1).heap.size ≤ k)
    (hgw3 : (wr.drew.alloc o1).grownBy w3 (Value.slice A j cap).ownBlock)
    (hown4 : w4.ownsRow B 22 1 (.slice A4 (xs.length + 2) c4) (xs ++ [Value.slice A j cap, Value.slice (some ⟨b', 0, none⟩) (j + 1) c']).length (xs ++ [Value.slice A j cap, Value.slice (some ⟨b', 0, none⟩) (j + 1) c']))
    (hgw4 : (w3.alloc o2).grownBy w4 (Value.slice A1 xs.length c1).ownBlock) (hg4 : w4.heap[g]? = some (.cells #[.slice A1 xs.length c1, .int .i64 q] 35 (0, 0)))
    (hwd : ∀ i, i = xs.length ∨ i = xs.length + 1 → wd (i / 2) = m) :
    TakeEnd wd B w (w4.setCell ⟨g, 0, none⟩ (.slice A4 (xs.length + 2) c4)) g xs A := by
  have hAb : ∀ k, (Value.slice A j cap).ownBlock = some k → A.map (·.block) = some k := fun k hk => by cases A with | none => cases hk | some a => exact hk
  let S : Nat → Prop := fun k => (k = g ∨ A.map (·.block) = some k) ∨ (Value.slice A1 xs.length c1).ownBlock = some k
  have s1 : Same S w wr := same_imp hs (fun k h => .inl h)
  have s2 : Same S wr (wr.drew.alloc o1) := Same.below (((Below.refl _ wr).drew).alloc (Nat.le_refl _) o1)
  have s3 : Same S (wr.drew.alloc o1) w3 := Same.grown hgw3 (fun k hk => .inl (.inr (hAb k hk)))
  have s4 : Same S w3 (w3.alloc o2) := Same.below ((Below.refl _ w3).alloc (Nat.le_refl _) o2)
  have s5 : Same S (w3.alloc o2) w4 := Same.grown hgw4 (fun k hk => .inr hk)
  have s6 : Same S w4 (w4.setCell ⟨g, 0, none⟩ (.slice A4 (xs.length + 2) c4)) := Same.set _ _ _ (.inl (.inl rfl))
  have sf : Same S w (w4.setCell ⟨g, 0, none⟩ (.slice A4 (xs.length + 2) c4)) := ((((s1.trans s2).trans s3).trans s4).trans s5).trans s6
  have late : ∀ x mm, Row w3 x mm → (∀ k, x.ownBlock = some k → k ≠ g ∧ (Value.slice A1 xs.length c1).ownBlock ≠ some k) → Row (w4.setCell ⟨g, 0, none⟩ (.slice A4 (xs.length + 2) c4)) x mm := by
    intro x mm hx hk
    refine hx.move fun k hkk => ?_
    obtain ⟨h1, h2⟩ := hk k hkk
    obtain ⟨cur, hc⟩ := hx.typed hkk
    have e1 := grown_at hgw4 (blk_alloc hc o2) (fun k' hk' e => by subst e; exact h2 hk')
    have e2 := Below.heap_setCell w4 ⟨g, 0, none⟩ (.slice A4 (xs.length + 2) c4) k h1
    rw [e2, e1, hc]
  have hg3 : ∀ k cur, w3.heap[k]? = some (.cells cur 9 (0, 0)) → k ≠ g ∧ (Value.slice A1 xs.length c1).ownBlock ≠ some k := by
    intro k cur hc
    have e1 : k ≠ g → (Value.slice A1 xs.length c1).ownBlock ≠ some k := by
      intro hne e
      obtain ⟨_, cur2, hc2⟩ := own_ty ho e
      have hnA : ¬ (k = g ∨ A.map (·.block) = some k) := by
        rintro (e' | e')
        · exact hne e'
        · obtain ⟨cur3, hc3⟩ := hL.typed e'
          exact ty_ne hc2 hc3 (by decide) rfl
      have a1 := hs.at hc2 hnA
      have a2 := grown_at hgw3 (blk_alloc (blk_drew a1) o1) (fun k' hk' e' => by subst e'; exact hnA (.inr (hAb k hk')))
      exact ty_ne hc a2 (by decide) rfl
    have e2 : k ≠ g := by
      rintro rfl
      have hg3' : (w3.alloc o2).heap[k]? = some (.cells cur 9 (0, 0)) := blk_alloc hc o2
      have hgne : ∀ k', (Value.slice A1 xs.length c1).ownBlock = some k' → k ≠ k' := fun k' hk' e => by
        subst e
        obtain ⟨_, cur2, hc2⟩ := own_ty ho hk'
        exact ty_ne hc2 hg (by decide) rfl
      have a2 := grown_at hgw4 hg3' hgne
      exact ty_ne a2 hg4 (by decide) rfl
    exact ⟨e2, e1 e2⟩
  refine ⟨xs ++ [Value.slice A j cap, Value.slice (some ⟨b', 0, none⟩) (j + 1) c'], q, ⟨hB, .slice A4 (xs.length + 2) c4, by simpa using blk_set hg4 0 (.slice A4 (xs.length + 2) c4), own_far (S := fun k => k = g) hown4 (Same.set _ _ _ rfl) fun k hk e => ?_⟩, ?_, by simp; omega, by simp, ?_, sf.1, sf.2.1, sf.2.2.1, sf.2.2.2.1, fun k hk hA => ?_⟩
  · obtain ⟨_, cur, hc⟩ := own_ty hown4 hk
    exact ty_ne hc hg4 (by decide) e
  · intro i x hx
    by_cases hi : i < xs.length
    · rw [List.getElem?_append_left hi] at hx
      have hm := List.mem_of_getElem? hx
      have hr := hgood i x hx
      refine hr.move fun k hk => ?_
      obtain ⟨cur, hc⟩ := hr.typed hk
      refine sf.2.2.2.2 k (Array.getElem?_eq_some_iff.1 hc).1 ?_
      rintro ((e | e) | e)
      · exact ty_ne hc hg (by decide) e
      · exact hD x hm k hk e
      · obtain ⟨_, cur2, hc2⟩ := own_ty ho e
        exact ty_ne hc hc2 (by decide) rfl
    · rw [List.getElem?_append_right (by omega)] at hx
      have hi2 : i - xs.length < 2 := by
        have := (List.getElem?_eq_some_iff.1 hx).1
        simpa using this
      rcases (by omega : i = xs.length ∨ i = xs.length + 1) with e | e
      · rw [hwd i (.inl e)]
        rw [show i - xs.length = 0 by omega] at hx
        simp at hx
        subst hx
        exact late _ m hf1.row fun k hk => by
          obtain ⟨cur, hc⟩ := hf1.row.typed hk
          exact hg3 k cur hc
      · rw [hwd i (.inr e)]
        rw [show i - xs.length = 1 by omega] at hx
        simp at hx
        subst hx
        exact late _ m hf2.row fun k hk => by
          obtain ⟨cur, hc⟩ := hf2.row.typed hk
          exact hg3 k cur hc
  · intro x hx
    rcases List.mem_append.1 hx with hx | hx
    · exact .inl hx
    · simp at hx
      rcases hx with rfl | rfl
      · right
        left
        cases A <;> rfl
      · rcases hob with e | ⟨k, hk, hk2⟩
        · right
          left
          rw [e]
          cases A <;> rfl
        · right
          right
          refine ⟨k, hk, ?_⟩
          have := hs.2.2.2.1
          simp at hk2
          omega
  · refine sf.2.2.2.2 k (by omega) ?_
    rintro ((e | e) | e)
    · omega
    · exact hA e.symm
    · have := (own_ty ho e).1
      omega

set_option maxHeartbeats 8000000 in
set_option maxRecDepth 1000000 in
theorem take_any (wd : Nat → ByteArray) (hwd : ∀ n : Nat, n ≤ 1099511627776 → ∃ k : Nat, heddlelaw31_word.f k (n : Int) = some (wd n)) (B g : Nat) (xs : List Value) (much : Int) (A : Option Addr) (n cap : Nat) (w : World)
    (hb : BookIs B w g xs much) (hgood : Good wd w xs) (hev : xs.length % 2 = 0) (hl : xs.length ≤ 1099511627) (hn : n ≤ 1099511627) (hlst : Lst w A n cap)
    (hdis : ∀ x ∈ xs, ∀ k, x.ownBlock = some k → A.map (·.block) ≠ some k) (hBw : B ≤ w.heap.size) :
    Calls Try.prog 13 #[.pointer (some ⟨g, 0, none⟩), .slice A n cap] w fun e w' => e = .returned (.tuple #[]) ∧ TakeEnd wd B w w' g xs A := by
  obtain ⟨hBg, v, hg, hown⟩ := hb
  have hgl : g < w.heap.size := (Array.getElem?_eq_some_iff.1 hg).1
  have hnc : n ≤ cap ∧ cap ≤ maxLen := by
    rcases hlst with ⟨_, rfl, rfl⟩ | ⟨b, cur, _, h1, h2, _⟩
    · exact ⟨Nat.le_refl _, Nat.zero_le _⟩
    · exact ⟨h1, h2⟩
  obtain ⟨M, hM, hnM, hMc, hM7⟩ := most_ex n cap hnc.1 (by omega)
  have hcm := hnc.2
  unfold maxLen at hcm
  obtain ⟨A1, c1, rfl⟩ : ∃ A1 c1, v = .slice A1 xs.length c1 := by
    rcases hown.2 with ⟨rfl, h0⟩ | ⟨b, cp, cur, rfl, _⟩
    · exact ⟨none, 0, by rw [h0]⟩
    · exact ⟨_, _, rfl⟩
  have HW := Lib.hid hwd
  have HM := Lib.hid hM
  have HG := Lib.hid hgood
  have HGH := Lib.hid hg
  have HO := Lib.hid hown
  have HL := Lib.hid hlst
  have HD := Lib.hid hdis
  have HE := Lib.hid hev
  clear hwd hM hgood hown hlst hdis hg hev
  go_enter Try.func13, Try.ntmps13
  go_wp2_with (go_at_call 23; ((with_reducible refine (heddlelaw31_most.calls (n : Int) (cap : Int) (M : Int) w HM.out).mono ?_); rintro e w1 ⟨rfl, ⟨⟨nd, rfl⟩⟩⟩))
  go_wp2_with (go_at_call 24; go_must (have hgd : (w.drewN nd).heap[g]? = some (.cells #[.slice A1 xs.length c1, .int .i64 much] 35 (0, 0)) := HGH.out; (with_reducible refine (over_any g (.slice A1 xs.length c1) much (32 * (M : Int)) (w.drewN nd) hgd).mono ?_); clear hgd; rintro e w1 ⟨rfl, hw1⟩; have hu := Lib.hid (upd_facts w nd g _ much _ w1 HGH.out hw1); clear hw1; generalize wrap64 (wrap64 (much + 400) + 32 * (M : Int)) = q at *; obtain ⟨h1g, hs1⟩ := hu.out; clear hu; have H1G := Lib.hid h1g; have HS1 := Lib.hid hs1; have c10 : w1.cell? ⟨g, 0, none⟩ = some (.slice A1 xs.length c1) := (Lib.cell_of_heap h1g 0).trans rfl; clear h1g hs1))
  · refine bodyPost_ret (v := .tuple #[]) (by simp [results, Try.results13, go_sem]) rfl ⟨rfl, ?_⟩
    exact take_over HGH.out HO.out HG.out HE.out hBg H1G.out HS1.out
  · obtain ⟨k, hk⟩ := HW.out (xs.length / 2) (by omega)
    rw [show ((xs.length / 2 : Nat) : Int) = (xs.length : Int) / 2 by omega] at hk
    have HK := Lib.hid hk
    have HGM : Hid (∀ i, i = xs.length ∨ i = xs.length + 1 → wd (i / 2) = wd (xs.length / 2)) := Lib.hid (fun i hi => by have := HE.out; congr 1; omega)
    generalize wd (xs.length / 2) = m at *
    clear hk HW HM
    go_wp2_with (go_at_call 25; ((with_reducible refine (heddlelaw31_word.calls k ((xs.length : Int) / 2) m w1 HK.out).mono ?_); rintro e w2 ⟨rfl, hb2⟩; have HB2 := Lib.hid hb2; clear hb2))
    go_loopw [5] (fun v5 wr => ∃ j : Nat, j ≤ M ∧ v5 = .int .i64 j ∧ Same (fun k => A.map (·.block) = some k) w2 wr ∧ ((A = none ∧ M = 0 ∧ cap = 0) ∨ ∃ b cur, A = some ⟨b, 0, none⟩ ∧ wr.heap[b]? = some (.cells cur 9 (0, 0)) ∧ cur.size = cap ∧ ∀ j', j' < j → cur[j']? = some (.string m))) (fun v5 wr => M - (intOf v5).toNat)
    case atStart =>
      refine ⟨0, Nat.zero_le _, rfl, Same.refl _, ?_⟩
      rcases HL.out with ⟨h1, h2, h3⟩ | ⟨b, cur, h1, h2, h3, h4, h5⟩
      · exact .inl ⟨h1, by omega, h3⟩
      · have h4' := (Same.below (S := fun _ => False) HB2.out).at (HS1.out.at h4 (fun e => by rw [e] at h4; exact ty_ne h4 HGH.out (by decide) rfl)) (fun e => e)
        exact .inr ⟨b, cur, h1, h4', h5, fun j' hj' => absurd hj' (Nat.not_lt_zero _)⟩
    case round =>
      obtain ⟨j, hj, rfl, hsame, hrow⟩ := hrel
      have HSAME := Lib.hid hsame
      clear hsame
      by_cases hjM : j < M
      · rcases hrow with ⟨_, h0, _⟩ | ⟨b, cur, rfl, hcur, hcs, hmk⟩
        · omega
        · have hf : wr.frozen? ⟨b, j, none⟩ = false := Lib.frozen_of_heap hcur j
          have hcj : ∃ u, wr.cell? ⟨b, j, none⟩ = some u := ⟨cur[j]'(by omega), by rw [Lib.cell_of_heap hcur]; exact Array.getElem?_eq_getElem _⟩
          obtain ⟨u, hcu⟩ := hcj
          have HCUR := Lib.hid hcur
          have HMK := Lib.hid hmk
          clear hcur hmk
          go_wp2
          go_roundw
          case rel =>
            refine ⟨j + 1, by omega, by go_num, HSAME.out.trans (Same.set _ _ _ rfl), .inr ⟨b, _, rfl, blk_set HCUR.out j (.string m), by simpa using hcs, fun j' hj' => ?_⟩⟩
            by_cases e : j' = j
            · subst e
              rw [Array.getElem?_setIfInBounds_self_of_lt (by omega)]
            · rw [Array.getElem?_setIfInBounds_ne (by omega)]
              exact HMK.out j' (by omega)
          case measure => simp [intOf]; omega
      · obtain rfl : j = M := by omega
        have hfull : Full wr (.slice A j cap) j m := by
          rcases hrow with ⟨rfl, h0, rfl⟩ | ⟨b, cur, rfl, hcur, hcs, hmk⟩
          · exact .inl ⟨by rw [h0], h0⟩
          · exact .inr ⟨b, cap, cur, rfl, by omega, by unfold maxLen; omega, hcur, hcs, hmk⟩
        have HF := Lib.hid hfull
        clear hfull hrow
        go_upto_region 7 with (fail)
        have hs2 : Same (fun k => k = g ∨ A.map (·.block) = some k) w wr := (same_imp HS1.out (fun k h => .inl h)).trans ((Same.below HB2.out).trans (same_imp HSAME.out (fun k h => .inr h)))
        have hgA : ¬ A.map (·.block) = some g := fun e => by
          obtain ⟨cur, hc⟩ := HL.out.typed e
          exact ty_ne hc HGH.out (by decide) rfl
        have hgr : wr.heap[g]? = some (.cells #[.slice A1 xs.length c1, .int .i64 q] 35 (0, 0)) := HSAME.out.at ((Same.below (S := fun _ => False) HB2.out).at H1G.out (fun e => e)) hgA
        have hBr : B ≤ wr.heap.size := Nat.le_trans hBw hs2.2.2.2.1
        have ho2 : wr.ownsRow B 22 1 (.slice A1 xs.length c1) xs.length xs := own_far HO.out hs2 (fun k hk e => by
          obtain ⟨_, cur, hc⟩ := own_ty HO.out hk
          rcases e with e | e
          · exact ty_ne hc HGH.out (by decide) e
          · obtain ⟨cur2, hc2⟩ := HL.out.typed e
            exact ty_ne hc hc2 (by decide) rfl)
        have HO2 := Lib.hid ho2
        have HTY : Hid (∀ k, (Value.slice A j cap).ownBlock = some k → g ≠ k) := Lib.hid (fun k hk e => by subst e; cases A with | none => cases hk | some a => exact hgA hk)
        have HTY2 : Hid (∀ k, (Value.slice A1 xs.length c1).ownBlock = some k → (Value.slice A j cap).ownBlock ≠ some k) := Lib.hid (fun k hk e => by
          obtain ⟨_, cur, hc⟩ := own_ty HO.out hk
          obtain ⟨cur2, hc2⟩ := HL.out.typed (k := k) (by cases A with | none => cases e | some a => exact e)
          exact ty_ne hc hc2 (by decide) rfl)
        have HTY3 : Hid (∀ k, (Value.slice A1 xs.length c1).ownBlock = some k → g ≠ k) := Lib.hid (fun k hk e => by
          obtain ⟨_, cur, hc⟩ := own_ty HO.out hk
          exact ty_ne hc HGH.out (by decide) e.symm)
        have HS2 := Lib.hid hs2
        have HGR := Lib.hid hgr
        clear ho2 hs2 hgA c10 HSAME
        refine start_ (n := 15) (S := fun w' => w'.cell? ⟨g, 0, none⟩ = some (.slice A1 xs.length c1)) (ds := [14]) #[false, false, false, false, false, false, false, false, false, false, false, false, false, false, false] (by kernel_rfl) rfl rfl (((Lib.cell_of_heap (blk_drew hgr) 0).trans rfl)) (fun hHeld => ?_)
        refine pure_ (i := 0) (N := some 35) (v := ?_) (a' := ?_) #[true, false, false, false, false, false, false, false, false, false, false, false, false, false, false] rfl rfl (by kernel_rfl) (fun _ _ _ h => h) (Or.inl ⟨by rfl, ?_⟩) ?_ ?_
        rotate_left
        · intro w'
          go_simp
          with_reducible rfl
        rotate_left
        · simp only [Act.put, List.setIfInBounds_toArray, List.set_cons_zero, List.set_cons_succ, i64_w, i32_w]
          rfl
        refine pure_ (i := 1) (N := some 36) (v := ?_) (a' := ?_) #[true, true, false, false, false, false, false, false, false, false, false, false, false, false, false] rfl rfl (by kernel_rfl) (fun _ _ _ h => h) (Or.inl ⟨by rfl, ?_⟩) ?_ ?_
        rotate_left
        · intro w'
          go_simp
          with_reducible rfl
        rotate_left
        · simp only [Act.put, List.setIfInBounds_toArray, List.set_cons_zero, List.set_cons_succ, i64_w, i32_w]
          rfl
        refine pure_ (i := 2) (N := some 37) (v := ?_) (a' := ?_) #[true, true, true, false, false, false, false, false, false, false, false, false, false, false, false] rfl rfl (by kernel_rfl) (fun _ _ _ h => h) (Or.inl ⟨by rfl, ?_⟩) ?_ ?_
        rotate_left
        · intro w'
          go_simp
          with_reducible rfl
        rotate_left
        · simp only [Act.put, List.setIfInBounds_toArray, List.set_cons_zero, List.set_cons_succ, i64_w, i32_w]
          rfl
        refine pure_ (i := 3) (N := some 38) (v := ?_) (a' := ?_) #[true, true, true, true, false, false, false, false, false, false, false, false, false, false, false] rfl rfl (by kernel_rfl) (fun _ _ _ h => h) (Or.inl ⟨by rfl, ?_⟩) ?_ ?_
        rotate_left
        · intro w'
          go_simp
          with_reducible rfl
        rotate_left
        · simp only [Act.put, List.setIfInBounds_toArray, List.set_cons_zero, List.set_cons_succ, i64_w, i32_w]
          rfl
        refine pure_ (i := 5) (N := some 40) (v := ?_) (a' := ?_) #[true, true, true, true, false, true, false, false, false, false, false, false, false, false, false] rfl rfl (by kernel_rfl) (fun _ _ _ h => h) (Or.inl ⟨by rfl, ?_⟩) ?_ ?_
        rotate_left
        · intro w'
          go_simp
          with_reducible rfl
        rotate_left
        · simp only [Act.put, List.setIfInBounds_toArray, List.set_cons_zero, List.set_cons_succ, i64_w, i32_w]
          rfl
        refine pure_ (i := 6) (N := some 41) (v := ?_) (a' := ?_) #[true, true, true, true, false, true, true, false, false, false, false, false, false, false, false] rfl rfl (by kernel_rfl) (fun _ _ _ h => h) (Or.inl ⟨by rfl, ?_⟩) ?_ ?_
        rotate_left
        · intro w'
          go_simp
          with_reducible rfl
        rotate_left
        · simp only [Act.put, List.setIfInBounds_toArray, List.set_cons_zero, List.set_cons_succ, i64_w, i32_w]
          rfl
        refine pure_ (i := 7) (N := some 42) (v := ?_) (a' := ?_) #[true, true, true, true, false, true, true, true, false, false, false, false, false, false, false] rfl rfl (by kernel_rfl) (fun _ _ _ h => h) (Or.inl ⟨by rfl, ?_⟩) ?_ ?_
        rotate_left
        · intro w'
          go_simp
          with_reducible rfl
        rotate_left
        · simp only [Act.put, List.setIfInBounds_toArray, List.set_cons_zero, List.set_cons_succ, i64_w, i32_w]
          rfl
        refine take_ (i := 4) (N := some 39) (v := ?_) (a' := ?_) #[true, true, true, true, true, true, true, true, false, false, false, false, false, false, false] rfl rfl (by kernel_rfl) (fun _ _ _ h => h) (Or.inl ⟨by rfl, ?_⟩) hHeld ?_ ?_
        rotate_left
        · intro w' s0
          go_simp
          with_reducible rfl
        rotate_left
        · simp only [Act.put, List.setIfInBounds_toArray, List.set_cons_zero, List.set_cons_succ, i64_w, i32_w]
          rfl
        refine one_ (i := 8) (N := some 43) #[true, true, true, true, true, true, true, true, true, false, false, false, false, false, false] rfl rfl (by kernel_rfl) (by decide) (fun K hK => ?_)
        refine value_ (w1 := ?_) (v := ?_) (by rfl) rfl ?_ ?_
        rotate_left 2
        · go_simp
          constructor
          · rfl
          · rfl
        refine hK.out _ _ (((Lib.cell_of_heap (blk_alloc (blk_drew hgr) _) 0).trans rfl)) (fun hHeld => ?_)
        clear hK K
        refine norm_ (a' := ?_) ?_ ?_
        rotate_left
        · show Act.put _ (some 43) _ = _
          simp only [Act.put, List.setIfInBounds_toArray, List.set_cons_zero, List.set_cons_succ, i64_w, i32_w]
          rfl
        refine one_ (i := 9) (N := some 44) #[true, true, true, true, true, true, true, true, true, true, false, false, false, false, false] rfl rfl (by kernel_rfl) (by decide) (fun K hK => ?_)
        refine step_append_mark rfl (.tmp 41) (.tmp 43) rfl (.slice A j cap) j m rfl (full_alloc HF.out _) (by omega) wr.heap.size rfl (new_cell wr _ _) ?_
        intro v' w3 hf1 hf2 hob hgw3
        have hg3 := grown_at hgw3 (blk_alloc (blk_drew hgr) _) (fun k hk => HTY.out k hk)
        obtain ⟨b', c', cur', rfl, hv'⟩ := full_form hf2 (by omega)
        refine hK.out _ _ (((Lib.cell_of_heap hg3 0).trans rfl)) (fun hHeld => ?_)
        clear hK K
        refine norm_ (a' := ?_) ?_ ?_
        rotate_left
        · show Act.put _ (some 44) _ = _
          simp only [Act.put, List.setIfInBounds_toArray, List.set_cons_zero, List.set_cons_succ, i64_w, i32_w]
          rfl
        refine one_ (i := 10) (N := some 45) #[true, true, true, true, true, true, true, true, true, true, true, false, false, false, false] rfl rfl (by kernel_rfl) (by decide) (fun K hK => ?_)
        refine value_ (w1 := ?_) (v := ?_) (by rfl) rfl ?_ ?_
        rotate_left 2
        · go_simp
          constructor
          · rfl
          · rfl
        refine hK.out _ _ (((Lib.cell_of_heap (blk_alloc hg3 _) 0).trans rfl)) (fun hHeld => ?_)
        clear hK K
        refine norm_ (a' := ?_) ?_ ?_
        rotate_left
        · show Act.put _ (some 45) _ = _
          simp only [Act.put, List.setIfInBounds_toArray, List.set_cons_zero, List.set_cons_succ, i64_w, i32_w]
          rfl
        refine one_ (i := 11) (N := some 46) #[true, true, true, true, true, true, true, true, true, true, true, true, false, false, false] rfl rfl (by kernel_rfl) (by decide) (fun K hK => ?_)
        refine step_append_own rfl (.tmp 39) (.tmp 45) rfl B (.slice A1 xs.length c1) xs [.slice A j cap, .slice (some ⟨b', 0, none⟩) (j + 1) c'] rfl ?ho ?hB w3.heap.size 2 rfl rfl (two_cells w3 _ _ _) (two_one _ _) (by omega) ?_
        case ho => exact (World.ownsRow.alloc (own3 HO2.out hgw3 HTY2.out) _)
        case hB => exact hB3 hBr hgw3.size
        intro A4 c4 w4 hown4 hgw4
        have hg4 := grown_at hgw4 (blk_alloc hg3 _) (fun k hk => HTY3.out k hk)
        have d40 : w4.cell? ⟨g, 0, none⟩ = some (.slice A1 xs.length c1) := (Lib.cell_of_heap hg4 0).trans rfl
        have d4f : w4.frozen? ⟨g, 0, none⟩ = false := Lib.frozen_of_heap hg4 0
        refine hK.out _ _ (d40) (fun hHeld => ?_)
        clear hK K
        refine norm_ (a' := ?_) ?_ ?_
        rotate_left
        · show Act.put _ (some 46) _ = _
          simp only [Act.put, List.setIfInBounds_toArray, List.set_cons_zero, List.set_cons_succ, i64_w, i32_w]
          rfl
        refine pure_ (i := 12) (N := some 47) (v := ?_) (a' := ?_) #[true, true, true, true, true, true, true, true, true, true, true, true, true, false, false] rfl rfl (by kernel_rfl) (fun _ _ _ h => h) (Or.inl ⟨by rfl, ?_⟩) ?_ ?_
        rotate_left
        · intro w'
          go_simp
          with_reducible rfl
        rotate_left
        · simp only [Act.put, List.setIfInBounds_toArray, List.set_cons_zero, List.set_cons_succ, i64_w, i32_w]
          rfl
        refine pure_ (i := 13) (N := some 48) (v := ?_) (a' := ?_) #[true, true, true, true, true, true, true, true, true, true, true, true, true, true, false] rfl rfl (by kernel_rfl) (fun _ _ _ h => h) (Or.inl ⟨by rfl, ?_⟩) ?_ ?_
        rotate_left
        · intro w'
          go_simp
          with_reducible rfl
        rotate_left
        · simp only [Act.put, List.setIfInBounds_toArray, List.set_cons_zero, List.set_cons_succ, i64_w, i32_w]
          rfl
        refine last_ (i := 14) (N := none) #[true, true, true, true, true, true, true, true, true, true, true, true, true, true, true] rfl rfl (by kernel_rfl) (by decide) (fun K hK => ?_)
        refine skip_ (w1 := ?_) (by rfl) rfl ?_ ?_
        rotate_left
        · go_simp
          rfl
        refine hK.out _ _ ?_
        clear hK K
        refine done_ (by kernel_rfl) ?_

        go_end0
        refine ⟨rfl, take_end HGH.out HO.out HG.out HE.out hBg HL.out HD.out hBw HS2.out hf1 hf2 hob hgw3 hown4 hgw4 hg4 HGM.out⟩
end Go.Proofs.Ytfdioplenkcahaa.Fresh
