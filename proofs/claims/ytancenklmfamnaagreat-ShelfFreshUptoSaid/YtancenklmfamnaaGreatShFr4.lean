/- ShelfFresh: the book takes an answer. -/
import Derived.Test.YtancenklmfamnaaGreatShFr3
import Derived.Deep.RegionHeld3
import Derived.Deep.CutBlock
set_option linter.unusedVariables false
set_option linter.unusedSimpArgs false
namespace Go.Proofs.YtancenklmfamnaaGreat.Sh
open Go.RowKit Go.Maps Go.Sort Go.Shelf
open Go.Proofs Go.MuLone
open Go.Proofs.YtancenklmfamnaaGreatW.PrintWords (Reps OwnRow Kd ReadsRow)
open PShelfPlays (S70 S104 S115 k70 k104 k115)

theorem most_q (n c : Nat) (hn : n ≤ 4611686018427387904) (w : World) : Calls Tryz.prog 41 #[.int .i64 (n : Int), .int .i64 (c : Int)] w fun e w' => e = .returned (.int .i64 ((min c (n + 70000) : Nat) : Int)) ∧ ∃ m, w' = w.drewN m :=
  (most_any n c hn w).mono fun _ _ ⟨m, he, hm, hw⟩ => ⟨by rw [← hm]; exact he, 0, hw⟩
theorem cut_up (t e : TypeId) {i : TypeInfo} (ht : Tryz.prog.underlying t = some (.slice e)) (hi : Tryz.prog.info? e = some i) (A : Option Addr) (n c k : Nat) (hk : k ≤ c) (W : World) : (Instr.slice t (.slice A n c) none (some (.int .i64 (k : Int))) none).run Tryz.prog W = .ok (.slice A k c) W := by
  have hel : Tryz.prog.elem t = e := by simp [Program.elem, ht]
  have hu : Tryz.prog.underlying t = some (.slice (Tryz.prog.elem t)) := by rw [hel]; exact ht
  have ha : (A.map fun x => x.add 0) = A := by cases A <;> simp [Addr.add]
  rw [run_slice_h W t A n c hu .i64 (k : Int) (by omega) (by omega), hel]
  simp [sizeOf, typeInfo, hi, sliced, Result.andThen, ha]
theorem cut_b (A : Option Addr) (n c k : Nat) (hk : k ≤ c) (W : World) : (Instr.slice 25 (.slice A n c) none (some (.int .i64 (k : Int))) none).run Tryz.prog W = .ok (.slice A k c) W := by
  obtain ⟨i0, hi, _⟩ := info_parts info5
  exact cut_up 25 5 Tryz.underlying25 hi A n c k hk W
theorem cut_l (A : Option Addr) (n c k : Nat) (hk : k ≤ c) (W : World) : (Instr.slice 40 (.slice A n c) none (some (.int .i64 (k : Int))) none).run Tryz.prog W = .ok (.slice A k c) W := by
  obtain ⟨i0, hi, _⟩ := info_parts info70
  exact cut_up 40 70 Tryz.underlying40 hi A n c k hk W
theorem ty_ne2 {w : World} {a b : Nat} {c1 c2 : Array Value} {t1 t2 : TypeId} {f1 f2 : Nat × Nat} (h1 : w.heap[a]? = some (.cells c1 t1 f1)) (h2 : w.heap[b]? = some (.cells c2 t2 f2)) (ht : t1 ≠ t2) : a ≠ b := fun e => by
  subst e
  rw [h1] at h2
  injection h2 with h2
  injection h2 with _ h2
  exact ht h2
section
variable {B gb : Nat} {xs ls : List Value} {v1 v2 v1' v2' : Value} {much q : Int} {w w' : World} {x v' : Value} {M : Nat}
theorem BK.t1 (hb : BK B w gb xs ls v1 v2 much) {k : Nat} (hk : v1.ownBlock = some k) : B ≤ k ∧ ∃ c, w.heap[k]? = some (.cells c 25 (0, 0)) := row_tyN hb.o1 hk
theorem BK.t2 (hb : BK B w gb xs ls v1 v2 much) {k : Nat} (hk : v2.ownBlock = some k) : B ≤ k ∧ ∃ c, w.heap[k]? = some (.cells c 40 (0, 0)) := row_tyN hb.o2 hk
theorem BK.tx (hb : BK B w gb xs ls v1 v2 much) {y : Value} (hy : y ∈ xs) {k : Nat} (hk : y.ownBlock = some k) : B ≤ k ∧ ∃ c, w.heap[k]? = some (.cells c 5 (0, 0)) := by
  obtain ⟨i, hi⟩ := List.getElem?_of_mem hy
  obtain ⟨n, _, h⟩ := hb.g1 i y hi
  exact row_tyN h hk
theorem BK.tl (hb : BK B w gb xs ls v1 v2 much) {y : Value} (hy : y ∈ ls) {k : Nat} (hk : y.ownBlock = some k) : B ≤ k ∧ ∃ c, w.heap[k]? = some (.cells c 70 (0, 0)) := by
  obtain ⟨i, hi⟩ := List.getElem?_of_mem hy
  obtain ⟨n, _, h⟩ := hb.g2 i y hi
  exact row_tyN h hk
/-- the book beside what is written -/
theorem BK.off (hb : BK B w gb xs ls v1 v2 much) {S : Nat → Prop} (hs : Same S w w') (hS : ∀ k, BF gb xs ls v1 v2 k → ¬ S k) : BK B w' gb xs ls v1 v2 much :=
  ⟨hb.low, hs.at hb.blk (hS gb (.inl rfl)), row_farN hb.o1 hs fun k hk => hS k (.inr (.inl hk)), row_farN hb.o2 hs fun k hk => hS k (.inr (.inr (.inl hk))),
    fun i x hx => by
      obtain ⟨n, hn, h⟩ := hb.g1 i x hx
      exact ⟨n, hn, row_farN h hs fun k hk => hS k (.inr (.inr (.inr (.inl ⟨x, List.mem_of_getElem? hx, hk⟩))))⟩,
    fun i x hx => by
      obtain ⟨n, hn, h⟩ := hb.g2 i x hx
      exact ⟨n, hn, row_farN h hs fun k hk => hS k (.inr (.inr (.inr (.inr ⟨x, List.mem_of_getElem? hx, hk⟩))))⟩⟩
theorem BK.range (hb : BK B w gb xs ls v1 v2 much) {k : Nat} (hk : BF gb xs ls v1 v2 k) : B ≤ k ∧ k < w.heap.size := by
  rcases hk with rfl | hk | hk | ⟨y, hy, hk⟩ | ⟨y, hy, hk⟩
  · exact ⟨hb.low, at_lt hb.blk⟩
  · obtain ⟨h1, c, h2⟩ := hb.t1 hk; exact ⟨h1, at_lt h2⟩
  · obtain ⟨h1, c, h2⟩ := hb.t2 hk; exact ⟨h1, at_lt h2⟩
  · obtain ⟨h1, c, h2⟩ := hb.tx hy hk; exact ⟨h1, at_lt h2⟩
  · obtain ⟨h1, c, h2⟩ := hb.tl hy hk; exact ⟨h1, at_lt h2⟩
theorem BK.below_ (hb : BK B w gb xs ls v1 v2 much) (h : Below w.heap.size w w') : BK B w' gb xs ls v1 v2 much := hb.off (S := fun _ => False) (Same.below h) fun _ _ => id
/-- how much is kept, anew -/
theorem BK.muchTo (hb : BK B w gb xs ls v1 v2 much) (q : Int) : BK B (w.setCell ⟨gb, 2, none⟩ (.int .i64 q)) gb xs ls v1 v2 q := by
  have hs : Same (fun k => k = gb) w (w.setCell ⟨gb, 2, none⟩ (.int .i64 q)) := same9 _ _ 2 _
  refine ⟨hb.low, ?_, row_farN hb.o1 hs fun k hk e => ?_, row_farN hb.o2 hs fun k hk e => ?_, fun i x hx => ?_, fun i x hx => ?_⟩
  · have := YtancenklmfamnaaGreatW.PrintWords.blk_set hb.blk 2 (.int .i64 q)
    simpa using this
  · obtain ⟨_, c, h⟩ := hb.t1 hk; exact ty_ne2 h hb.blk (by decide) e
  · obtain ⟨_, c, h⟩ := hb.t2 hk; exact ty_ne2 h hb.blk (by decide) e
  · obtain ⟨n, hn, h⟩ := hb.g1 i x hx
    exact ⟨n, hn, row_farN h hs fun k hk e => by obtain ⟨_, c, h⟩ := hb.tx (List.mem_of_getElem? hx) hk; exact ty_ne2 h hb.blk (by decide) e⟩
  · obtain ⟨n, hn, h⟩ := hb.g2 i x hx
    exact ⟨n, hn, row_farN h hs fun k hk e => by obtain ⟨_, c, h⟩ := hb.tl (List.mem_of_getElem? hx) hk; exact ty_ne2 h hb.blk (by decide) e⟩
theorem two_at {α : Type} {l : List α} {a b x : α} {i : Nat} (h : (l ++ [a, b])[i]? = some x) : (i < l.length ∧ l[i]? = some x) ∨ (i = l.length ∧ x = a) ∨ (i = l.length + 1 ∧ x = b) := by
  by_cases hlt : i < l.length
  · rw [List.getElem?_append_left hlt] at h
    exact .inl ⟨hlt, h⟩
  · rw [List.getElem?_append_right (by omega)] at h
    have := (List.getElem?_eq_some_iff.1 h).1
    simp at this
    rcases (show i = l.length ∨ i = l.length + 1 by omega) with rfl | rfl
    · simp at h; exact .inr (.inl ⟨rfl, h.symm⟩)
    · simp at h; exact .inr (.inr ⟨rfl, h.symm⟩)
/-- two rows of bytes more -/
theorem BK.addB (hb : BK B w gb xs ls v1 v2 much) (hev : xs.length % 2 = 0) (hM : M + 1 ≤ 3000000000000) (hs : Same (fun k => k = gb ∨ v1.ownBlock = some k ∨ x.ownBlock = some k) w w') (hx : ∀ k, x.ownBlock = some k → (∃ c, w.heap[k]? = some (.cells c 5 (0, 0))) ∧ ∀ y ∈ xs, y.ownBlock ≠ some k)
    (hblk : w'.heap[gb]? = some (.cells #[v1', v2, .int .i64 much] 55 (0, 0))) (ho : w'.ownsRow B 25 1 v1' (xs ++ [x, v']).length (xs ++ [x, v'])) (hr : w'.ownsRow B 5 1 x M (bRow (xs.length / 2) M)) (hr2 : w'.ownsRow B 5 1 v' (M + 1) (bRow (xs.length / 2) (M + 1))) :
    BK B w' gb (xs ++ [x, v']) ls v1' v2 much := by
  refine ⟨hb.low, hblk, ho, row_farN hb.o2 hs fun k hk e => ?_, fun i y hy => ?_, fun i y hy => ?_⟩
  · obtain ⟨_, c, h⟩ := hb.t2 hk
    rcases e with e | e | e
    · exact ty_ne2 h hb.blk (by decide) e
    · obtain ⟨_, c', h'⟩ := hb.t1 e; exact ty_ne2 h h' (by decide) rfl
    · obtain ⟨⟨c', h'⟩, _⟩ := hx k e; exact ty_ne2 h h' (by decide) rfl
  · rcases two_at hy with ⟨hlt, hy⟩ | ⟨rfl, rfl⟩ | ⟨rfl, rfl⟩
    · obtain ⟨n, hn, h⟩ := hb.g1 i y hy
      refine ⟨n, hn, row_farN h hs fun k hk e => ?_⟩
      obtain ⟨_, c, h⟩ := hb.tx (List.mem_of_getElem? hy) hk
      rcases e with e | e | e
      · exact ty_ne2 h hb.blk (by decide) e
      · obtain ⟨_, c', h'⟩ := hb.t1 e; exact ty_ne2 h h' (by decide) rfl
      · exact (hx k e).2 y (List.mem_of_getElem? hy) hk
    · exact ⟨M, by omega, hr⟩
    · exact ⟨M + 1, hM, by rw [show (xs.length + 1) / 2 = xs.length / 2 by omega]; exact hr2⟩
  · obtain ⟨n, hn, h⟩ := hb.g2 i y hy
    refine ⟨n, hn, row_farN h hs fun k hk e => ?_⟩
    obtain ⟨_, c, h⟩ := hb.tl (List.mem_of_getElem? hy) hk
    rcases e with e | e | e
    · exact ty_ne2 h hb.blk (by decide) e
    · obtain ⟨_, c', h'⟩ := hb.t1 e; exact ty_ne2 h h' (by decide) rfl
    · obtain ⟨⟨c', h'⟩, _⟩ := hx k e; exact ty_ne2 h h' (by decide) rfl
/-- two lists more -/
theorem BK.addL (hb : BK B w gb xs ls v1 v2 much) (hev : ls.length % 2 = 0) (hM : M + 1 ≤ 3000000000000) (hs : Same (fun k => k = gb ∨ v2.ownBlock = some k ∨ x.ownBlock = some k) w w') (hx : ∀ k, x.ownBlock = some k → (∃ c, w.heap[k]? = some (.cells c 70 (0, 0))) ∧ ∀ y ∈ ls, y.ownBlock ≠ some k)
    (hblk : w'.heap[gb]? = some (.cells #[v1, v2', .int .i64 much] 55 (0, 0))) (ho : w'.ownsRow B 40 1 v2' (ls ++ [x, v']).length (ls ++ [x, v'])) (hr : w'.ownsRow B 70 4 x M (hRow (ls.length / 2) M)) (hr2 : w'.ownsRow B 70 4 v' (M + 1) (hRow (ls.length / 2) (M + 1))) :
    BK B w' gb xs (ls ++ [x, v']) v1 v2' much := by
  refine ⟨hb.low, hblk, row_farN hb.o1 hs fun k hk e => ?_, ho, fun i y hy => ?_, fun i y hy => ?_⟩
  · obtain ⟨_, c, h⟩ := hb.t1 hk
    rcases e with e | e | e
    · exact ty_ne2 h hb.blk (by decide) e
    · obtain ⟨_, c', h'⟩ := hb.t2 e; exact ty_ne2 h h' (by decide) rfl
    · obtain ⟨⟨c', h'⟩, _⟩ := hx k e; exact ty_ne2 h h' (by decide) rfl
  · obtain ⟨n, hn, h⟩ := hb.g1 i y hy
    refine ⟨n, hn, row_farN h hs fun k hk e => ?_⟩
    obtain ⟨_, c, h⟩ := hb.tx (List.mem_of_getElem? hy) hk
    rcases e with e | e | e
    · exact ty_ne2 h hb.blk (by decide) e
    · obtain ⟨_, c', h'⟩ := hb.t2 e; exact ty_ne2 h h' (by decide) rfl
    · obtain ⟨⟨c', h'⟩, _⟩ := hx k e; exact ty_ne2 h h' (by decide) rfl
  · rcases two_at hy with ⟨hlt, hy⟩ | ⟨rfl, rfl⟩ | ⟨rfl, rfl⟩
    · obtain ⟨n, hn, h⟩ := hb.g2 i y hy
      refine ⟨n, hn, row_farN h hs fun k hk e => ?_⟩
      obtain ⟨_, c, h⟩ := hb.tl (List.mem_of_getElem? hy) hk
      rcases e with e | e | e
      · exact ty_ne2 h hb.blk (by decide) e
      · obtain ⟨_, c', h'⟩ := hb.t2 e; exact ty_ne2 h h' (by decide) rfl
      · exact (hx k e).2 y (List.mem_of_getElem? hy) hk
    · exact ⟨M, by omega, hr⟩
    · exact ⟨M + 1, hM, by rw [show (ls.length + 1) / 2 = ls.length / 2 by omega]; exact hr2⟩
end
/-- what taking leaves -/
def TakeEnd (B gb : Nat) (w w' : World) (xs ls : List Value) (v1 v2 : Value) (At1 Al1 : Option Addr) : Prop :=
  ∃ xs' ls' v1' v2' much', BK B w' gb xs' ls' v1' v2' much' ∧ xs'.length ≤ xs.length + 2 ∧ ls'.length ≤ ls.length + 2 ∧ (xs'.length % 2 = 0 ∧ ls'.length % 2 = 0) ∧
    Same (fun k => k = gb ∨ v1.ownBlock = some k ∨ v2.ownBlock = some k ∨ At1.map (·.block) = some k ∨ Al1.map (·.block) = some k) w w' ∧ ∀ k, BF gb xs' ls' v1' v2' k → BF gb xs ls v1 v2 k ∨ At1.map (·.block) = some k ∨ Al1.map (·.block) = some k ∨ w.heap.size ≤ k
/-- in the loop that fills bytes -/
structure BFill (wo wr : World) (A : Option Addr) (c : Nat) (m j : Nat) : Prop where
  same : Same (fun k => A.map (·.block) = some k) wo wr
  row : (A = none ∧ c = 0) ∨ ∃ b cur, A = some ⟨b, 0, none⟩ ∧ wr.heap[b]? = some (.cells cur 5 (0, 0)) ∧ cur.size = c ∧ cur.toList.take j = bRow m j
theorem take_set1 {cur : Array Value} {j : Nat} {v : Value} {l : List Value} (hj : j < cur.size) (h : cur.toList.take j = l) : (cur.setIfInBounds j v).toList.take (j + 1) = l ++ [v] := by
  have hj' : j < cur.toList.length := by simpa using hj
  rw [Array.toList_setIfInBounds, List.take_add_one, List.getElem?_set_self hj', List.take_set_of_le (Nat.le_refl _), h]
  rfl
theorem BFill.next {wo wr : World} {b c m j : Nat} (h : BFill wo wr (some ⟨b, 0, none⟩) c m j) (hj : j < c) : BFill wo (wr.setCell ⟨b, j, none⟩ (.int .u8 (nv m j))) (some ⟨b, 0, none⟩) c m (j + 1) := by
  obtain ⟨hs, hr⟩ := h
  refine ⟨hs.trans (Same.set _ _ _ rfl), ?_⟩
  rcases hr with ⟨h, _⟩ | ⟨b', cur, hb, h1, h2, h3⟩
  · cases h
  · cases hb
    exact .inr ⟨b, _, rfl, YtancenklmfamnaaGreatW.PrintWords.blk_set h1 j _, by simpa using h2, by rw [bRow_succ]; exact take_set1 (by omega) h3⟩
theorem BFill.own {wo wr : World} {A : Option Addr} {c m j B : Nat} (h : BFill wo wr A c m j) (hj : j ≤ c) (hc : c ≤ maxLen) (hB : ∀ k, A.map (·.block) = some k → B ≤ k) : wr.ownsRow B 5 1 (.slice A j c) j (bRow m j) := by
  refine ⟨by rw [bRow_len, Nat.mul_one], ?_⟩
  rcases h.row with ⟨rfl, rfl⟩ | ⟨b, cur, rfl, h1, h2, h3⟩
  · exact .inl ⟨by rw [show j = 0 by omega], by omega⟩
  · exact .inr ⟨b, c, cur, rfl, hB b rfl, h1, hj, hc, by omega, by rw [Nat.mul_one]; exact h3⟩
section
variable {ops : Array Oper} {o : Oper} {a : Act} {Q : Exit → Act → World → Prop} {K : Act → World → Prop} {E : Prop}
theorem one_cell {w : World} {x : Value} {t : TypeId} : ∀ (j : Nat) (u : Value), [x][j]? = some u → (w.alloc (.cells #[x] t)).cell? ⟨w.heap.size, j, none⟩ = some u := fun j u hj => by
  rw [Lib.cell_of_heap (alloc_is w _)]
  simpa using hj
theorem two_cell {w : World} {x y : Value} {t : TypeId} : ∀ (j : Nat) (u : Value), [x, y][j]? = some u → (w.alloc (.cells #[x, y] t)).cell? ⟨w.heap.size, j, none⟩ = some u := fun j u hj => by
  rw [Lib.cell_of_heap (alloc_is w _)]
  simpa using hj
/-- append(x, mark) as one step -/
theorem step_app_b {w : World} (hw : Region.wanted o (yielded ops a.tmps) = true) (s x : Operand) (hop : o.op = Op.call { callee := Callee.builtin Builtin.append, args := #[s, x], argTypes := #[25, 25] })
    (B : Nat) (sv : Value) (n m : Nat) (hs : a.eval s = sv) (hf : w.ownsRow B 5 1 sv n (bRow m n)) (hn : n + 1 ≤ 3000000000000) (b1 : Nat) (hx : a.eval x = .slice (some ⟨b1, 0, none⟩) 1 1) (hc : ∀ (j : Nat) (u : Value), [Value.int .u8 (nv m n)][j]? = some u → w.cell? ⟨b1, j, none⟩ = some u) (hB : B ≤ w.heap.size)
    (hK : ∀ A' c' w', w'.ownsRow B 5 1 (.slice A' (n + 1) c') (n + 1) (bRow m (n + 1)) → w'.ownsRow B 5 1 sv n (bRow m n) → w.grownBy w' sv.ownBlock → ((Value.slice A' (n + 1) c').ownBlock = sv.ownBlock ∨ ∃ k, (Value.slice A' (n + 1) c').ownBlock = some k ∧ w.heap.size ≤ k) → K (a.put o.dst (.slice A' (n + 1) c')) w') :
    if Region.wanted o (yielded ops a.tmps) = true then Oper.wp Tryz.prog o a w K Q else E := by
  obtain ⟨i0, hi, hz0, hz1, hz2⟩ := info_parts info5
  obtain ⟨v', w', hrun, r1, r2, r3, r4⟩ := app_mark (w := w) (B := B) (t := 25) (ty := o.type) (e := 5) Tryz.underlying25 hi hz0 hz1 hz2 rfl (by decide) hf (b1 := b1) (ys := [Value.int .u8 (nv m n)]) rfl hc (fun u hu => by simp at hu; subst hu; rfl) (by omega) (by unfold maxLen; omega) hB
  rw [if_pos hw]
  unfold Oper.wp
  simp [execOp, hop, resolve, invoke, builtin, hs, hx, hrun, Result.andThen]
  rw [← bRow_succ] at r1
  obtain ⟨A', c', rfl⟩ := own_slice' r1
  exact hK A' c' w' r1 r2 r3 r4
theorem info25 : (Tryz.prog.info? 25).map (fun i => (i.zero, i.size, i.bytes)) = some (some (.slice none 0 0), 1, 24) := by kernel_rfl
theorem info40 : (Tryz.prog.info? 40).map (fun i => (i.zero, i.size, i.bytes)) = some (some (.slice none 0 0), 1, 24) := by kernel_rfl
/-- append(xs, x, y) as one step -/
theorem step_app_x {w : World} (hw : Region.wanted o (yielded ops a.tmps) = true) (s x : Operand) (hop : o.op = Op.call { callee := Callee.builtin Builtin.append, args := #[s, x], argTypes := #[52, 52] })
    (B : Nat) (sv : Value) (xs news : List Value) (hs : a.eval s = sv) (hown : w.ownsRow B 25 1 sv xs.length xs) (hB : B ≤ w.heap.size) (b1 : Nat) (hx : a.eval x = .slice (some ⟨b1, 0, none⟩) 2 2) (hq : news.length = 2)
    (hc : ∀ (j : Nat) (u : Value), news[j]? = some u → w.cell? ⟨b1, j, none⟩ = some u) (h1 : ∀ u ∈ news, u.oneCell' = true) (hl : xs.length + 2 ≤ 1099511627776)
    (hK : ∀ A c w', w'.ownsRow B 25 1 (.slice A (xs.length + 2) c) (xs ++ news).length (xs ++ news) → w.grownBy w' sv.ownBlock → ((Value.slice A (xs.length + 2) c).ownBlock = sv.ownBlock ∨ (Value.slice A (xs.length + 2) c).ownBlock = some w.heap.size) → K (a.put o.dst (.slice A (xs.length + 2) c)) w') :
    if Region.wanted o (yielded ops a.tmps) = true then Oper.wp Tryz.prog o a w K Q else E := by
  obtain ⟨i0, hi, hz0, hz1, hz2⟩ := info_parts info25
  rw [if_pos hw]
  obtain ⟨v', w', hrun, r1, r2, _, r4⟩ := run_append_own_at (P := Tryz.prog) w B 52 o.type 25 i0 (.slice none 0 0) 1 24 Tryz.underlying52 hi hz0 hz1 hz2 rfl (by decide) sv xs.length xs hown ⟨b1, 0, none⟩ 2 2 news (by rw [hq]) (fun j u hj => by rw [Addr.add_lit, Nat.zero_add]; exact hc j u hj) h1 (by unfold maxLen; omega) (by omega) hB
  unfold Oper.wp
  simp [execOp, hop, resolve, invoke, builtin, hs, hx, hrun, Result.andThen]
  have hlen : (xs ++ news).length = xs.length + 2 := by rw [List.length_append, hq]
  obtain ⟨A, c, rfl⟩ := own_slice' r1
  exact hK A c w' (by rw [hlen]; exact r1) r2 r4
end
theorem pair_one (A1 A2 : Option Addr) (n1 c1 n2 c2 : Nat) : ∀ u ∈ [Value.slice A1 n1 c1, Value.slice A2 n2 c2], u.oneCell' = true := fun u hu => by
  simp at hu
  rcases hu with rfl | rfl <;> rfl
/-- behind the two appends of bytes -/
def MidB (B gb : Nat) (w3 wz : World) (xs ls : List Value) (v1 v2 : Value) (q : Int) (At1 : Option Addr) (j ct : Nat) : Prop :=
  ∃ v1' v', BK B wz gb (xs ++ [.slice At1 j ct, v']) ls v1' v2 q ∧ Same (fun k => k = gb ∨ v1.ownBlock = some k ∨ At1.map (·.block) = some k) w3 wz ∧ (∀ k, v1'.ownBlock = some k → v1.ownBlock = some k ∨ w3.heap.size ≤ k) ∧ ∀ k, v'.ownBlock = some k → At1.map (·.block) = some k ∨ w3.heap.size ≤ k
theorem take_b_end {B gb : Nat} {w3 wr w4 w5 : World} {xs ls : List Value} {v1 v2 v' v1' : Value} {q : Int} {At1 : Option Addr} {j ct : Nat} {mk two : Obj} (hb : BK B w3 gb xs ls v1 v2 q) (hev : xs.length % 2 = 0) (hj : j + 1 ≤ 3000000000000) (hf : BFill w3 wr At1 ct (xs.length / 2) j)
    (hx : ∀ k, At1.map (·.block) = some k → (∃ c, w3.heap[k]? = some (.cells c 5 (0, 0))) ∧ ¬ BF gb xs ls v1 v2 k)
    (h1 : w4.ownsRow B 5 1 v' (j + 1) (bRow (xs.length / 2) (j + 1))) (h2 : w4.ownsRow B 5 1 (.slice At1 j ct) j (bRow (xs.length / 2) j)) (h3 : (wr.alloc mk).grownBy w4 (Value.slice At1 j ct).ownBlock) (h4 : v'.ownBlock = (Value.slice At1 j ct).ownBlock ∨ ∃ k, v'.ownBlock = some k ∧ (wr.alloc mk).heap.size ≤ k)
    (h5 : w5.ownsRow B 25 1 v1' (xs ++ [.slice At1 j ct, v']).length (xs ++ [.slice At1 j ct, v'])) (h6 : (w4.alloc two).grownBy w5 v1.ownBlock) (h7 : v1'.ownBlock = v1.ownBlock ∨ v1'.ownBlock = some (w4.alloc two).heap.size) :
    MidB B gb w3 (w5.setCell ⟨gb, 0, none⟩ v1') xs ls v1 v2 q At1 j ct := by
  have hz1 := hf.same.2.2.2.1
  have hz2 := h3.size
  have hz3 := h6.size
  simp at hz2 hz3
  have sA : Same (fun k => k = gb ∨ v1.ownBlock = some k ∨ At1.map (·.block) = some k) w3 w4 := (hf.same.imp fun k e => .inr (.inr e)).trans ((Same.below (below_alloc wr mk)).trans (Same.grown h3 fun k e => .inl (.inr (.inr (by rw [← block_map At1 j ct]; exact e)))))
  have sB : Same (fun k => v1.ownBlock = some k) w4 w5 := (Same.below (below_alloc w4 two)).trans (Same.grown h6 fun k e => .inl e)
  have sC : Same (fun k => k = gb) w5 (w5.setCell ⟨gb, 0, none⟩ v1') := same9 _ _ 0 _
  have sAll : Same (fun k => k = gb ∨ v1.ownBlock = some k ∨ At1.map (·.block) = some k) w3 (w5.setCell ⟨gb, 0, none⟩ v1') := (sA.trans (sB.imp fun k e => .inr (.inl e))).trans (sC.imp fun k e => .inl e)
  have hgA : ∀ k, At1.map (·.block) = some k → k ≠ gb := fun k hk e => (hx k hk).2 (.inl e)
  have hv1A : ∀ k, At1.map (·.block) = some k → v1.ownBlock ≠ some k := fun k hk e => (hx k hk).2 (.inr (.inl e))
  have hg4 : w4.heap[gb]? = some (.cells #[v1, v2, .int .i64 q] 55 (0, 0)) := by
    have s4 : Same (fun k => At1.map (·.block) = some k) w3 w4 := hf.same.trans ((Same.below (below_alloc wr mk)).trans (Same.grown h3 fun k e => .inl (by rw [← block_map At1 j ct]; exact e)))
    exact s4.at hb.blk fun e => hgA gb e rfl
  have hg5 : w5.heap[gb]? = some (.cells #[v1, v2, .int .i64 q] 55 (0, 0)) := sB.at hg4 fun e => by
    obtain ⟨_, c, h⟩ := hb.t1 e
    exact ty_ne2 h hb.blk (by decide) rfl
  -- the two rows, to the end
  have hrow : ∀ {v : Value} {n : Nat} {xs' : List Value}, w4.ownsRow B 5 1 v n xs' → (∀ k, v.ownBlock = some k → At1.map (·.block) = some k ∨ w3.heap.size ≤ k) → (w5.setCell ⟨gb, 0, none⟩ v1').ownsRow B 5 1 v n xs' := fun {v n xs'} h hk => by
    have hA := row_farN h sB fun k hk1 e => by
      rcases hk k hk1 with h8 | h8
      · exact hv1A k h8 e
      · obtain ⟨_, c, h9⟩ := hb.t1 e
        have := at_lt h9
        omega
    exact row_farN hA sC fun k hk1 e => by
      rcases hk k hk1 with h8 | h8
      · exact hgA k h8 e
      · have := at_lt hb.blk
        omega
  have hv'k : ∀ k, v'.ownBlock = some k → At1.map (·.block) = some k ∨ w3.heap.size ≤ k := fun k hk => by
    rcases h4 with h4 | ⟨k', h4, h8⟩
    · rw [h4, block_map] at hk
      exact .inl hk
    · rw [h4] at hk
      cases hk
      simp at h8
      right; omega
  refine ⟨v1', v', BK.addB hb hev hj (x := .slice At1 j ct) (sAll.imp fun k e => by rw [block_map]; exact e) (fun k hk => ?_) ?_ (row_farN h5 sC fun k hk e => ?_) (hrow h2 fun k hk => .inl (by rw [block_map] at hk; exact hk)) (hrow h1 hv'k), sAll, fun k hk => ?_, hv'k⟩
  · rw [block_map] at hk
    exact ⟨(hx k hk).1, fun y hy e => (hx k hk).2 (.inr (.inr (.inr (.inl ⟨y, hy, e⟩))))⟩
  · have := YtancenklmfamnaaGreatW.PrintWords.blk_set hg5 0 v1'
    simpa using this
  · obtain ⟨_, c, h8⟩ := row_tyN h5 hk
    exact ty_ne2 h8 hg5 (by decide) e
  · rcases h7 with h7 | h7
    · rw [h7] at hk; exact .inl hk
    · rw [h7] at hk
      cases hk
      simp
      right; omega
theorem grown_drew {W W' : World} {row : Option Nat} (h : W.drew.grownBy W' row) : W.grownBy W' row := ⟨h.os, h.tape, h.output, h.size, h.block⟩
theorem book_at4 {B gb : Nat} {w3 wr w4 : World} {xs ls : List Value} {v1 v2 : Value} {q : Int} {At1 : Option Addr} {j ct m : Nat} {mk : Obj} (hb : BK B w3 gb xs ls v1 v2 q) (hf : BFill w3 wr At1 ct m j)
    (hx : ∀ k, At1.map (·.block) = some k → (∃ c, w3.heap[k]? = some (.cells c 5 (0, 0))) ∧ ¬ BF gb xs ls v1 v2 k) (h3 : (wr.alloc mk).grownBy w4 (Value.slice At1 j ct).ownBlock) :
    w4.heap[gb]? = some (.cells #[v1, v2, .int .i64 q] 55 (0, 0)) ∧ w4.ownsRow B 25 1 v1 xs.length xs ∧ B ≤ w4.heap.size := by
  have s4 : Same (fun k => At1.map (·.block) = some k) w3 w4 := hf.same.trans ((Same.below (below_alloc wr mk)).trans (Same.grown h3 fun k e => .inl (by rw [← block_map At1 j ct]; exact e)))
  refine ⟨s4.at hb.blk fun e => (hx gb e).2 (.inl rfl), row_farN hb.o1 s4 fun k hk e => (hx k e).2 (.inr (.inl hk)), ?_⟩
  have := hb.range (k := gb) (.inl rfl)
  have := s4.2.2.2.1
  omega
theorem book_at5 {gb : Nat} {w4 w5 : World} {v1 v2 : Value} {q : Int} {two : Obj} {B : Nat} {xs : List Value} (hg : w4.heap[gb]? = some (.cells #[v1, v2, .int .i64 q] 55 (0, 0))) (ho : w4.ownsRow B 25 1 v1 xs.length xs) (h6 : (w4.alloc two).grownBy w5 v1.ownBlock) :
    w5.heap[gb]? = some (.cells #[v1, v2, .int .i64 q] 55 (0, 0)) := by
  have sB : Same (fun k => v1.ownBlock = some k) w4 w5 := (Same.below (below_alloc w4 two)).trans (Same.grown h6 fun k e => .inl e)
  exact sB.at hg fun e => by
    obtain ⟨_, c, h⟩ := row_tyN ho e
    exact ty_ne2 h hg (by decide) rfl
/-- in the loop that fills lists -/
structure LFill (wo wr : World) (A : Option Addr) (c : Nat) (m j : Nat) : Prop where
  same : Same (fun k => A.map (·.block) = some k) wo wr
  row : (A = none ∧ c = 0) ∨ ∃ b cur, A = some ⟨b, 0, none⟩ ∧ wr.heap[b]? = some (.cells cur 70 (0, 0)) ∧ cur.size = c * 4 ∧ cur.toList.take (j * 4) = hRow m j
theorem fill4 {wr : World} {b c j m : Nat} {cur : Array Value} (h1 : wr.heap[b]? = some (.cells cur 70 (0, 0))) (h2 : cur.size = c * 4) (h3 : cur.toList.take (j * 4) = hRow m j) (hj : j < c) (x0 x1 x2 x3 : Value) (hx : hCells m = [x0, x1, x2, x3]) :
    ∃ cur', ((((wr.setCell ⟨b, j * 4, none⟩ x0).setCell ⟨b, j * 4 + 1, none⟩ x1).setCell ⟨b, j * 4 + 2, none⟩ x2).setCell ⟨b, j * 4 + 3, none⟩ x3).heap[b]? = some (.cells cur' 70 (0, 0)) ∧ cur'.size = c * 4 ∧ cur'.toList.take ((j + 1) * 4) = hRow m (j + 1) := by
  have b1 := YtancenklmfamnaaGreatW.PrintWords.blk_set h1 (j * 4) x0
  have q1 := take_set1 (v := x0) (by omega : j * 4 < cur.size) h3
  have z1 : (cur.setIfInBounds (j * 4) x0).size = c * 4 := by rw [Array.size_setIfInBounds]; exact h2
  generalize cur.setIfInBounds (j * 4) x0 = cur1 at b1 q1 z1
  have b2 := YtancenklmfamnaaGreatW.PrintWords.blk_set b1 (j * 4 + 1) x1
  have q2 := take_set1 (v := x1) (by omega : j * 4 + 1 < cur1.size) q1
  have z2 : (cur1.setIfInBounds (j * 4 + 1) x1).size = c * 4 := by rw [Array.size_setIfInBounds]; exact z1
  generalize cur1.setIfInBounds (j * 4 + 1) x1 = cur2 at b2 q2 z2
  have b3 := YtancenklmfamnaaGreatW.PrintWords.blk_set b2 (j * 4 + 2) x2
  have q3 := take_set1 (v := x2) (by omega : j * 4 + 1 + 1 < cur2.size) q2
  have z3 : (cur2.setIfInBounds (j * 4 + 2) x2).size = c * 4 := by rw [Array.size_setIfInBounds]; exact z2
  generalize hc3 : cur2.setIfInBounds (j * 4 + 2) x2 = cur3 at b3 z3
  have q3' : cur3.toList.take (j * 4 + 1 + 1 + 1) = hRow m j ++ [x0] ++ [x1] ++ [x2] := by rw [← hc3]; exact q3
  have b4 := YtancenklmfamnaaGreatW.PrintWords.blk_set b3 (j * 4 + 3) x3
  have q4 := take_set1 (v := x3) (by omega : j * 4 + 1 + 1 + 1 < cur3.size) q3'
  refine ⟨_, b4, by rw [Array.size_setIfInBounds]; exact z3, ?_⟩
  have e : (j + 1) * 4 = j * 4 + 1 + 1 + 1 + 1 := by omega
  rw [e, hRow_succ, hx]
  have e2 : hRow m j ++ [x0, x1, x2, x3] = hRow m j ++ [x0] ++ [x1] ++ [x2] ++ [x3] := by simp
  rw [e2]
  exact q4
theorem LFill.next {wo wr : World} {b c m j : Nat} (h : LFill wo wr (some ⟨b, 0, none⟩) c m j) (hj : j < c) : LFill wo ((((wr.setCell ⟨b, j * 4, none⟩ (.string ⟨#[]⟩)).setCell ⟨b, j * 4 + 1, none⟩ (.int .i64 0)).setCell ⟨b, j * 4 + 2, none⟩ (.int .i64 0)).setCell ⟨b, j * 4 + 3, none⟩ (.int .i64 (-5 - (m : Int)))) (some ⟨b, 0, none⟩) c m (j + 1) := by
  refine ⟨h.same.trans (((Same.set (S := fun k => some k = some b) wr ⟨b, j * 4, none⟩ _ rfl).trans (Same.set _ _ _ rfl)).trans (Same.set _ _ _ rfl) |>.trans (Same.set _ _ _ rfl) |>.imp fun k hk => hk.symm), ?_⟩
  rcases h.row with ⟨h, _⟩ | ⟨b', cur, hb, h1, h2, h3⟩
  · cases h
  · have hbb : b' = b := by injection hb with hb; injection hb with hb; exact hb.symm
    subst hbb
    obtain ⟨cur', r1, r2, r3⟩ := fill4 h1 h2 h3 hj _ _ _ _ rfl
    exact .inr ⟨b', cur', rfl, r1, r2, r3⟩
theorem LFill.own {wo wr : World} {A : Option Addr} {c m j B : Nat} (h : LFill wo wr A c m j) (hj : j ≤ c) (hc : c ≤ maxLen) (hB : ∀ k, A.map (·.block) = some k → B ≤ k) : wr.ownsRow B 70 4 (.slice A j c) j (hRow m j) := by
  refine ⟨by rw [hRow_len], ?_⟩
  rcases h.row with ⟨rfl, rfl⟩ | ⟨b, cur, rfl, h1, h2, h3⟩
  · exact .inl ⟨by rw [show j = 0 by omega], by omega⟩
  · exact .inr ⟨b, c, cur, rfl, hB b rfl, h1, hj, hc, h2, h3⟩
section
variable {ops : Array Oper} {o : Oper} {a : Act} {Q : Exit → Act → World → Prop} {K : Act → World → Prop} {E : Prop}
/-- append(x, mark) as one step -/
theorem step_app_l {w : World} (hw : Region.wanted o (yielded ops a.tmps) = true) (s x : Operand) (hop : o.op = Op.call { callee := Callee.builtin Builtin.append, args := #[s, x], argTypes := #[40, 40] })
    (B : Nat) (sv : Value) (n m : Nat) (hs : a.eval s = sv) (hf : w.ownsRow B 70 4 sv n (hRow m n)) (hn : n + 1 ≤ 3000000000000) (b1 : Nat) (hx : a.eval x = .slice (some ⟨b1, 0, none⟩) 1 1) (hc : ∀ (j : Nat) (u : Value), (hCells m)[j]? = some u → w.cell? ⟨b1, j, none⟩ = some u) (hB : B ≤ w.heap.size)
    (hK : ∀ A' c' w', w'.ownsRow B 70 4 (.slice A' (n + 1) c') (n + 1) (hRow m (n + 1)) → w'.ownsRow B 70 4 sv n (hRow m n) → w.grownBy w' sv.ownBlock → ((Value.slice A' (n + 1) c').ownBlock = sv.ownBlock ∨ ∃ k, (Value.slice A' (n + 1) c').ownBlock = some k ∧ w.heap.size ≤ k) → K (a.put o.dst (.slice A' (n + 1) c')) w') :
    if Region.wanted o (yielded ops a.tmps) = true then Oper.wp Tryz.prog o a w K Q else E := by
  obtain ⟨i0, hi, hz0, hz1, hz2⟩ := info_parts info70
  obtain ⟨v', w', hrun, r1, r2, r3, r4⟩ := app_mark (w := w) (B := B) (t := 40) (ty := o.type) (e := 70) Tryz.underlying40 hi hz0 hz1 hz2 rfl (by decide) hf (b1 := b1) (ys := hCells m) rfl hc (fun u hu => by simp [hCells] at hu; rcases hu with rfl | rfl | rfl | rfl <;> rfl) (by omega) (by unfold maxLen; omega) hB
  rw [if_pos hw]
  unfold Oper.wp
  simp [execOp, hop, resolve, invoke, builtin, hs, hx, hrun, Result.andThen]
  rw [← hRow_succ] at r1
  obtain ⟨A', c', rfl⟩ := own_slice' r1
  exact hK A' c' w' r1 r2 r3 r4
/-- append(xs, x, y) as one step -/
theorem step_app_y {w : World} (hw : Region.wanted o (yielded ops a.tmps) = true) (s x : Operand) (hop : o.op = Op.call { callee := Callee.builtin Builtin.append, args := #[s, x], argTypes := #[53, 53] })
    (B : Nat) (sv : Value) (xs news : List Value) (hs : a.eval s = sv) (hown : w.ownsRow B 40 1 sv xs.length xs) (hB : B ≤ w.heap.size) (b1 : Nat) (hx : a.eval x = .slice (some ⟨b1, 0, none⟩) 2 2) (hq : news.length = 2)
    (hc : ∀ (j : Nat) (u : Value), news[j]? = some u → w.cell? ⟨b1, j, none⟩ = some u) (h1 : ∀ u ∈ news, u.oneCell' = true) (hl : xs.length + 2 ≤ 1099511627776)
    (hK : ∀ A c w', w'.ownsRow B 40 1 (.slice A (xs.length + 2) c) (xs ++ news).length (xs ++ news) → w.grownBy w' sv.ownBlock → ((Value.slice A (xs.length + 2) c).ownBlock = sv.ownBlock ∨ (Value.slice A (xs.length + 2) c).ownBlock = some w.heap.size) → K (a.put o.dst (.slice A (xs.length + 2) c)) w') :
    if Region.wanted o (yielded ops a.tmps) = true then Oper.wp Tryz.prog o a w K Q else E := by
  obtain ⟨i0, hi, hz0, hz1, hz2⟩ := info_parts info40
  rw [if_pos hw]
  obtain ⟨v', w', hrun, r1, r2, _, r4⟩ := run_append_own_at (P := Tryz.prog) w B 53 o.type 40 i0 (.slice none 0 0) 1 24 Tryz.underlying53 hi hz0 hz1 hz2 rfl (by decide) sv xs.length xs hown ⟨b1, 0, none⟩ 2 2 news (by rw [hq]) (fun j u hj => by rw [Addr.add_lit, Nat.zero_add]; exact hc j u hj) h1 (by unfold maxLen; omega) (by omega) hB
  unfold Oper.wp
  simp [execOp, hop, resolve, invoke, builtin, hs, hx, hrun, Result.andThen]
  have hlen : (xs ++ news).length = xs.length + 2 := by rw [List.length_append, hq]
  obtain ⟨A, c, rfl⟩ := own_slice' r1
  exact hK A c w' (by rw [hlen]; exact r1) r2 r4
end
theorem four_cell {w : World} {m : Nat} {t : TypeId} : ∀ (j : Nat) (u : Value), (hCells m)[j]? = some u → (w.alloc (.cells #[.string ⟨#[]⟩, .int .i64 0, .int .i64 0, .int .i64 (-5 - (m : Int))] t)).cell? ⟨w.heap.size, j, none⟩ = some u := fun j u hj => by
  rw [Lib.cell_of_heap (alloc_is w _)]
  simpa [hCells] using hj
/-- behind the two appends of bytes -/
def MidL (B gb : Nat) (w3 wz : World) (xs ls : List Value) (v1 v2 : Value) (q : Int) (Al1 : Option Addr) (j ct : Nat) : Prop :=
  ∃ v1' v', BK B wz gb xs (ls ++ [.slice Al1 j ct, v']) v1 v1' q ∧ Same (fun k => k = gb ∨ v2.ownBlock = some k ∨ Al1.map (·.block) = some k) w3 wz ∧ (∀ k, v1'.ownBlock = some k → v2.ownBlock = some k ∨ w3.heap.size ≤ k) ∧ ∀ k, v'.ownBlock = some k → Al1.map (·.block) = some k ∨ w3.heap.size ≤ k
theorem take_l_end {B gb : Nat} {w3 wr w4 w5 : World} {xs ls : List Value} {v1 v2 v' v1' : Value} {q : Int} {Al1 : Option Addr} {j ct : Nat} {mk two : Obj} (hb : BK B w3 gb xs ls v1 v2 q) (hev : ls.length % 2 = 0) (hj : j + 1 ≤ 3000000000000) (hf : LFill w3 wr Al1 ct (ls.length / 2) j)
    (hx : ∀ k, Al1.map (·.block) = some k → (∃ c, w3.heap[k]? = some (.cells c 70 (0, 0))) ∧ ¬ BF gb xs ls v1 v2 k)
    (h1 : w4.ownsRow B 70 4 v' (j + 1) (hRow (ls.length / 2) (j + 1))) (h2 : w4.ownsRow B 70 4 (.slice Al1 j ct) j (hRow (ls.length / 2) j)) (h3 : (wr.alloc mk).grownBy w4 (Value.slice Al1 j ct).ownBlock) (h4 : v'.ownBlock = (Value.slice Al1 j ct).ownBlock ∨ ∃ k, v'.ownBlock = some k ∧ (wr.alloc mk).heap.size ≤ k)
    (h5 : w5.ownsRow B 40 1 v1' (ls ++ [.slice Al1 j ct, v']).length (ls ++ [.slice Al1 j ct, v'])) (h6 : (w4.alloc two).grownBy w5 v2.ownBlock) (h7 : v1'.ownBlock = v2.ownBlock ∨ v1'.ownBlock = some (w4.alloc two).heap.size) :
    MidL B gb w3 (w5.setCell ⟨gb, 1, none⟩ v1') xs ls v1 v2 q Al1 j ct := by
  have hz1 := hf.same.2.2.2.1
  have hz2 := h3.size
  have hz3 := h6.size
  simp at hz2 hz3
  have sA : Same (fun k => k = gb ∨ v2.ownBlock = some k ∨ Al1.map (·.block) = some k) w3 w4 := (hf.same.imp fun k e => .inr (.inr e)).trans ((Same.below (below_alloc wr mk)).trans (Same.grown h3 fun k e => .inl (.inr (.inr (by rw [← block_map Al1 j ct]; exact e)))))
  have sB : Same (fun k => v2.ownBlock = some k) w4 w5 := (Same.below (below_alloc w4 two)).trans (Same.grown h6 fun k e => .inl e)
  have sC : Same (fun k => k = gb) w5 (w5.setCell ⟨gb, 1, none⟩ v1') := same9 _ _ 1 _
  have sAll : Same (fun k => k = gb ∨ v2.ownBlock = some k ∨ Al1.map (·.block) = some k) w3 (w5.setCell ⟨gb, 1, none⟩ v1') := (sA.trans (sB.imp fun k e => .inr (.inl e))).trans (sC.imp fun k e => .inl e)
  have hgA : ∀ k, Al1.map (·.block) = some k → k ≠ gb := fun k hk e => (hx k hk).2 (.inl e)
  have hv1A : ∀ k, Al1.map (·.block) = some k → v2.ownBlock ≠ some k := fun k hk e => (hx k hk).2 (.inr (.inr (.inl e)))
  have hg4 : w4.heap[gb]? = some (.cells #[v1, v2, .int .i64 q] 55 (0, 0)) := by
    have s4 : Same (fun k => Al1.map (·.block) = some k) w3 w4 := hf.same.trans ((Same.below (below_alloc wr mk)).trans (Same.grown h3 fun k e => .inl (by rw [← block_map Al1 j ct]; exact e)))
    exact s4.at hb.blk fun e => hgA gb e rfl
  have hg5 : w5.heap[gb]? = some (.cells #[v1, v2, .int .i64 q] 55 (0, 0)) := sB.at hg4 fun e => by
    obtain ⟨_, c, h⟩ := hb.t2 e
    exact ty_ne2 h hb.blk (by decide) rfl
  -- the two rows, to the end
  have hrow : ∀ {v : Value} {n : Nat} {xs' : List Value}, w4.ownsRow B 70 4 v n xs' → (∀ k, v.ownBlock = some k → Al1.map (·.block) = some k ∨ w3.heap.size ≤ k) → (w5.setCell ⟨gb, 1, none⟩ v1').ownsRow B 70 4 v n xs' := fun {v n xs'} h hk => by
    have hA := row_farN h sB fun k hk1 e => by
      rcases hk k hk1 with h8 | h8
      · exact hv1A k h8 e
      · obtain ⟨_, c, h9⟩ := hb.t2 e
        have := at_lt h9
        omega
    exact row_farN hA sC fun k hk1 e => by
      rcases hk k hk1 with h8 | h8
      · exact hgA k h8 e
      · have := at_lt hb.blk
        omega
  have hv'k : ∀ k, v'.ownBlock = some k → Al1.map (·.block) = some k ∨ w3.heap.size ≤ k := fun k hk => by
    rcases h4 with h4 | ⟨k', h4, h8⟩
    · rw [h4, block_map] at hk
      exact .inl hk
    · rw [h4] at hk
      cases hk
      simp at h8
      right; omega
  refine ⟨v1', v', BK.addL hb hev hj (x := .slice Al1 j ct) (sAll.imp fun k e => by rw [block_map]; exact e) (fun k hk => ?_) ?_ (row_farN h5 sC fun k hk e => ?_) (hrow h2 fun k hk => .inl (by rw [block_map] at hk; exact hk)) (hrow h1 hv'k), sAll, fun k hk => ?_, hv'k⟩
  · rw [block_map] at hk
    exact ⟨(hx k hk).1, fun y hy e => (hx k hk).2 (.inr (.inr (.inr (.inr ⟨y, hy, e⟩))))⟩
  · have := YtancenklmfamnaaGreatW.PrintWords.blk_set hg5 1 v1'
    simpa using this
  · obtain ⟨_, c, h8⟩ := row_tyN h5 hk
    exact ty_ne2 h8 hg5 (by decide) e
  · rcases h7 with h7 | h7
    · rw [h7] at hk; exact .inl hk
    · rw [h7] at hk
      cases hk
      simp
      right; omega
theorem book_at4l {B gb : Nat} {w3 wr w4 : World} {xs ls : List Value} {v1 v2 : Value} {q : Int} {Al1 : Option Addr} {j ct m : Nat} {mk : Obj} (hb : BK B w3 gb xs ls v1 v2 q) (hf : LFill w3 wr Al1 ct m j)
    (hx : ∀ k, Al1.map (·.block) = some k → (∃ c, w3.heap[k]? = some (.cells c 70 (0, 0))) ∧ ¬ BF gb xs ls v1 v2 k) (h3 : (wr.alloc mk).grownBy w4 (Value.slice Al1 j ct).ownBlock) :
    w4.heap[gb]? = some (.cells #[v1, v2, .int .i64 q] 55 (0, 0)) ∧ w4.ownsRow B 40 1 v2 ls.length ls ∧ B ≤ w4.heap.size := by
  have s4 : Same (fun k => Al1.map (·.block) = some k) w3 w4 := hf.same.trans ((Same.below (below_alloc wr mk)).trans (Same.grown h3 fun k e => .inl (by rw [← block_map Al1 j ct]; exact e)))
  refine ⟨s4.at hb.blk fun e => (hx gb e).2 (.inl rfl), row_farN hb.o2 s4 fun k hk e => (hx k e).2 (.inr (.inr (.inl hk))), ?_⟩
  have := hb.range (k := gb) (.inl rfl)
  have := s4.2.2.2.1
  omega
theorem book_at5l {gb : Nat} {w4 w5 : World} {v1 v2 : Value} {q : Int} {two : Obj} {B : Nat} {ls : List Value} (hg : w4.heap[gb]? = some (.cells #[v1, v2, .int .i64 q] 55 (0, 0))) (ho : w4.ownsRow B 40 1 v2 ls.length ls) (h6 : (w4.alloc two).grownBy w5 v2.ownBlock) :
    w5.heap[gb]? = some (.cells #[v1, v2, .int .i64 q] 55 (0, 0)) := by
  have sB : Same (fun k => v2.ownBlock = some k) w4 w5 := (Same.below (below_alloc w4 two)).trans (Same.grown h6 fun k e => .inl e)
  exact sB.at hg fun e => by
    obtain ⟨_, c, h⟩ := row_tyN ho e
    exact ty_ne2 h hg (by decide) rfl
end Go.Proofs.YtancenklmfamnaaGreat.Sh
