/- ShelfFresh: what is appended to the answers that are left untouched. -/
import Derived.Test.YtancenklmfamnaaGreatShFr7
set_option linter.unusedVariables false
set_option linter.unusedSimpArgs false
namespace Go.Proofs.YtancenklmfamnaaGreat.Sh
open Go.RowKit Go.Maps Go.Sort Go.Shelf
open Go.Proofs Go.MuLone
open Go.Proofs.YtancenklmfamnaaGreatW.PrintWords (Reps OwnRow Kd ReadsRow)
open PShelfPlays (S70 S104 S115 k70 k104 k115)

theorem info43 : (Tryz.prog.info? 43).map (fun i => (i.zero, i.size, i.bytes)) = some (some (.agg #[.slice none 0 0, .int .i64 0, .slice none 0 0, .int .i64 0]), 4, 64) := by kernel_rfl
section
variable {ops : Array Oper} {o : Oper} {a : Act} {Q : Exit → Act → World → Prop} {K : Act → World → Prop} {E : Prop}
/-- append(answers, t) as one step -/
theorem step_app_t {w : World} (hw : Region.wanted o (yielded ops a.tmps) = true) (s x : Operand) (hop : o.op = Op.call { callee := Callee.builtin Builtin.append, args := #[s, x], argTypes := #[58, 58] })
    (B : Nat) (sv : Value) (n : Nat) (xs ys : List Value) (hs : a.eval s = sv) (hown : w.ownsRow B 43 4 sv n xs) (hB : B ≤ w.heap.size) (b1 : Nat) (hx : a.eval x = .slice (some ⟨b1, 0, none⟩) 1 1) (hq : ys.length = 4)
    (hc : ∀ (j : Nat) (u : Value), ys[j]? = some u → w.cell? ⟨b1, j, none⟩ = some u) (h1 : ∀ u ∈ ys, u.oneCell' = true) (hl : n + 1 ≤ 1000000000001)
    (hK : ∀ A c w', w'.ownsRow B 43 4 (.slice A (n + 1) c) (n + 1) (xs ++ ys) → w.grownBy w' sv.ownBlock → ((Value.slice A (n + 1) c).ownBlock = sv.ownBlock ∨ (Value.slice A (n + 1) c).ownBlock = some w.heap.size) → K (a.put o.dst (.slice A (n + 1) c)) w') :
    if Region.wanted o (yielded ops a.tmps) = true then Oper.wp Tryz.prog o a w K Q else E := by
  obtain ⟨i0, hi, hz0, hz1, hz2⟩ := info_parts info43
  rw [if_pos hw]
  obtain ⟨v', w', hrun, r1, r2, _, r4⟩ := run_append_own_at (P := Tryz.prog) w B 58 o.type 43 i0 (.agg #[.slice none 0 0, .int .i64 0, .slice none 0 0, .int .i64 0]) 4 64 Tryz.underlying58 hi hz0 hz1 hz2 rfl (by decide) sv n xs hown ⟨b1, 0, none⟩ 1 1 ys (by rw [hq]) (fun j u hj => by rw [Addr.add_lit, Nat.zero_add]; exact hc j u hj) h1 (by unfold maxLen; omega) (by omega) hB
  unfold Oper.wp
  simp [execOp, hop, resolve, invoke, builtin, hs, hx, hrun, Result.andThen]
  obtain ⟨A, c, rfl⟩ := own_slice' r1
  exact hK A c w' r1 r2 r4
set_option maxRecDepth 100000 in
/-- append(nil, bytes...) as one step -/
theorem step_copy_b {w : World} (hw : Region.wanted o (yielded ops a.tmps) = true) (x : Operand) (hop : o.op = Op.call { callee := Callee.builtin Builtin.append, args := #[.const (.slice none 0 0), x], argTypes := #[25, 25] })
    (B : Nat) (A1 : Option Addr) (n1 c1 : Nat) (dat : List Int) (hx : a.eval x = .slice A1 n1 c1) (hr : BytesAt w A1 n1 c1 dat) (hl : dat.length ≤ 2000000000000) (hB : B ≤ w.heap.size)
    (hK : ∀ A c w', w'.ownsRow B 5 1 (.slice A dat.length c) dat.length (dat.map encB) → Below w.heap.size w w' → (∀ k, A.map (·.block) = some k → w.heap.size ≤ k) → K (a.put o.dst (.slice A dat.length c)) w') :
    if Region.wanted o (yielded ops a.tmps) = true then Oper.wp Tryz.prog o a w K Q else E := by
  obtain ⟨rfl, hc, hC⟩ := hr
  obtain ⟨v1, W1, h1, h2, h3, h4⟩ := copy_bytes (B0 := B) hC hc (by omega) hB o.type
  rw [if_pos hw]
  unfold Oper.wp
  have hs0 : a.eval (.const (.slice none 0 0)) = .slice none 0 0 := rfl
  simp [execOp, hop, resolve, invoke, builtin, hs0, hx, h1, Result.andThen]
  obtain ⟨A, c, rfl⟩ := own_slice' h2
  exact hK A c W1 h2 h3 fun k hk => h4 k (by rw [block_map]; exact hk)
def lsC (tls : List LM) : List Value := (tls.map cellsOf).flatten
theorem lsC_len (tls : List LM) : (lsC tls).length = tls.length * 4 := by
  unfold lsC
  induction tls with
  | nil => rfl
  | cons x l ih =>
    rw [List.map_cons, List.flatten_cons, List.length_append, ih]
    simp [cellsOf]
    omega
theorem lsC_reps (tls : List LM) : Reps RL 4 tls (lsC tls) := by
  refine ⟨lsC_len tls, ?_⟩
  unfold lsC
  induction tls with
  | nil => intro j p h; simp at h
  | cons x l ih =>
    intro j p h
    match j, h with
    | 0, h =>
      simp at h
      subst h
      simp [RL, cellsOf]
    | j + 1, h =>
      have := ih j p (by simpa using h)
      unfold RL at *
      rw [← this, List.map_cons, List.flatten_cons, show (j + 1) * 4 = (cellsOf x).length + j * 4 by simp [cellsOf]; omega, List.drop_append, List.drop_eq_nil_of_le (by omega), List.nil_append, Nat.add_sub_cancel_left]
theorem held_cells {w : World} {A : Option Addr} {n c : Nat} {tls : List LM} (h : HeldAt w A n c tls) (hn : 0 < n) : ∃ ad, A = some ad ∧ ∀ j u, (lsC tls)[j]? = some u → w.cell? (ad.add j) = some u := by
  obtain ⟨rfl, _, h1, h2, h3⟩ := h
  obtain ⟨ad, rfl, h4⟩ := h3 (by simpa using hn)
  refine ⟨ad, rfl, fun j u hj => ?_⟩
  have hjl := (List.getElem?_eq_some_iff.1 hj).1
  rw [lsC_len] at hjl
  obtain ⟨m, hm⟩ : ∃ m, tls[j / 4]? = some m := ⟨_, List.getElem?_eq_getElem (by omega)⟩
  obtain ⟨cs, e1, e2, e3⟩ := h4 (j / 4) (h70 m) (by rw [List.getElem?_map, hm]; rfl)
  have e4 : cs = cellsOf m := PShelfPlays.k70_open e2
  have e5 := (lsC_reps tls).2 (j / 4) m hm
  unfold RL at e5
  have e6 : (cellsOf m)[j % 4]? = some u := by
    rw [← e5, List.getElem?_take_of_lt (by omega), List.getElem?_drop, show j / 4 * 4 + j % 4 = j by omega]
    exact hj
  have := e3 (j % 4) u (by rw [e4]; exact e6)
  rwa [show j / 4 * k70.sz + j % 4 = j by show j / 4 * 4 + j % 4 = j; omega] at this
theorem lsC_one (tls : List LM) : ∀ u ∈ lsC tls, u.oneCell' = true := fun u hu => by
  unfold lsC at hu
  obtain ⟨l, hl, hu⟩ := List.mem_flatten.1 hu
  obtain ⟨m, _, rfl⟩ := List.mem_map.1 hl
  simp [cellsOf] at hu
  rcases hu with rfl | rfl | rfl | rfl <;> rfl
set_option maxRecDepth 100000 in
/-- append(nil, list...) as one step -/
theorem step_copy_l {w : World} (hw : Region.wanted o (yielded ops a.tmps) = true) (x : Operand) (hop : o.op = Op.call { callee := Callee.builtin Builtin.append, args := #[.const (.slice none 0 0), x], argTypes := #[40, 40] })
    (B : Nat) (A1 : Option Addr) (n1 c1 : Nat) (tls : List LM) (hx : a.eval x = .slice A1 n1 c1) (hr : HeldAt w A1 n1 c1 tls) (hl : tls.length ≤ 256) (hB : B ≤ w.heap.size)
    (hK : ∀ A c w', OwnRow RL 70 4 w' B (.slice A tls.length c) tls → Below w.heap.size w w' → (∀ k, A.map (·.block) = some k → w.heap.size ≤ k) → K (a.put o.dst (.slice A tls.length c)) w') :
    if Region.wanted o (yielded ops a.tmps) = true then Oper.wp Tryz.prog o a w K Q else E := by
  obtain ⟨i0, hi, hz0, hz1, hz2⟩ := info_parts info70
  have hn := hr.1
  have hnc := hr.2.1
  obtain ⟨v1, W1, h1, h2, h3, h4⟩ : ∃ v1 W1, (Builtin.append_ #[40, 40] o.type #[.slice none 0 0, .slice A1 n1 c1]).run Tryz.prog w = .ok v1 W1 ∧ W1.ownsRow B 70 4 v1 tls.length (lsC tls) ∧ Below w.heap.size w W1 ∧ ∀ k, v1.ownBlock = some k → w.heap.size ≤ k := by
    by_cases h0 : n1 = 0
    · have htl : tls = [] := List.eq_nil_of_length_eq_zero (by omega)
      subst htl
      subst h0
      refine ⟨.slice none 0 0, w, ?_, World.ownsRow_nil _ _ _ _, Below.refl _ _, fun k hk => by simp [Value.ownBlock] at hk⟩
      cases A1 with
      | none => exact run_append_nothing w 40 40 o.type 70 i0 Tryz.underlying40 hi none 0 0 (Nat.le_refl _) _ (Src.ofNil w Tryz.underlying40 c1)
      | some ad => exact run_append_nothing w 40 40 o.type 70 i0 Tryz.underlying40 hi none 0 0 (Nat.le_refl _) _ (Src.ofSlice w Tryz.underlying40 ad 0 c1 [] (by simp) (fun j u h => by simp at h) (fun u hu => by cases hu))
    · obtain ⟨ad, rfl, hcell⟩ := held_cells hr (by omega)
      obtain ⟨v', w', hrun, r1, r2, _, r4⟩ := run_append_own_at (P := Tryz.prog) w B 40 o.type 70 i0 _ 4 40 Tryz.underlying40 hi hz0 hz1 hz2 rfl (by decide) (.slice none 0 0) 0 [] (World.ownsRow_nil _ _ _ _) ad n1 c1 (lsC tls) (by rw [lsC_len, hn]) hcell (lsC_one tls) (by unfold maxLen; omega) (by omega) hB
      rw [Nat.zero_add, List.nil_append, hn] at r1
      refine ⟨v', w', hrun, r1, (Below.refl _ _).grown r2 (Nat.le_refl _) fun k hk => (by simp [Value.ownBlock] at hk), fun k hk => ?_⟩
      rcases r4 with r4 | r4
      · rw [r4] at hk; simp [Value.ownBlock] at hk
      · rw [r4] at hk; cases hk; exact Nat.le_refl _
  rw [if_pos hw]
  unfold Oper.wp
  have hs0 : a.eval (.const (.slice none 0 0)) = .slice none 0 0 := rfl
  simp [execOp, hop, resolve, invoke, builtin, hs0, hx, h1, Result.andThen]
  obtain ⟨A, c, rfl⟩ := own_slice' h2
  exact hK A c W1 ⟨lsC tls, h2, lsC_reps tls⟩ h3 fun k hk => h4 k (by rw [block_map]; exact hk)
end
section
variable {B gq : Nat} {w w' : World} {gots wants : List An} {ts : List Tx} {v1 v2 v1' v2' : Value} {much q : Int} {a b : An} {t : Tx}
theorem one_at {α : Type} {l : List α} {a x : α} {i : Nat} (h : (l ++ [a])[i]? = some x) : (i < l.length ∧ l[i]? = some x) ∨ (i = l.length ∧ x = a) := by
  by_cases hlt : i < l.length
  · rw [List.getElem?_append_left hlt] at h
    exact .inl ⟨hlt, h⟩
  · rw [List.getElem?_append_right (by omega)] at h
    have := (List.getElem?_eq_some_iff.1 h).1
    simp at this
    obtain rfl : i = l.length := by omega
    simp at h
    exact .inr ⟨rfl, h.symm⟩
theorem QK.ne (hq : QK B w gq gots wants ts v1 v2 much) {x : An} {t' : Tx} (h : OwnAn B w x t') {k : Nat} (hk : x.blk k) : ¬ (k = gq ∨ v1.ownBlock = some k ∨ v2.ownBlock = some k) := fun e => by
  obtain ⟨_, c, ty, h1, h2⟩ := h.typed hk
  rcases e with e | e | e
  · exact ty_ne2 h1 hq.blk (by rcases h2 with rfl | rfl <;> decide) e
  · obtain ⟨_, c', h3⟩ := row_tyN hq.o1 e
    exact ty_ne2 h1 h3 (by rcases h2 with rfl | rfl <;> decide) rfl
  · obtain ⟨_, c', h3⟩ := row_tyN hq.o2 e
    exact ty_ne2 h1 h3 (by rcases h2 with rfl | rfl <;> decide) rfl
theorem QK.muchTo (hq : QK B w gq gots wants ts v1 v2 much) (q : Int) : QK B (w.setCell ⟨gq, 2, none⟩ (.int .i64 q)) gq gots wants ts v1 v2 q := by
  have hs : Same (fun k => k = gq) w (w.setCell ⟨gq, 2, none⟩ (.int .i64 q)) := same9 _ _ 2 _
  refine ⟨hq.low, ?_, hq.l1, hq.l2, row_farN hq.o1 hs fun k hk e => ?_, row_farN hq.o2 hs fun k hk e => ?_, hq.apart, fun i a t ha ht => (hq.g1 i a t ha ht).far hs fun k hk e => hq.ne (hq.g1 i a t ha ht) hk (.inl e), fun i a t ha ht => (hq.g2 i a t ha ht).far hs fun k hk e => hq.ne (hq.g2 i a t ha ht) hk (.inl e), hq.dist⟩
  · have := YtancenklmfamnaaGreatW.PrintWords.blk_set hq.blk 2 (.int .i64 q)
    simpa using this
  · obtain ⟨_, c, h⟩ := row_tyN hq.o1 hk; exact ty_ne2 h hq.blk (by decide) e
  · obtain ⟨_, c, h⟩ := row_tyN hq.o2 hk; exact ty_ne2 h hq.blk (by decide) e
theorem QK.add (hq : QK B w gq gots wants ts v1 v2 q) (hs : Same (fun k => k = gq ∨ v1.ownBlock = some k ∨ v2.ownBlock = some k) w w') (hblk : w'.heap[gq]? = some (.cells #[v1', v2', .int .i64 q] 60 (0, 0)))
    (ho1 : w'.ownsRow B 43 4 v1' (gots.length + 1) (ansC gots ts ++ a.cells t)) (ho2 : w'.ownsRow B 43 4 v2' (wants.length + 1) (ansC wants ts ++ b.cells t)) (hap : ∀ k, v1'.ownBlock = some k → v2'.ownBlock ≠ some k) (ha : OwnAn B w' a t) (hb : OwnAn B w' b t)
    (hd : ∀ x ∈ gots, ∀ k, a.blk k → ¬ x.blk k) : QK B w' gq (gots ++ [a]) (wants ++ [b]) (ts ++ [t]) v1' v2' q := by
  refine ⟨hq.low, hblk, by simp [hq.l1], by simp [hq.l2], by rw [ansC_snoc hq.l1, List.length_append]; exact ho1, by rw [ansC_snoc hq.l2, List.length_append]; exact ho2, hap, fun i x y hx hy => ?_, fun i x y hx hy => ?_, fun i j x y hx hy hij k h1 h2 => ?_⟩
  · rcases one_at hx with ⟨hlt, hx'⟩ | ⟨rfl, rfl⟩
    · rw [List.getElem?_append_left (by rw [← hq.l1]; exact hlt)] at hy
      have h := hq.g1 i x y hx' hy
      exact h.far hs fun k hk => hq.ne h hk
    · rw [hq.l1] at hy
      simp at hy
      subst hy
      exact ha
  · rcases one_at hx with ⟨hlt, hx'⟩ | ⟨rfl, rfl⟩
    · rw [List.getElem?_append_left (by rw [← hq.l2]; exact hlt)] at hy
      have h := hq.g2 i x y hx' hy
      exact h.far hs fun k hk => hq.ne h hk
    · rw [hq.l2] at hy
      simp at hy
      subst hy
      exact hb
  · rcases one_at hx with ⟨hlt, hx'⟩ | ⟨rfl, rfl⟩
    · rcases one_at hy with ⟨hlt2, hy'⟩ | ⟨rfl, rfl⟩
      · exact hq.dist i j x y hx' hy' hij k h1 h2
      · exact hd x (List.mem_of_getElem? hx') k h2 h1
    · rcases one_at hy with ⟨hlt2, hy'⟩ | ⟨rfl, rfl⟩
      · exact hd y (List.mem_of_getElem? hy') k h1 h2
      · exact hij rfl
theorem td_cell {w : World} {a : An} {t : Tx} : ∀ (j : Nat) (u : Value), (a.cells t)[j]? = some u → (w.alloc (.cells (tdC (.slice a.a1 a.n1 a.c1) t.v (.slice a.a2 a.n2 a.c2) t.e) 43)).cell? ⟨w.heap.size, j, none⟩ = some u := fun j u hj => by
  rw [Lib.cell_of_heap (alloc_is w _)]
  simpa [An.cells, tdC] using hj
theorem td_one {a : An} {t : Tx} : ∀ u ∈ a.cells t, u.oneCell' = true := fun u hu => by
  simp [An.cells] at hu
  rcases hu with rfl | rfl | rfl | rfl <;> rfl
theorem grown_drew' {W W' : World} {row : Option Nat} (h : W.drew.grownBy W' row) : W.grownBy W' row := ⟨h.os, h.tape, h.output, h.size, h.block⟩
/-- one answer more among those that were got -/
def Mid4 (B gq : Nat) (w7 wx : World) (gots : List An) (ts : List Tx) (v1 v2 : Value) (q : Int) (a : An) (t : Tx) (A8 : Option Addr) (c8 : Nat) : Prop :=
  wx.heap[gq]? = some (.cells #[.slice A8 (gots.length + 1) c8, v2, .int .i64 q] 60 (0, 0)) ∧ wx.ownsRow B 43 4 (.slice A8 (gots.length + 1) c8) (gots.length + 1) (ansC gots ts ++ a.cells t) ∧ Same (fun k => k = gq ∨ v1.ownBlock = some k) w7 wx ∧ ∀ k, (Value.slice A8 (gots.length + 1) c8).ownBlock = some k → v1.ownBlock = some k ∨ w7.heap.size ≤ k
theorem q4_at {w7 w8 : World} {mk : Obj} (hq : QK B w7 gq gots wants ts v1 v2 q) (h : (w7.alloc mk).grownBy w8 v1.ownBlock) : w8.heap[gq]? = some (.cells #[v1, v2, .int .i64 q] 60 (0, 0)) := by
  have s : Same (fun k => v1.ownBlock = some k) w7 w8 := (Same.below (below_alloc w7 mk)).trans (Same.grown h fun k e => .inl e)
  exact s.at hq.blk fun e => by obtain ⟨_, c, h⟩ := row_tyN hq.o1 e; exact ty_ne2 h hq.blk (by decide) rfl
theorem q4_end {w7 w8 : World} {mk : Obj} {A8 : Option Addr} {c8 : Nat} (hq : QK B w7 gq gots wants ts v1 v2 q) (h : (w7.alloc mk).grownBy w8 v1.ownBlock) (ho : w8.ownsRow B 43 4 (.slice A8 (gots.length + 1) c8) (gots.length + 1) (ansC gots ts ++ a.cells t)) (hat : (Value.slice A8 (gots.length + 1) c8).ownBlock = v1.ownBlock ∨ (Value.slice A8 (gots.length + 1) c8).ownBlock = some (w7.alloc mk).heap.size) :
    Mid4 B gq w7 (w8.setCell ⟨gq, 0, none⟩ (.slice A8 (gots.length + 1) c8)) gots ts v1 v2 q a t A8 c8 := by
  have s : Same (fun k => v1.ownBlock = some k) w7 w8 := (Same.below (below_alloc w7 mk)).trans (Same.grown h fun k e => .inl e)
  have h8 := q4_at hq h
  have sC : Same (fun k => k = gq) w8 (w8.setCell ⟨gq, 0, none⟩ (.slice A8 (gots.length + 1) c8)) := same9 _ _ 0 _
  refine ⟨?_, row_farN ho sC fun k hk e => ?_, (s.imp fun _ => .inr).trans (sC.imp fun _ => .inl), fun k hk => ?_⟩
  · have := YtancenklmfamnaaGreatW.PrintWords.blk_set h8 0 (.slice A8 (gots.length + 1) c8)
    simpa using this
  · obtain ⟨_, c, h9⟩ := row_tyN ho hk
    exact ty_ne2 h9 h8 (by decide) e
  · rcases hat with h9 | h9
    · rw [h9] at hk; exact .inl hk
    · rw [h9] at hk; cases hk; simp
/-- .. and among those that are wanted -/
theorem q5_at {w7 wx w10 w11 : World} {mk : Obj} {A8 : Option Addr} {c8 : Nat} (hq : QK B w7 gq gots wants ts v1 v2 q) (hm : Mid4 B gq w7 wx gots ts v1 v2 q a t A8 c8) (hb : Below wx.heap.size wx w10) (h : (w10.alloc mk).grownBy w11 v2.ownBlock) : w11.heap[gq]? = some (.cells #[.slice A8 (gots.length + 1) c8, v2, .int .i64 q] 60 (0, 0)) := by
  have s : Same (fun k => v2.ownBlock = some k) wx w11 := (Same.below hb).trans ((Same.below (below_alloc w10 mk)).trans (Same.grown h fun k e => .inl e))
  exact s.at hm.1 fun e => by obtain ⟨_, c, h⟩ := row_tyN hq.o2 e; exact ty_ne2 h hq.blk (by decide) rfl
theorem q5_row {w7 wx w10 : World} {A8 : Option Addr} {c8 : Nat} (hq : QK B w7 gq gots wants ts v1 v2 q) (hm : Mid4 B gq w7 wx gots ts v1 v2 q a t A8 c8) (hb : Below wx.heap.size wx w10) : w10.ownsRow B 43 4 v2 wants.length (ansC wants ts) ∧ B ≤ w10.heap.size := by
  have s : Same (fun k => k = gq ∨ v1.ownBlock = some k) w7 w10 := hm.2.2.1.trans (Same.below hb)
  refine ⟨row_farN hq.o2 s fun k hk e => ?_, by have := (hq.range (k := gq) (.inl rfl)); have := s.2.2.2.1; omega⟩
  rcases e with e | e
  · obtain ⟨_, c, h⟩ := row_tyN hq.o2 hk; exact ty_ne2 h hq.blk (by decide) e
  · exact hq.apart k e hk
theorem q5_end {w7 wx w10 w11 : World} {mk : Obj} {A8 A9 : Option Addr} {c8 c9 : Nat} (hq : QK B w7 gq gots wants ts v1 v2 q) (hm : Mid4 B gq w7 wx gots ts v1 v2 q a t A8 c8) (hb : Below wx.heap.size wx w10) (h : (w10.alloc mk).grownBy w11 v2.ownBlock)
    (ho : w11.ownsRow B 43 4 (.slice A9 (wants.length + 1) c9) (wants.length + 1) (ansC wants ts ++ b.cells t)) (hat : (Value.slice A9 (wants.length + 1) c9).ownBlock = v2.ownBlock ∨ (Value.slice A9 (wants.length + 1) c9).ownBlock = some (w10.alloc mk).heap.size)
    (ha : OwnAn B w7 a t) (hbw : OwnAn B w10 b t) (hbl : ∀ k, b.blk k → wx.heap.size ≤ k) (hal : ∀ k, a.blk k → ¬ QF gq gots wants v1 v2 k) :
    QK B (w11.setCell ⟨gq, 1, none⟩ (.slice A9 (wants.length + 1) c9)) gq (gots ++ [a]) (wants ++ [b]) (ts ++ [t]) (.slice A8 (gots.length + 1) c8) (.slice A9 (wants.length + 1) c9) q ∧
      Same (fun k => k = gq ∨ v1.ownBlock = some k ∨ v2.ownBlock = some k) w7 (w11.setCell ⟨gq, 1, none⟩ (.slice A9 (wants.length + 1) c9)) ∧ (∀ k, (Value.slice A9 (wants.length + 1) c9).ownBlock = some k → v2.ownBlock = some k ∨ w7.heap.size ≤ k) := by
  have h11 := q5_at hq hm hb h
  have z1 := hm.2.2.1.2.2.2.1
  have z2 := hb.size
  have z3 := h.size
  simp at z3
  have s2 : Same (fun k => v2.ownBlock = some k) wx w11 := (Same.below hb).trans ((Same.below (below_alloc w10 mk)).trans (Same.grown h fun k e => .inl e))
  have s10 : Same (fun k => v2.ownBlock = some k) w10 w11 := (Same.below (below_alloc w10 mk)).trans (Same.grown h fun k e => .inl e)
  have sC : Same (fun k => k = gq) w11 (w11.setCell ⟨gq, 1, none⟩ (.slice A9 (wants.length + 1) c9)) := same9 _ _ 1 _
  have sAll : Same (fun k => k = gq ∨ v1.ownBlock = some k ∨ v2.ownBlock = some k) w7 (w11.setCell ⟨gq, 1, none⟩ (.slice A9 (wants.length + 1) c9)) := ((hm.2.2.1.imp fun k e => by
    rcases e with e | e
    · exact .inl e
    · exact .inr (.inl e)).trans (s2.imp fun _ e => .inr (.inr e))).trans (sC.imp fun _ => .inl)
  have hv2k : ∀ k, (Value.slice A9 (wants.length + 1) c9).ownBlock = some k → v2.ownBlock = some k ∨ (w7.heap.size ≤ k ∧ wx.heap.size ≤ k) := fun k hk => by
    rcases hat with h9 | h9
    · rw [h9] at hk; exact .inl hk
    · rw [h9] at hk; cases hk; simp; right; omega
  have n2 : ∀ k, v2.ownBlock = some k → k < w7.heap.size := fun k hk => by obtain ⟨_, c, h⟩ := row_tyN hq.o2 hk; exact at_lt h
  refine ⟨QK.add hq sAll ?_ ?_ (row_farN ho sC fun k hk e => ?_) (fun k hk e => ?_) (ha.far sAll fun k hk e => hal k hk (by
    rcases e with e | e | e
    · exact .inl e
    · exact .inr (.inl e)
    · exact .inr (.inr (.inl e)))) ((hbw.far s10 fun k hk e => by have := hbl k hk; have := n2 k e; omega).far sC fun k hk e => by have := hbl k hk; have := at_lt hq.blk; omega) (fun x hx k h1 h2 => hal k h1 (.inr (.inr (.inr (.inl ⟨x, hx, h2⟩))))), sAll, fun k hk => (hv2k k hk).imp id fun h => h.1⟩
  · have := YtancenklmfamnaaGreatW.PrintWords.blk_set h11 1 (.slice A9 (wants.length + 1) c9)
    simpa using this
  · have h12 := row_farN hm.2.1 s2 fun k hk e => by
      rcases hm.2.2.2 k hk with h9 | h9
      · exact hq.apart k h9 e
      · have := n2 k e; omega
    exact row_farN h12 sC fun k hk e => by obtain ⟨_, c, h⟩ := row_tyN h12 hk; exact ty_ne2 h h11 (by decide) e
  · obtain ⟨_, c, h9⟩ := row_tyN ho hk
    exact ty_ne2 h9 h11 (by decide) e
  · rcases hv2k k e with h9 | h9
    · rcases hm.2.2.2 k hk with h10 | h10
      · exact hq.apart k h10 h9
      · have := n2 k h9; omega
    · obtain ⟨_, c, h10⟩ := row_tyN hm.2.1 hk
      have := at_lt h10
      omega
end
end Go.Proofs.YtancenklmfamnaaGreat.Sh
