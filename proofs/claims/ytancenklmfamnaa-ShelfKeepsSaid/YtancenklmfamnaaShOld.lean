/- ShelfOldest: the walk. -/
import Derived.Test.YtancenklmfamnaaShOldP
import Derived.Deep.CutBlock
set_option linter.unusedVariables false
set_option linter.unusedSimpArgs false
namespace Go.Proofs.Ytancenklmfamnaa.Sh
open Go.RowKit Go.Maps Go.Sort Go.Shelf
open Go.Proofs Go.MuLone
open Go.Proofs.YtancenklmfamnaaW.PrintWords (Reps OwnRow QRow q_append q_move q_lt q_typed q_slice q_cells q_drop q_take q_of_own q_lower)

/-- the versions' row, a part of the call's own block, beside the shelf -/
structure RowAp (B : Nat) (w : World) (p : Nat) (L : Lay) (v : Value) (row : List Int) : Prop where
  q : QRow w B 2 1 v row.length (row.map (Value.int .i64))
  off : ∀ k, v.ownBlock = some k → ¬ Foot p L k
section
variable {B p : Nat} {w w' : World} {L L' : Lay} {v : Value} {row : List Int}
theorem RowAp.step (h : RowAp B w p L v row) (st : Step B w w' p L L') : RowAp B w' p L' v row :=
  ⟨q_move h.q fun k hk => st.1.2.2.2.2 k (q_lt h.q k hk) fun e => h.off k hk (.inl e), fun k hk e => by
    rcases st.2.2.2 k e with h1 | h1
    · exact h.off k hk h1
    · have := q_lt h.q k hk
      omega⟩
theorem RowAp.below (h : RowAp B w p L v row) (hb : Below w.heap.size w w') : RowAp B w' p L v row :=
  ⟨q_move h.q fun k hk => hb.block k (q_lt h.q k hk), h.off⟩
theorem RowAp.grown (h : RowAp B w p L v row) (hr : Rest B w p L) {v' : Value} {row' : List Int} (hq : QRow w' B 2 1 v' row'.length (row'.map (Value.int .i64))) (hg : w.grownBy w' v.ownBlock)
    (hat : v'.ownBlock = v.ownBlock ∨ ∃ b, v'.ownBlock = some b ∧ w.heap.size ≤ b) : RowAp B w' p L v' row' ∧ Rest B w' p L := by
  have hs : Same (fun k => v.ownBlock = some k) w w' := Same.grown hg fun k hk => .inl hk
  refine ⟨⟨hq, fun k hk e => ?_⟩, ⟨hr.is.aside hs fun k hk e => h.off k e hk, hr.good, hr.lk⟩⟩
  rcases hat with hat | ⟨b, hat, hb⟩
  · exact h.off k (by rw [← hat]; exact hk) e
  · rw [hat] at hk
    cases hk
    have := hr.is.foot_lt e
    omega
end
theorem info2' : (Try.prog.info? 2).map (fun i => (i.zero, i.size, i.bytes)) = some (some (.int .i64 0), 1, 8) := by kernel_rfl
theorem row_push {B : Nat} {W : World} {v : Value} {xs : List Value} {n : Nat} (hq : QRow W B 2 1 v n xs) {g : Nat} {x : Int} (hc : W.cell? ⟨g, 0, none⟩ = some (.int .i64 x)) (hn : n ≤ 1000) (hB : B ≤ W.heap.size) (ty : TypeId) :
    ∃ v' w', (Builtin.append_ #[28, 28] ty #[v, .slice (some ⟨g, 0, none⟩) 1 1]).run Try.prog W = .ok v' w' ∧ QRow w' B 2 1 v' (n + 1) (xs ++ [.int .i64 x]) ∧ W.grownBy w' v.ownBlock ∧ (v'.ownBlock = v.ownBlock ∨ ∃ b, v'.ownBlock = some b ∧ W.heap.size ≤ b) := by
  obtain ⟨i0, hi, hz0, hz1, hz2⟩ := info_parts info2'
  refine q_append W B 28 ty 2 i0 (.int .i64 0) 1 8 Try.underlying28 hi hz0 hz1 hz2 rfl (by decide) v n xs hq ⟨g, 0, none⟩ 1 1 [.int .i64 x] rfl (fun j u hj => ?_) (by simp [Value.oneCell']) (by decide) (by unfold maxLen; omega) (by omega) hB
  match j, hj with
  | 0, hj =>
    simp at hj
    subst hj
    exact hc
  | j + 1, hj => simp at hj

theorem wrap_small {x : Int} (h : -1000000 ≤ x ∧ x ≤ 1000000) : wrap64 x = x := by
  unfold wrap64
  omega
theorem mul_small {s n : Nat} (hs : 1 ≤ s ∧ s ≤ 50) (hn : 2 ≤ n ∧ n ≤ 20) : s * n ≤ 1000 ∧ 1 ≤ s * n := ⟨Nat.le_trans (Nat.mul_le_mul hs.2 hn.2) (by decide), Nat.mul_pos (by omega) (by omega)⟩
theorem room_wrap {s n : Nat} (hs : 1 ≤ s ∧ s ≤ 50) (hn : 2 ≤ n ∧ n ≤ 20) : wrap64 (wrap64 ((s : Int) * (n : Int) + s) - 1) = ((s * n + s - 1 : Nat) : Int) := by
  have h := mul_small hs hn
  rw [← Int.natCast_mul]
  generalize s * n = m at h ⊢
  rw [wrap_small (x := (m : Int) + s) (by omega), wrap_small (x := (m : Int) + s - 1) (by omega)]
  omega

def zerosB (s : Nat) : Obj := .cells ((List.replicate s (0 : Int)).map encB).toArray 5
theorem made_zeros (s : Nat) : madeCells #[.int .u8 0] s = ((List.replicate s (0 : Int)).map encB).toArray := by
  apply Array.ext
  · rw [size_madeCells]; simp
  · intro i h1 h2
    simp [madeCells, Nat.mod_one]
theorem make_s {s : Nat} (hs : s ≤ 50) (W : World) : (Instr.makeSlice 22 (.int .i64 (s : Int)) (.int .i64 (s : Int))).run Try.prog W = .ok (.slice (some ⟨W.heap.size, 0, none⟩) s s) (W.alloc (zerosB s)) := by
  have h := run_make_row' (P := Try.prog) 22 5 (.int .u8 0) 1 Try.underlying22 info5 rfl .i64 .i64 s (by omega) (by omega) W
  rw [made_zeros] at h
  exact h
theorem zerosB_rd (w : World) (s : Nat) : RdB (w.alloc (zerosB s)) (.slice (some ⟨w.heap.size, 0, none⟩) s s) (List.replicate s 0) := by
  have h := RdB.blk (W := w.alloc (zerosB s)) (cap := s) (dat := List.replicate s 0) (alloc_is w _) (by rw [List.length_replicate]; exact Nat.le_refl _)
  rw [List.length_replicate] at h
  exact h
theorem wpList_append_run' {P : Program} {w : World} {ops : Array Oper} {rest : List Oper} {o : Oper} {a : Act} {Q : Exit → Act → World → Prop} (hgd : o.guard = none) (s x : Operand) (t : TypeId)
    (ho : o.op = .call { callee := .builtin .append, args := #[s, x], argTypes := #[t, t] }) (vs vx : Value) (hs : a.eval s = vs) (hx : a.eval x = vx)
    (v' : Value) (w' : World) (hr : (Builtin.append_ #[t, t] o.type #[vs, vx]).run P w = .ok v' w') (h : wpList P ops Q rest (a.put o.dst v') w') : wpList P ops Q (o :: rest) a w := by
  refine wpList_plain hgd fun K hK' => ?_
  unfold Oper.wp
  simp [execOp, ho, resolve, invoke, builtin, hs, hx, hr, Result.andThen]
  exact hK' _ _ h
/-- in loop one -/
structure O1 (B p : Nat) (w wr : World) (L : Lay) (s n i : Nat) (q : List LM) (v : Value) : Prop where
  rest : Rest B wr p L
  below : Below w.heap.size w wr
  od : Od L s n i i q
  len : L.ms.length = i
  qlen : q.length = i
  used : ∀ m ∈ L.ms, m.used = 0
  row : RowAp B wr p L v (q.map (·.ver))

theorem O1.next {B p : Nat} {w wr w3 : World} {L L' : Lay} {s n i j : Nat} {q : List LM} {v : Value} {new : LM} (h : O1 B p w wr L s n i q v) (hi : i < n) (hs : 1 ≤ s ∧ s ≤ 50) (hn : n ≤ 20) (hB : w.heap.size ≤ B) {o : Obj}
    (hl : Laid L L' bM ((i + 1 : Nat) : Int) (List.replicate s 0) j new) (st : Step B (wr.alloc o) w3 p L L') (hr : Rest B w3 p L') :
    ∃ v' w4, (Builtin.append_ #[28, 28] 28 #[v, .slice (some ⟨w3.heap.size, 0, none⟩) 1 1]).run Try.prog (w3.alloc (.cells #[.int .i64 ((i + 1 : Nat) : Int)] 2)) = .ok v' w4 ∧ Hid (O1 B p w w4 L' s n (i + 1) (q ++ [new]) v') := by
  have hb0 : Below w.heap.size w (wr.alloc o) := h.below.alloc h.below.size o
  have hb3 : Below w.heap.size w w3 := st.base (h.rest.below (below_alloc wr o)) hb0 hB (Nat.le_refl _)
  have hrow3 : RowAp B w3 p L' v (q.map (·.ver)) := (h.row.below (below_alloc wr o)).step st
  have hb4 : Below w.heap.size w (w3.alloc (.cells #[.int .i64 ((i + 1 : Nat) : Int)] 2)) := hb3.alloc hb3.size _
  have hrow4 := hrow3.below (below_alloc w3 (.cells #[.int .i64 ((i + 1 : Nat) : Int)] 2))
  have hr4 := hr.below (below_alloc w3 (.cells #[.int .i64 ((i + 1 : Nat) : Int)] 2))
  have hBw : B ≤ w3.heap.size := Nat.le_trans (hr.low (.inl rfl)) (Nat.le_of_lt (hr.is.lt (.inl rfl)))
  obtain ⟨v', w4, hrun, hq, hg, hat⟩ := row_push hrow4.q (g := w3.heap.size) (x := ((i + 1 : Nat) : Int)) (by rw [Lib.cell_of_heap (alloc_is w3 _)]; rfl) (by rw [List.length_map, h.qlen]; omega) (by simp; omega) 28
  obtain ⟨hod, hms⟩ := h.od.next h.rest.good hs hn (by rw [h.len]; exact hi) hl
  have e1 : (q ++ [new]).map (·.ver) = q.map (·.ver) ++ [((i + 1 : Nat) : Int)] := by rw [List.map_append, List.map_singleton, hl.ver_]
  obtain ⟨hrow5, hr5⟩ := hrow4.grown hr4 (v' := v') (row' := (q ++ [new]).map (·.ver)) (by rw [e1, List.length_append, List.map_append]; exact hq) hg hat
  refine ⟨v', w4, hrun, Lib.hid ⟨hr5, hb4.grown hg (by simp; omega) fun k hk => Nat.le_trans hB (q_typed hrow4.q k hk).1, hod, by rw [hms, List.length_append, h.len]; rfl, by rw [List.length_append, h.qlen]; rfl, fun m hm => ?_, hrow5⟩⟩
  rw [hms] at hm
  rcases List.mem_append.1 hm with hm | hm
  · exact h.used m hm
  · simp at hm
    subst hm
    exact hl.used

theorem C_byte {w : World} {A : Option Addr} {n : Nat} {xs : List Int} (h : (YtancenklmfamnaaW.PrintWords.Kd.int .u8).C w A n xs) {j : Nat} {x : Int} (hj : xs[j]? = some x) : ∃ ad, A = some ad ∧ w.cell? (ad.add j) = some (.int .u8 x) := by
  obtain ⟨h1, h2, h3⟩ := h
  obtain ⟨ad, hA, hc⟩ := h3 (by have := (List.getElem?_eq_some_iff.1 hj).1; omega)
  obtain ⟨cs, e1, e2, e3⟩ := hc j x hj
  refine ⟨ad, hA, ?_⟩
  have e2' : cs = [.int .u8 x] := e2
  have := e3 0 (.int .u8 x) (by rw [e2']; rfl)
  have e : (YtancenklmfamnaaW.PrintWords.Kd.int .u8).sz = 1 := rfl
  rw [e] at this
  simpa using this
theorem row_form {B : Nat} {w : World} {p : Nat} {L : Lay} {v : Value} {row : List Int} (h : RowAp B w p L v row) (hn : 0 < row.length) : ∃ g o cap, v = .slice (some ⟨g, o, none⟩) row.length cap ∧ row.length ≤ cap ∧ ∀ j x, row[j]? = some x → w.cell? ⟨g, o + j, none⟩ = some (.int .i64 x) := by
  have hq := h.q
  rcases hq.2 with ⟨h0, _⟩ | ⟨g, off, cap, cur, rfl, hg, hh, hnc, r⟩
  · omega
  · refine ⟨g, off * 1, cap, rfl, hnc, fun j x hj => ?_⟩
    obtain ⟨ad, hA, hc⟩ := q_cells hq hn
    obtain rfl := Option.some.inj hA
    have := hc j (.int .i64 x) (by rw [List.getElem?_map, hj]; rfl)
    rwa [Addr.add_lit] at this
theorem row_form' {B : Nat} {w : World} {p n : Nat} {L : Lay} {v : Value} {row : List Int} (h : RowAp B w p L v row) (hl : row.length = n) (hn : 0 < n) : ∃ g o cap, v = .slice (some ⟨g, o, none⟩) n cap ∧ n ≤ cap ∧ ∀ j x, row[j]? = some x → w.cell? ⟨g, o + j, none⟩ = some (.int .i64 x) := by
  subst hl
  exact row_form h hn
theorem turn_row {B : Nat} {W : World} {g o cap n k : Nat} {row : List Int} (hq : QRow W B 2 1 (.slice (some ⟨g, o, none⟩) n cap) n (row.map (Value.int .i64))) (hcap : n ≤ cap) (hk : k < n) (hn : n ≤ 20) (x : Int) :
    ∃ A2 v1 W1 v2 W2 v3 W3,
      (∀ W : World, (Instr.slice 28 (.slice (some ⟨g, o, none⟩) n cap) none (some (.int .i64 (k : Int))) none).run Try.prog W = .ok (.slice (some ⟨g, o, none⟩) k cap) W) ∧
      (∀ W : World, (Instr.slice 28 (.slice (some ⟨g, o, none⟩) n cap) (some (.int .i64 ((k : Int) + 1))) none none).run Try.prog W = .ok (.slice (some A2) (n - (k + 1)) (cap - (k + 1))) W) ∧
      (Builtin.append_ #[28, 28] 28 #[.slice none 0 0, .slice (some ⟨g, o, none⟩) k cap]).run Try.prog W = .ok v1 W1 ∧
      (Builtin.append_ #[28, 28] 28 #[v1, .slice (some A2) (n - (k + 1)) (cap - (k + 1))]).run Try.prog W1 = .ok v2 W2 ∧
      (Builtin.append_ #[28, 28] 28 #[v2, .slice (some ⟨W2.heap.size, 0, none⟩) 1 1]).run Try.prog (W2.alloc (.cells #[.int .i64 x] 2)) = .ok v3 W3 ∧
      Below W.heap.size W W3 ∧ W3.ownsRow W.heap.size 2 1 v3 n ((row.take k ++ row.drop (k + 1) ++ [x]).map (Value.int .i64)) := by
  obtain ⟨i0, hi, hz0, hz1, hz2⟩ := info_parts info2'
  have hrl : row.length = n := by have := hq.1; simpa using this
  have h1 := fun W => YtancenklmfamnaaW.PrintWords.cut_to (P := Try.prog) 28 2 .i64 Try.underlying28 hi (some ⟨g, o, none⟩) n cap (k : Int) (by omega) (by omega) hcap W
  have h2 := fun W => YtancenklmfamnaaW.PrintWords.cut_from (P := Try.prog) 28 2 .i64 Try.underlying28 hi 1 hz1 (some ⟨g, o, none⟩) n cap ((k : Int) + 1) (by omega) (by omega) W
  have e1 : ((k : Int) + 1).toNat = k + 1 := by omega
  rw [e1] at h2
  simp only [Int.toNat_natCast] at h1
  obtain ⟨A2, hA2, hA2'⟩ : ∃ A2 : Addr, (if cap = k + 1 then some (⟨g, o, none⟩ : Addr) else (some (⟨g, o, none⟩ : Addr)).map (·.add ((k + 1) * 1))) = some A2 ∧ (k + 1 < n → A2 = ⟨g, o + (k + 1), none⟩) := by
    by_cases e : cap = k + 1
    · rw [if_pos e]
      exact ⟨_, rfl, fun h => by omega⟩
    · rw [if_neg e]
      refine ⟨_, rfl, fun h => ?_⟩
      show (⟨g, o, none⟩ : Addr).add ((k + 1) * 1) = _
      rw [Addr.add_lit, Nat.mul_one]
  have hcells : ∀ j u, (row.map (Value.int .i64))[j]? = some u → W.cell? ⟨g, o + j, none⟩ = some u := fun j u hj => by
    obtain ⟨ad, hA, hc⟩ := q_cells hq (by omega)
    obtain rfl := Option.some.inj hA
    have := hc j u hj
    rwa [Addr.add_lit] at this
  have hgW : g < W.heap.size := q_lt hq g rfl
  -- row[:k]
  obtain ⟨v1, W1, hr1, ho1, hg1, _⟩ := run_append_own (P := Try.prog) W W.heap.size 28 28 2 i0 (.int .i64 0) 1 8 Try.underlying28 hi hz0 hz1 hz2 rfl (by decide) (.slice none 0 0) 0 [] (World.ownsRow_nil _ _ _ _)
    ⟨g, o, none⟩ k cap ((row.take k).map (Value.int .i64)) (by simp; omega) (fun j u hj => by
      rw [Addr.add_lit]
      refine hcells j u ?_
      rw [List.getElem?_map] at hj ⊢
      rw [List.getElem?_take] at hj
      split at hj
      · exact hj
      · simp at hj) (fun u hu => by obtain ⟨_, _, rfl⟩ := List.mem_map.1 hu; rfl) (by unfold maxLen; omega) (by omega) (Nat.le_refl _)
  have hb1 : Below W.heap.size W W1 := (Below.refl _ W).grown hg1 (Nat.le_refl _) fun j e => by cases e
  -- row[k+1:]
  obtain ⟨v2, W2, hr2, ho2, hg2, _⟩ := run_append_own (P := Try.prog) W1 W.heap.size 28 28 2 i0 (.int .i64 0) 1 8 Try.underlying28 hi hz0 hz1 hz2 rfl (by decide) v1 (0 + k) _ ho1
    A2 (n - (k + 1)) (cap - (k + 1)) ((row.drop (k + 1)).map (Value.int .i64)) (by simp; omega) (fun j u hj => by
      have hj' := (List.getElem?_eq_some_iff.1 hj).1
      simp at hj'
      rw [hA2' (by omega), Addr.add_lit]
      have hc := hcells (k + 1 + j) u (by
        rw [List.getElem?_map] at hj ⊢
        rw [List.getElem?_drop] at hj
        exact hj)
      have hbk := hb1.block g hgW
      rw [show o + (k + 1) + j = o + (k + 1 + j) by omega]
      unfold World.cell? at hc ⊢
      simp only at hc ⊢
      rw [hbk]
      exact hc) (fun u hu => by obtain ⟨_, _, rfl⟩ := List.mem_map.1 hu; rfl) (by unfold maxLen; omega) (by omega) hb1.size
  have hb2 : Below W.heap.size W W2 := hb1.grown hg2 hb1.size fun j e => (row_tyN ho1 e).1
  have hb3 : Below W.heap.size W (W2.alloc (.cells #[.int .i64 x] 2)) := hb2.alloc hb2.size _
  obtain ⟨v3, W3, hr3, ho3, hg3, _⟩ := run_append_own (P := Try.prog) (W2.alloc (.cells #[.int .i64 x] 2)) W.heap.size 28 28 2 i0 (.int .i64 0) 1 8 Try.underlying28 hi hz0 hz1 hz2 rfl (by decide) v2 _ _ (ho2.alloc _)
    ⟨W2.heap.size, 0, none⟩ 1 1 [.int .i64 x] rfl (fun j u hj => by
      match j, hj with
      | 0, hj =>
        simp at hj
        subst hj
        rw [Addr.add_lit, Lib.cell_of_heap (alloc_is W2 _)]
        rfl
      | j + 1, hj => simp at hj) (by simp [Value.oneCell']) (by unfold maxLen; omega) (by omega) hb3.size
  refine ⟨A2, v1, W1, v2, W2, v3, W3, h1, fun W => (h2 W).trans (by rw [hA2]), hr1, hr2, hr3, hb3.grown hg3 hb3.size fun j e => (row_tyN ho2 e).1, ?_⟩
  have e2 : 0 + k + (n - (k + 1)) + 1 = n := by omega
  rw [e2] at ho3
  simpa using ho3

/-- in loop two: t touches -/
structure O2 (B p : Nat) (w wr : World) (L : Lay) (s n t : Nat) (q : List LM) (v : Value) : Prop where
  rest : Rest B wr p L
  below : Below w.heap.size w wr
  od : Od L s n n (n + t) q
  len : L.ms.length = n
  qlen : q.length = n
  used : ∀ m ∈ L.ms, m.used = 0
  row : RowAp B wr p L v (q.map (·.ver))
theorem O1.toO2 {B p : Nat} {w wr : World} {L : Lay} {s n : Nat} {q : List LM} {v : Value} (h : O1 B p w wr L s n n q v) : O2 B p w wr L s n 0 q v := ⟨h.rest, h.below, h.od, h.len, h.qlen, h.used, h.row⟩

theorem O2.mem {B p : Nat} {w wr : World} {L : Lay} {s n t k : Nat} {q : List LM} {v : Value} {m : LM} (h : O2 B p w wr L s n t q v) (hk : q[k]? = some m) : m ∈ L.ms ∧ m.used = 0 ∧ m.name = bM ∧ 1 ≤ m.ver ∧ m.ver ≤ 4611686018427387904 := by
  have hm := (h.od.mem (List.mem_of_getElem? hk)).1
  have := h.rest.good.vers m hm
  exact ⟨hm, h.used m hm, (h.od.all m hm).1, this⟩
theorem O2.take {B p : Nat} {w wr : World} {L : Lay} {s n t k : Nat} {q : List LM} {v : Value} {m : LM} (h : O2 B p w wr L s n t q v) (hn : n ≤ 20) (ht : t ≤ 60) (hk : q[k]? = some m) :
    Calls Try.prog 9 #[.pointer (some ⟨p, 0, none⟩), .string bM, .int .i64 m.ver] wr fun e w' => ∃ v', e = .returned (.tuple #[v', .int .i64 m.ver, .int .i64 0]) ∧ Step B wr w' p L (L.took m) ∧ Rest B w' p (L.took m) := by
  obtain ⟨hm, hu, hnm, hv⟩ := h.mem hk
  have hf := found h.rest.is.keys hm hv.1 true
  rw [hnm] at hf
  exact (take_yes h.rest (by have := h.od.touch; omega) bM (by decide +kernel) m.ver (wf_of hv) hf (by omega)).mono fun e w' ⟨v', he, _, _, st, hr⟩ => ⟨v', he, st, hr⟩
theorem O2.give {B p : Nat} {w wr w5 : World} {L : Lay} {s n t k : Nat} {q : List LM} {v : Value} {m : LM} (h : O2 B p w wr L s n t q v) (hk : q[k]? = some m) (hr : Rest B w5 p (L.took m)) :
    Calls Try.prog 10 #[.pointer (some ⟨p, 0, none⟩), .string bM, .int .i64 m.ver] w5 fun e w' => e = .returned (.int .i64 0) ∧ Step B w5 w' p (L.took m) ((L.took m).gave (L.tk m)) ∧ Rest B w' p ((L.took m).gave (L.tk m)) := by
  obtain ⟨hm, hu, hnm, hv⟩ := h.mem hk
  have hf := found (m := L.tk m) hr.is.keys (tk_mem hm) hv.1 false
  have e1 : (L.tk m).name = bM := hnm
  rw [e1] at hf
  exact give_yes hr bM (by decide +kernel) m.ver (wf_of hv) hf (by show 0 < m.used + 1; omega)
theorem O2.next {B p : Nat} {w wr w5 w6 : World} {L : Lay} {s n t k g o cap : Nat} {q : List LM} {m : LM} (h : O2 B p w wr L s n t q (.slice (some ⟨g, o, none⟩) n cap)) (hB : w.heap.size ≤ B) (hn : n ≤ 20) (hcap : n ≤ cap) (hk : q[k]? = some m)
    (st5 : Step B wr w5 p L (L.took m)) (hr5 : Rest B w5 p (L.took m)) (st6 : Step B w5 w6 p (L.took m) ((L.took m).gave (L.tk m))) (hr6 : Rest B w6 p ((L.took m).gave (L.tk m))) :
    ∃ A2 v1 W1 v2 W2 v3 W3 q',
      (∀ W : World, (Instr.slice 28 (.slice (some ⟨g, o, none⟩) n cap) none (some (.int .i64 (k : Int))) none).run Try.prog W = .ok (.slice (some ⟨g, o, none⟩) k cap) W) ∧
      (∀ W : World, (Instr.slice 28 (.slice (some ⟨g, o, none⟩) n cap) (some (.int .i64 ((k : Int) + 1))) none none).run Try.prog W = .ok (.slice (some A2) (n - (k + 1)) (cap - (k + 1))) W) ∧
      (Builtin.append_ #[28, 28] 28 #[.slice none 0 0, .slice (some ⟨g, o, none⟩) k cap]).run Try.prog w6 = .ok v1 W1 ∧
      (Builtin.append_ #[28, 28] 28 #[v1, .slice (some A2) (n - (k + 1)) (cap - (k + 1))]).run Try.prog W1 = .ok v2 W2 ∧
      (Builtin.append_ #[28, 28] 28 #[v2, .slice (some ⟨W2.heap.size, 0, none⟩) 1 1]).run Try.prog (W2.alloc (.cells #[.int .i64 m.ver] 2)) = .ok v3 W3 ∧
      Hid (O2 B p w W3 ((L.took m).gave (L.tk m)) s n (t + 1) q' v3) := by
  obtain ⟨hm, hu, hnm, hv⟩ := h.mem hk
  have hkl : k < q.length := (List.getElem?_eq_some_iff.1 hk).1
  have hb5 := st5.base h.rest h.below hB (Nat.le_refl _)
  have hb6 := st6.base hr5 hb5 hB (Nat.le_refl _)
  have hrow6 := (h.row.step st5).step st6
  have hq6 := hrow6.q
  rw [List.length_map, h.qlen] at hq6
  obtain ⟨A2, v1, W1, v2, W2, v3, W3, e1, e2, e3, e4, e5, hb, ho⟩ := turn_row hq6 hcap (by have := h.qlen; omega : k < n) hn m.ver
  have hsp : q = q.take k ++ m :: q.drop (k + 1) := by
    have h1 := List.getElem?_eq_some_iff.1 hk
    obtain ⟨h1, h2⟩ := h1
    rw [← h2]
    exact (List.take_append_drop k q).symm.trans (by rw [List.drop_eq_getElem_cons h1])
  have hod := h.od
  rw [hsp] at hod
  have hod' := hod.touched h.rest.good h.rest.is.blks hu
  have hqm : (q.take k ++ q.drop (k + 1) ++ [turnF m.blk (L.touch + 1) m]).map (·.ver) = (q.map (·.ver)).take k ++ (q.map (·.ver)).drop (k + 1) ++ [m.ver] := by
    simp [List.map_append, List.map_take, List.map_drop, turnF]
  have hlen : (q.take k ++ q.drop (k + 1) ++ [turnF m.blk (L.touch + 1) m]).length = n := by
    have := h.qlen
    simp
    omega
  have hBw : B ≤ w6.heap.size := Nat.le_trans (hr6.low (.inl rfl)) (Nat.le_of_lt (hr6.is.lt (.inl rfl)))
  refine ⟨A2, v1, W1, v2, W2, v3, W3, _, e1, e2, e3, e4, e5, Lib.hid ⟨hr6.below hb, hb6.trans (hb.mono hb6.size), hod', ?_, hlen, ?_, ⟨?_, ?_⟩⟩⟩
  · rw [turn_ms h.rest.is.blks hm hu, List.length_map]
    exact h.len
  · intro x hx
    rw [turn_ms h.rest.is.blks hm hu] at hx
    obtain ⟨y, hy, rfl⟩ := List.mem_map.1 hx
    unfold turnF
    split
    · rfl
    · exact h.used y hy
  · rw [hqm, show ((q.map (·.ver)).take k ++ (q.map (·.ver)).drop (k + 1) ++ [m.ver]).length = n by rw [← hqm, List.length_map]; exact hlen]
    exact q_lower (q_of_own ho) hBw
  · intro j hj e
    have h1 := (row_tyN ho hj).1
    have h2 := hr6.is.foot_lt e
    omega
/-- in loop four: j more were put, one is in use -/
structure O4 (B p : Nat) (w wr : World) (L : Lay) (s n T j : Nat) (held : Int) (q : List LM) (v : Value) : Prop where
  rest : Rest B wr p L
  below : Below w.heap.size w wr
  od : Od L s n (n + j) (T + j) q
  len : L.ms.length = n
  qlen : q.length = n - 1
  held : ∃ m ∈ L.ms, m.ver = held ∧ 0 < m.used
  row : RowAp B wr p L v (q.map (·.ver))
theorem cut1 {B : Nat} {W : World} {g o cap n : Nat} {xs : List Value} (hq : QRow W B 2 1 (.slice (some ⟨g, o, none⟩) n cap) n xs) (hcap : n ≤ cap) (hn : 1 ≤ n) :
    ∃ A3, (∀ W : World, (Instr.slice 28 (.slice (some ⟨g, o, none⟩) n cap) (some (.int .i64 1)) none none).run Try.prog W = .ok (.slice (some A3) (n - 1) (cap - 1)) W) ∧ QRow W B 2 1 (.slice (some A3) (n - 1) (cap - 1)) (n - 1) (xs.drop 1) ∧ A3.block = g := by
  obtain ⟨i0, hi, hz0, hz1, hz2⟩ := info_parts info2'
  have h2 := fun W => YtancenklmfamnaaW.PrintWords.cut_from (P := Try.prog) 28 2 .i64 Try.underlying28 hi 1 hz1 (some ⟨g, o, none⟩) n cap 1 (by omega) (by omega) W
  have e1 : (1 : Int).toNat = 1 := rfl
  rw [e1] at h2
  have hd := q_drop hq hn
  obtain ⟨A3, hA3, hb⟩ : ∃ A3 : Addr, (if cap = 1 then some (⟨g, o, none⟩ : Addr) else (some (⟨g, o, none⟩ : Addr)).map (·.add (1 * 1))) = some A3 ∧ A3.block = g := by
    by_cases e : cap = 1
    · rw [if_pos e]
      exact ⟨_, rfl, rfl⟩
    · rw [if_neg e]
      refine ⟨_, rfl, ?_⟩
      show ((⟨g, o, none⟩ : Addr).add (1 * 1)).block = g
      rw [Addr.add_lit]
  rw [hA3] at h2 hd
  exact ⟨A3, h2, by simpa using hd, hb⟩
theorem O2.held {B p : Nat} {w wr w5 : World} {L : Lay} {s n t g o cap : Nat} {q : List LM} {m : LM} (h : O2 B p w wr L s n t (m :: q) (.slice (some ⟨g, o, none⟩) n cap)) (hB : w.heap.size ≤ B) (hn : 2 ≤ n ∧ n ≤ 20) (hcap : n ≤ cap)
    (st5 : Step B wr w5 p L (L.took m)) (hr5 : Rest B w5 p (L.took m)) :
    ∃ A3, (∀ W : World, (Instr.slice 28 (.slice (some ⟨g, o, none⟩) n cap) (some (.int .i64 1)) none none).run Try.prog W = .ok (.slice (some A3) (n - 1) (cap - 1)) W) ∧ w5.cell? ⟨g, o, none⟩ = some (.int .i64 m.ver) ∧
      Hid (O4 B p w w5 (L.took m) s n (n + t + 1) 0 m.ver q (.slice (some A3) (n - 1) (cap - 1))) := by
  obtain ⟨hm, hu, hnm, hv⟩ := h.mem (k := 0) (m := m) rfl
  have hrow5 := h.row.step st5
  have hq5 := hrow5.q
  rw [List.length_map, h.qlen] at hq5
  obtain ⟨A3, h1, h2, h3⟩ := cut1 hq5 hcap (by omega)
  have hql := h.qlen
  simp only [List.length_cons] at hql
  refine ⟨A3, h1, ?_, Lib.hid ⟨hr5, st5.base h.rest h.below hB (Nat.le_refl _), h.od.held h.rest.is.blks hu, ?_, by omega, ⟨L.tk m, tk_mem hm, rfl, by show 0 < m.used + 1; omega⟩, ?_, ?_⟩⟩
  · obtain ⟨ad, hA, hc⟩ := q_cells hq5 (by omega)
    obtain rfl := Option.some.inj hA
    have := hc 0 (.int .i64 m.ver) rfl
    rwa [Addr.add_lit] at this
  · show (L.ms.map _).length = n
    rw [List.length_map]
    exact h.len
  · have e : (q.map (·.ver)).length = n - 1 := by rw [List.length_map]; omega
    rw [e]
    simpa using h2
  · intro k hk
    refine hrow5.off k ?_
    simp [Value.ownBlock] at hk ⊢
    omega
section
variable {B p : Nat} {w wr : World} {L L' : Lay} {s n T j i : Nat} {held : Int} {q : List LM} {v : Value} {m new : LM}
theorem O4.listed (h : O4 B p w wr L s n T j held (m :: q) v) (hs : 1 ≤ s ∧ s ≤ 50) (hn : 2 ≤ n ∧ n ≤ 20) (hl : Laid L L' bM ((n + j + 1 : Nat) : Int) (List.replicate s 0) i new) :
    ((sortedN L').map heldOf).length = n ∧ (∃ a : Nat, PShelfKeeps.heddlelaw27_there.f (((sortedN L').map heldOf).length + 1) ((sortedN L').map heldOf) bM held = some (a : Int)) ∧
      PShelfKeeps.heddlelaw27_there.f (((sortedN L').map heldOf).length + 1) ((sortedN L').map heldOf) bM m.ver = some (-1) ∧
      (∃ a : Nat, PShelfKeeps.heddlelaw27_there.f (((sortedN L').map heldOf).length + 1) ((sortedN L').map heldOf) bM ((n + j + 1 : Nat) : Int) = some (a : Int)) ∧
      ∀ x ∈ q, ∃ a : Nat, PShelfKeeps.heddlelaw27_there.f (((sortedN L').map heldOf).length + 1) ((sortedN L').map heldOf) bM x.ver = some (a : Int) := by
  have hblk := h.rest.is.blks
  obtain ⟨hod, hlen, hmem, hkeep, hnew⟩ := h.od.turn h.rest.good hblk hs (by omega) h.len hl
  have hm := h.od.mem (m := m) List.mem_cons_self
  have hfew : L'.ms.length ≤ 256 := by omega
  have hnd := h.od.blks hblk
  simp only [List.map_cons, List.nodup_cons] at hnd
  refine ⟨by simp [sortedN, hlen], ?_, ?_, ?_, fun x hx => ?_⟩
  · obtain ⟨x, hx, rfl, hu⟩ := h.held
    refine listed_yes hfew (hkeep x hx fun e => ?_) (h.od.all x hx).1
    obtain rfl := map_inj hblk hx hm.1 e
    exact hm.2 hu
  · refine listed_no hfew fun x hx e => ?_
    rcases hmem x hx with rfl | ⟨hx, hne⟩
    · have := (h.od.ver_le h.rest.good hm.1).2
      rw [hl.ver_] at e
      omega
    · exact hne (by rw [map_inj h.rest.is.keys hx hm.1 (by rw [(h.od.all x hx).1, (h.od.all m hm.1).1, e])])
  · have := listed_yes hfew hnew (nm := bM) hl.name
    rwa [hl.ver_] at this
  · have hx' := (h.od.mem (List.mem_cons_of_mem _ hx)).1
    exact listed_yes hfew (hkeep x hx' fun e => hnd.1 (e ▸ List.mem_map_of_mem hx)) (h.od.all x hx').1
theorem O4.put (h : O4 B p w wr L s n T j held (m :: q) v) (hs : 1 ≤ s ∧ s ≤ 50) (hn : 2 ≤ n ∧ n ≤ 20) (hT : T ≤ 1000) (hj : j ≤ 40) :
    Calls Try.prog 8 #[.pointer (some ⟨p, 0, none⟩), .string bM, .slice (some ⟨wr.heap.size, 0, none⟩) s s] (wr.alloc (zerosB s)) fun e w' => e = .returned (.tuple #[.int .i64 ((n + j + 1 : Nat) : Int), .int .i64 0]) ∧
      ∃ L' i new, Laid L L' bM ((n + j + 1 : Nat) : Int) (List.replicate s 0) i new ∧ Step B (wr.alloc (zerosB s)) w' p L L' ∧ Rest B w' p L' :=
  put_ver (h.rest.below (below_alloc wr _)) (by have := h.od.touch; omega) bM okM (.slice (some ⟨wr.heap.size, 0, none⟩) s s) (List.replicate s 0) ((n + j + 1 : Nat) : Int) h.od.ver (by omega) (zerosB_rd wr s) (by rw [List.length_replicate]; omega)
    (fun k hk => by cases hk; exact h.rest.fresh (Nat.le_refl _)) (h.od.noroom_full h.rest.good hs (by omega) h.len)
theorem O4.next {w3 w4 W : World} {g o cap : Nat} (h : O4 B p w wr L s n T j held (m :: q) (.slice (some ⟨g, o, none⟩) (n - 1) cap)) (hB : w.heap.size ≤ B) (hs : 1 ≤ s ∧ s ≤ 50) (hn : 2 ≤ n ∧ n ≤ 20) (hcap : n - 1 ≤ cap)
    (hl : Laid L L' bM ((n + j + 1 : Nat) : Int) (List.replicate s 0) i new) (st3 : Step B (wr.alloc (zerosB s)) w3 p L L') (hr3 : Rest B w3 p L') (st4 : Step B w3 w4 p L' L') (hr4 : Rest B w4 p L') (hW : Below w4.heap.size w4 W) :
    ∃ A3 v' W', (∀ W : World, (Instr.slice 28 (.slice (some ⟨g, o, none⟩) (n - 1) cap) (some (.int .i64 1)) none none).run Try.prog W = .ok (.slice (some A3) (n - 1 - 1) (cap - 1)) W) ∧
      (Builtin.append_ #[28, 28] 28 #[.slice (some A3) (n - 1 - 1) (cap - 1), .slice (some ⟨W.heap.size, 0, none⟩) 1 1]).run Try.prog (W.alloc (.cells #[.int .i64 ((n + j + 1 : Nat) : Int)] 2)) = .ok v' W' ∧
      Hid (O4 B p w W' L' s n T (j + 1) held (q ++ [new]) v') := by
  have hblk := h.rest.is.blks
  obtain ⟨hod, hlen, hmem, hkeep, hnew⟩ := h.od.turn h.rest.good hblk hs (by omega) h.len hl
  have hb0 : Below w.heap.size w (wr.alloc (zerosB s)) := h.below.alloc h.below.size _
  have hb3 := st3.base (h.rest.below (below_alloc wr (zerosB s))) hb0 hB (Nat.le_refl _)
  have hb4 := st4.base hr3 hb3 hB (Nat.le_refl _)
  have hbW := hb4.trans (hW.mono hb4.size)
  have hbL : Below w.heap.size w (W.alloc (.cells #[.int .i64 ((n + j + 1 : Nat) : Int)] 2)) := hbW.alloc hbW.size _
  have hrow := ((((h.row.below (below_alloc wr (zerosB s))).step st3).step st4).below hW).below (below_alloc W (.cells #[.int .i64 ((n + j + 1 : Nat) : Int)] 2))
  have hrL := (hr4.below hW).below (below_alloc W (.cells #[.int .i64 ((n + j + 1 : Nat) : Int)] 2))
  have hBW : B ≤ (W.alloc (.cells #[.int .i64 ((n + j + 1 : Nat) : Int)] 2)).heap.size := Nat.le_trans (hrL.low (.inl rfl)) (Nat.le_of_lt (hrL.is.lt (.inl rfl)))
  have hql := h.qlen
  simp only [List.length_cons] at hql
  have hq := hrow.q
  rw [List.length_map, h.qlen] at hq
  obtain ⟨A3, c1, c2, c3⟩ := cut1 hq hcap (by omega)
  have hrow2 : RowAp B (W.alloc (.cells #[.int .i64 ((n + j + 1 : Nat) : Int)] 2)) p L' (.slice (some A3) (n - 1 - 1) (cap - 1)) (q.map (·.ver)) := by
    refine ⟨?_, fun k hk => hrow.off k ?_⟩
    · have e : (q.map (·.ver)).length = n - 1 - 1 := by rw [List.length_map]; omega
      rw [e]
      simpa using c2
    · simp [Value.ownBlock] at hk ⊢
      omega
  obtain ⟨v', W', hrun, hq', hg, hat⟩ := row_push (g := W.heap.size) (x := ((n + j + 1 : Nat) : Int)) hrow2.q (by rw [Lib.cell_of_heap (alloc_is W _)]; rfl) (by rw [List.length_map]; omega) hBW 28
  have e1 : (q ++ [new]).map (·.ver) = q.map (·.ver) ++ [((n + j + 1 : Nat) : Int)] := by rw [List.map_append, List.map_singleton, hl.ver_]
  obtain ⟨hrow5, hr5⟩ := hrow2.grown hrL (v' := v') (row' := (q ++ [new]).map (·.ver)) (by rw [e1, List.length_append, List.map_append]; exact hq') hg hat
  have e : (q.map (·.ver)).length = n - 1 - 1 := by rw [List.length_map]; omega
  refine ⟨A3, v', W', c1, hrun, Lib.hid ⟨hr5, hbL.grown hg hbL.size fun k hk => Nat.le_trans hB (q_typed hrow2.q k hk).1, by have := hod; rwa [show T + j + 1 = T + (j + 1) by omega, show n + j + 1 = n + (j + 1) by omega] at this, hlen, by rw [List.length_append, List.length_singleton]; omega, ?_, hrow5⟩⟩
  obtain ⟨x, hx, hxv, hu⟩ := h.held
  refine ⟨x, hkeep x hx fun e => ?_, hxv, hu⟩
  have hm := h.od.mem (m := m) List.mem_cons_self
  obtain rfl := map_inj hblk hx hm.1 e
  exact hm.2 hu
end
theorem there_call {w : World} {A : Option Addr} {c n : Nat} {l : List PShelfKeeps.S39} {nm : ByteArray} {v r : Int} (hl : l.length = n) (hC : YtancenklmfamnaaW.PrintWords.Kd.C PShelfKeeps.k39 w A l.length l) (hc : n ≤ c) (h : PShelfKeeps.heddlelaw27_there.f (l.length + 1) l nm v = some r) :
    Calls Try.prog 12 #[.slice A n c, .string nm, .int .i64 v] w fun e w' => e = .returned (.int .i64 r) ∧ ∃ a, w' = w.drewN a := by
  subst hl
  refine (PShelfKeeps.heddlelaw27_there.calls (l.length + 1) A c l nm v r w hC hc h).mono ?_
  rintro e w8 ⟨rfl, ⟨⟨a, rfl⟩⟩⟩
  exact ⟨rfl, a, rfl⟩
theorem row_at {B : Nat} {w w' : World} {p n g o cap : Nat} {L : Lay} {row : List Int} (h : RowAp B w p L (.slice (some ⟨g, o, none⟩) n cap) row) (hl : row.length = n) (hn : 0 < n) (hb : Below w.heap.size w w') {j : Nat} {x : Int} (hj : row[j]? = some x) : w'.cell? ⟨g, o + j, none⟩ = some (.int .i64 x) := by
  obtain ⟨g', o', cap', e1, _, hc⟩ := row_form' (h.below hb) hl hn
  injection e1 with e1 _ _
  injection e1 with e1
  injection e1 with e1 e2
  subst e1; subst e2
  exact hc j x hj
set_option maxHeartbeats 16000000 in
set_option maxRecDepth 1000000 in
theorem oldest_any (size count more : Int) (A : Option Addr) (tn cap : Nat) (touches : List Int) (w : World) (htn : touches.length = tn) (hC : (YtancenklmfamnaaW.PrintWords.Kd.int .u8).C w A tn touches) (hcap : tn ≤ cap) (hbyte : ∀ x ∈ touches, 0 ≤ x ∧ x ≤ 255) :
    Calls Try.prog 3 #[.int .i64 size, .int .i64 count, .slice A tn cap, .int .i64 more] w fun e w' => e = .returned (.bool true) ∧ Below w.heap.size w w' := by
  have HC := Lib.hid hC
  clear hC
  go_enter Try.func3, Try.ntmps3
  go_wp2_with fail
  refine (begun_any _).mono ?_
  rintro e w1 ⟨rfl, hb1⟩
  have B1 := Lib.hid hb1
  clear hb1
  go_upto_region 3 with (fail)
  go_cut [36] from 31 to 36 (fun c wc => c = .bool (decide (size < 1 ∨ 50 < size)) ∧ w1 = wc)
  case first =>
    by_cases h1 : size < 1
    · go_wp2
      go_meet
      case rel => exact ⟨congrArg Value.bool (decide_eq_true (p := size < 1 ∨ 50 < size) (by omega)).symm, rfl⟩
    · by_cases h2 : 50 < size
      · go_wp2
        go_meet
        case rel => exact ⟨congrArg Value.bool (decide_eq_true (p := size < 1 ∨ 50 < size) (by omega)).symm, rfl⟩
      · go_wp2
        go_meet
        case rel => exact ⟨congrArg Value.bool (decide_eq_false (p := size < 1 ∨ 50 < size) (by omega)).symm, rfl⟩
  case rest =>
  obtain ⟨rfl, rfl⟩ := hcut
  go_upto_if 36 with (fail)
  go_cut [0] from 31 to 36 (fun v wc => ∃ s : Nat, v = .int .i64 s ∧ Hid (1 ≤ s ∧ s ≤ 50) ∧ w1 = wc)
  case first =>
    by_cases h1 : size < 1 ∨ 50 < size
    · have h2 := decide_eq_true h1
      rw [h2]
      go_wp2
      go_meet
      case rel => exact ⟨3, rfl, Lib.hid (by omega), rfl⟩
    · have h2 := decide_eq_false h1
      rw [h2]
      go_wp2
      go_meet
      case rel => exact ⟨size.toNat, by rw [Int.toNat_of_nonneg (by omega)], Lib.hid (by omega), rfl⟩
  case rest =>
  obtain ⟨s, rfl, HS, rfl⟩ := hcut
  go_upto_region 5 with (fail)
  go_cut [42] from 37 to 42 (fun c wc => c = .bool (decide (count < 2 ∨ 20 < count)) ∧ w1 = wc)
  case first =>
    by_cases h1 : count < 2
    · go_wp2
      go_meet
      case rel => exact ⟨congrArg Value.bool (decide_eq_true (p := count < 2 ∨ 20 < count) (by omega)).symm, rfl⟩
    · by_cases h2 : 20 < count
      · go_wp2
        go_meet
        case rel => exact ⟨congrArg Value.bool (decide_eq_true (p := count < 2 ∨ 20 < count) (by omega)).symm, rfl⟩
      · go_wp2
        go_meet
        case rel => exact ⟨congrArg Value.bool (decide_eq_false (p := count < 2 ∨ 20 < count) (by omega)).symm, rfl⟩
  case rest =>
  obtain ⟨rfl, rfl⟩ := hcut
  go_upto_if 42 with (fail)
  go_cut [1] from 37 to 42 (fun v wc => ∃ n : Nat, v = .int .i64 n ∧ Hid (2 ≤ n ∧ n ≤ 20) ∧ w1 = wc)
  case first =>
    by_cases h1 : count < 2 ∨ 20 < count
    · have h2 := decide_eq_true h1
      rw [h2]
      go_wp2
      go_meet
      case rel => exact ⟨4, rfl, Lib.hid (by omega), rfl⟩
    · have h2 := decide_eq_false h1
      rw [h2]
      go_wp2
      go_meet
      case rel => exact ⟨count.toNat, by rw [Int.toNat_of_nonneg (by omega)], Lib.hid (by omega), rfl⟩
  case rest =>
  obtain ⟨n, rfl, HN, rfl⟩ := hcut
  go_upto_region 7 with (fail)
  go_cut [48] from 43 to 48 (fun c wc => c = .bool (decide (more < 1 ∨ 40 < more)) ∧ w1 = wc)
  case first =>
    by_cases h1 : more < 1
    · go_wp2
      go_meet
      case rel => exact ⟨congrArg Value.bool (decide_eq_true (p := more < 1 ∨ 40 < more) (by omega)).symm, rfl⟩
    · by_cases h2 : 40 < more
      · go_wp2
        go_meet
        case rel => exact ⟨congrArg Value.bool (decide_eq_true (p := more < 1 ∨ 40 < more) (by omega)).symm, rfl⟩
      · go_wp2
        go_meet
        case rel => exact ⟨congrArg Value.bool (decide_eq_false (p := more < 1 ∨ 40 < more) (by omega)).symm, rfl⟩
  case rest =>
  obtain ⟨rfl, rfl⟩ := hcut
  go_upto_if 48 with (fail)
  go_cut [3] from 43 to 48 (fun v wc => ∃ r : Nat, v = .int .i64 r ∧ Hid (1 ≤ r ∧ r ≤ 40) ∧ w1 = wc)
  case first =>
    by_cases h1 : more < 1 ∨ 40 < more
    · have h2 := decide_eq_true h1
      rw [h2]
      go_wp2
      go_meet
      case rel => exact ⟨5, rfl, Lib.hid (by omega), rfl⟩
    · have h2 := decide_eq_false h1
      rw [h2]
      go_wp2
      go_meet
      case rel => exact ⟨more.toNat, by rw [Int.toNat_of_nonneg (by omega)], Lib.hid (by omega), rfl⟩
  case rest =>
  obtain ⟨r, rfl, HR, rfl⟩ := hcut
  have hroom := room_wrap HS.out HN.out
  have hmul := mul_small HS.out HN.out
  have hmk := make_s (s := s) (by have := HS.out; omega)
  go_wp2_with fail
  rw [hroom]
  refine (new_yes ((s * n + s - 1 : Nat) : Int) _ (by have := HS.out; omega) (by have := HS.out; omega)).mono ?_
  rintro e w2 ⟨p, mm, ml, rfl, hb2, hr2⟩
  have hB : w.heap.size ≤ w1.heap.size := B1.out.size
  have I1 : Hid (O1 w1.heap.size p w w2 (Lay.start ((s * n + s - 1 : Nat) : Int) mm ml) s n 0 [] (.slice none 0 0)) := Lib.hid ⟨hr2, B1.out.trans (hb2.mono hB), Od.start s n mm ml, rfl, rfl, (fun m hm => by cases hm), ⟨q_of_own (World.ownsRow_nil _ _ _ _), fun k hk => by cases hk⟩⟩
  clear hb2 hr2 hroom
  go_wp2_with fail
  go_loopw [11, 12] (fun v11 v12 wr => ∃ (i : Nat) (L : Lay) (q : List LM), i ≤ n ∧ v12 = .int .i64 i ∧ Hid (O1 w1.heap.size p w wr L s n i q v11)) (fun v11 v12 _ => n - (intOf v12).toNat)
  case atStart => exact ⟨0, _, _, by omega, rfl, I1⟩
  case round =>
    obtain ⟨i, L, q, hi, rfl, HM⟩ := hrel
    obtain ⟨v11, rfl⟩ : ∃ v11 : Value, v11 = u11 := ⟨_, rfl⟩
    have hn20 := HN.out.2
    have hn2 := HN.out.1
    by_cases hlt : i < n
    · have hal : Below wr.heap.size wr (wr.alloc (zerosB s)) := below_alloc wr _
      have R2 := Lib.hid (HM.out.rest.below hal)
      have HP := Lib.hid (put_ver R2.out (by have := HM.out.od.touch; omega) bM okM (.slice (some ⟨wr.heap.size, 0, none⟩) s s) (List.replicate s 0) ((i + 1 : Nat) : Int) HM.out.od.ver (by omega) (zerosB_rd wr s) (by rw [List.length_replicate]; have := HS.out; omega) (fun k hk => by cases hk; exact HM.out.rest.fresh (Nat.le_refl _)) (HM.out.od.noroom HM.out.rest.good HS.out hn20 (by rw [HM.out.len]; exact hlt)))
      clear hal
      go_wp2_with fail
      refine HP.out.mono ?_
      rintro e w3 ⟨rfl, L', j, new, hl, st, hr⟩
      obtain ⟨v', w4, hrun, HN1⟩ := O1.next HM.out hlt HS.out hn20 hB hl st hr
      clear hl st hr HP R2
      go_wp2_with (at_builtin; refine wpList_append_run' rfl _ _ 28 rfl _ _ rfl rfl v' w4 hrun ?_)
      go_roundw
      case rel => exact ⟨i + 1, _, _, by omega, by go_num, HN1⟩
      case measure => simp [intOf]; omega
    · obtain rfl : i = n := by omega
      have I2 : Hid (O2 w1.heap.size p w wr L s i 0 q v11) := Lib.hid HM.out.toO2
      clear HM
      go_upto_block 2 with (fail)
      go_cut [11, 15, 16, 17, 18, 19, 20, 21] from 89 to 144 (fun v11 v15 v16 v17 v18 v19 v20 v21 wc => ∃ (t : Nat) (L : Lay) (q : List LM), t ≤ 60 ∧ Hid (O2 w1.heap.size p w wc L s i t q v11))
      case first =>
        go_wp2_with fail
        go_loopw [11, 15] (fun v11 v15 wr => ∃ (t : Nat) (L : Lay) (q : List LM), t ≤ 60 ∧ t ≤ tn ∧ v15 = .int .i64 t ∧ Hid (O2 w1.heap.size p w wr L s i t q v11)) (fun v11 v15 _ => 60 - (intOf v15).toNat)
        case atStart => exact ⟨0, _, _, by omega, by omega, rfl, I2⟩
        case round =>
          obtain ⟨t, L, q, ht, htn2, rfl, HM⟩ := hrel
          obtain ⟨v11, rfl⟩ : ∃ v11 : Value, v11 = u11 := ⟨_, rfl⟩
          by_cases hlt2 : t < tn
          · by_cases hlt3 : t < 60
            · obtain ⟨x, hx⟩ : ∃ x, touches[t]? = some x := ⟨_, List.getElem?_eq_getElem (by omega)⟩
              have hxr := hbyte x (List.mem_of_getElem? hx)
              obtain ⟨ad, rfl, hcb⟩ := C_byte (YtancenklmfamnaaW.PrintWords.Kd.C_below HC.out HM.out.below) hx
              have hrem : Int.tmod x (i : Int) = ((x.toNat % i : Nat) : Int) := by
                rw [Int.tmod_eq_emod_of_nonneg hxr.1, Int.natCast_emod, Int.toNat_of_nonneg hxr.1]
              have hk : x.toNat % i < i := Nat.mod_lt _ (by omega)
              generalize x.toNat % i = k at hrem hk
              obtain ⟨m, hm⟩ : ∃ m, q[k]? = some m := ⟨_, List.getElem?_eq_getElem (by rw [HM.out.qlen]; exact hk)⟩
              obtain ⟨g, o, cap2, rfl, hcap2, hcell⟩ := row_form' HM.out.row (by rw [List.length_map, HM.out.qlen]) (by omega)
              have hck := hcell k m.ver (by rw [List.getElem?_map, hm]; rfl)
              have HMM := Lib.hid hm
              clear hcell hm
              go_wp2_with fail
              refine (HM.out.take hn20 ht HMM.out).mono ?_
              rintro e w5 ⟨v5, rfl, st5, hr5⟩
              have HG := Lib.hid (HM.out.give HMM.out hr5)
              have ST5 := Lib.hid (And.intro st5 hr5)
              clear st5 hr5
              go_wp2_with fail
              refine HG.out.mono ?_
              rintro e w6 ⟨rfl, st6, hr6⟩
              obtain ⟨A2, b1, W1, b2, W2, b3, W3, q', c1, c2, c3, c4, c5, HN3⟩ := HM.out.next hB hn20 hcap2 HMM.out ST5.out.1 ST5.out.2 st6 hr6
              clear st6 hr6 HG ST5 HM
              go_wp2_with (at_builtin; (first
                | refine wpList_append_run' rfl _ _ 28 rfl _ _ rfl rfl b1 W1 c3 ?_
                | refine wpList_append_run' rfl _ _ 28 rfl _ _ rfl rfl b2 W2 c4 ?_
                | refine wpList_append_run' rfl _ _ 28 rfl _ _ rfl rfl b3 W3 c5 ?_))
              go_roundw
              case rel => exact ⟨t + 1, _, _, by omega, by omega, by go_num, HN3⟩
              case measure => simp [intOf]; omega
            · go_wp2
              go_meet
              case rel => exact ⟨t, L, q, ht, HM⟩
          · go_wp2
            go_meet
            case rel => exact ⟨t, L, q, ht, HM⟩
      case rest =>
      obtain ⟨t, L, q, ht, HM⟩ := hcut
      cases q with
      | nil =>
        have := HM.out.qlen
        simp at this
        omega
      | cons m q =>
      obtain ⟨g, o, cap2, rfl, hcap2, hcell⟩ := row_form' HM.out.row (by rw [List.length_map, HM.out.qlen]) (by omega)
      have hck : wc.cell? ⟨g, o, none⟩ = some (.int .i64 m.ver) := hcell 0 m.ver rfl
      clear hcell
      go_wp2_with fail
      refine (HM.out.take (k := 0) hn20 ht rfl).mono ?_
      rintro e w5 ⟨v5, rfl, st5, hr5⟩
      obtain ⟨A3, hcut3, hck5, I4⟩ := HM.out.held hB HN.out hcap2 st5 hr5
      clear st5 hr5 HM hck
      go_wp2_with fail
      go_loopw [11, 24] (fun v11 v24 wr => ∃ (j : Nat) (L : Lay) (q : List LM), j ≤ r ∧ v24 = .int .i64 j ∧ Hid (O4 w1.heap.size p w wr L s i (i + t + 1) j m.ver q v11)) (fun v11 v24 _ => r - (intOf v24).toNat)
      case atStart => exact ⟨0, _, _, by omega, rfl, I4⟩
      case round =>
        obtain ⟨j, L, q, hj, rfl, HM⟩ := hrel
        obtain ⟨v11, rfl⟩ : ∃ v11 : Value, v11 = u11 := ⟨_, rfl⟩
        have hr40 := HR.out
        by_cases hlt4 : j < r
        · cases q with
          | nil =>
            have := HM.out.qlen
            simp at this
            omega
          | cons m0 q =>
          obtain ⟨g, o, cap2, rfl, hcap2, hcell⟩ := row_form' HM.out.row (by rw [List.length_map, HM.out.qlen]) (by omega)
          go_wp2_with fail
          refine (HM.out.put HS.out HN.out (by omega) (by omega)).mono ?_
          rintro e w3 ⟨rfl, L', i', new, hl, st3, hr3⟩
          have HL := Lib.hid hl
          have ST3 := Lib.hid (And.intro st3 hr3)
          clear hl st3 hr3
          go_wp2_with fail
          refine (list_yes ST3.out.2).mono ?_
          rintro e w4 ⟨v4, rfl, hrow4, st4, hr4⟩
          obtain ⟨hln, ⟨a1, hy1⟩, hno, ⟨a2, hy2⟩, hyq⟩ := HM.out.listed HS.out HN.out HL.out
          have hvn : ((i + j + 1 : Nat) : Int) = (i : Int) + (j : Int) + 1 := by omega
          rw [hvn] at hy2
          obtain ⟨A8, c8, hv8, hc8, hC8⟩ := held_C hrow4
          have hln' : (sortedN L').length = i := by rw [← hln, List.length_map]
          rw [hln'] at hv8 hc8
          subst hv8
          have ST4 := Lib.hid (And.intro st4 hr4)
          have HC8 := Lib.hid hC8
          have HY := Lib.hid (And.intro hln (And.intro hy1 (And.intro hno (And.intro hy2 hyq))))
          clear hrow4 st4 hr4 hC8 hln hy1 hno hy2 hyq hln'
          have hrow := ((HM.out.row.below (below_alloc wr (zerosB s))).step ST3.out.1).step ST4.out.1
          obtain ⟨g', o', cap', e1, _, hcell4⟩ := row_form' hrow (by rw [List.length_map, HM.out.qlen]) (by omega)
          injection e1 with e1 _ e2
          injection e1 with e1
          injection e1 with e1 e3
          subst e1; subst e2; subst e3
          have HROW := Lib.hid hrow
          have hck4 : w4.cell? ⟨g, o, none⟩ = some (.int .i64 m0.ver) := hcell4 0 m0.ver rfl
          clear hcell hcell4 hrow
          go_wp2_with fail
          refine (there_call HY.out.1 HC8.out hc8 HY.out.2.1).mono ?_
          rintro e w6 ⟨rfl, d1, rfl⟩
          have hck6 : (w4.drewN d1).cell? ⟨g, o, none⟩ = some (.int .i64 m0.ver) := hck4
          have hbd : Below w4.heap.size w4 (w4.drewN d1) := below_drewN (Below.refl _ w4) d1
          have HBD1 := Lib.hid hbd
          clear hck4 hbd
          go_wp2_with fail
          refine (there_call HY.out.1 (YtancenklmfamnaaW.PrintWords.Kd.C_below HC8.out HBD1.out) hc8 HY.out.2.2.1).mono ?_
          rintro e w7 ⟨rfl, d2, rfl⟩
          have HBD2 := Lib.hid (below_drewN (Below.refl w4.heap.size w4) (d1 + d2))
          clear hck6
          go_wp2_with fail
          refine (there_call HY.out.1 (YtancenklmfamnaaW.PrintWords.Kd.C_below HC8.out HBD2.out) hc8 HY.out.2.2.2.1).mono ?_
          rintro e w8 ⟨rfl, d3, rfl⟩
          have HBD3 := Lib.hid (below_drewN (Below.refl w4.heap.size w4) (d1 + d2 + d3))
          go_wp2_with fail
          go_loopw [28] (fun v28 wr => ∃ (z : Nat), 1 ≤ z ∧ z ≤ i - 1 ∧ v28 = .int .i64 z ∧ Hid (Below w4.heap.size w4 wr)) (fun v28 _ => 100 - (intOf v28).toNat)
          case atStart => exact ⟨1, by omega, by omega, rfl, HBD3⟩
          case round =>
            obtain ⟨z, hz1, hz2, rfl, HBZ⟩ := hrel
            by_cases hlt5 : z < i - 1
            · obtain ⟨x, hx⟩ : ∃ x, (m0 :: q)[z]? = some x := ⟨_, List.getElem?_eq_getElem (by rw [HM.out.qlen]; omega)⟩
              have hxq : x ∈ q := by
                obtain ⟨z', rfl⟩ : ∃ z', z = z' + 1 := ⟨z - 1, by omega⟩
                exact List.mem_of_getElem? (by simpa using hx)
              obtain ⟨a3, hy3⟩ := HY.out.2.2.2.2 x hxq
              have hckz := row_at HROW.out (by rw [List.length_map, HM.out.qlen]) (by omega) HBZ.out (j := z) (x := x.ver) (by rw [List.getElem?_map, hx]; rfl)
              have HY3 := Lib.hid hy3
              clear hx hxq hy3
              go_wp2_with fail
              refine (there_call HY.out.1 (YtancenklmfamnaaW.PrintWords.Kd.C_below HC8.out HBZ.out) hc8 HY3.out).mono ?_
              rintro e w9 ⟨rfl, d4, rfl⟩
              have HBZ2 := Lib.hid (below_drewN HBZ.out d4)
              clear hckz
              go_wp2_with fail
              go_roundw
              case rel => exact ⟨z + 1, by omega, by omega, by go_num, HBZ2⟩
              case measure => simp [intOf]; omega
            · obtain ⟨A5, b1, W1, c1, c2, HN4⟩ := HM.out.next hB HS.out HN.out hcap2 HL.out ST3.out.1 ST3.out.2 ST4.out.1 ST4.out.2 HBZ.out
              rw [hvn] at c2
              clear HM HY HROW HC8 ST3 ST4 HL
              go_wp2_with (at_builtin; refine wpList_append_run' rfl _ _ 28 rfl _ _ rfl rfl b1 W1 c2 ?_)
              go_roundw
              case rel => exact ⟨j + 1, _, _, by omega, by go_num, HN4⟩
              case measure => simp [intOf]; omega
        · obtain rfl : j = r := by omega
          have B4 := Lib.hid HM.out.below
          clear HM
          go_wp2
          go_ret
          exact ⟨rfl, B4.out⟩
theorem oldest_row (size count : Int) (A : Option Addr) (tn cap : Nat) (zs : List Int) (more : Int) (W : World) (w0 : (Lit.int .i64 size).wf = true) (w1 : (Lit.int .i64 count).wf = true)
    (w2 : (A = none ∧ tn = 0 ∧ cap = 0 ∧ zs = []) ∨ ∃ x, A = some x ∧ tn ≤ cap ∧ cap ≤ maxLen ∧ zs.length = cap ∧ (∀ i, i < zs.length → W.cell? (x.add i) = some (.int .u8 (zs.getD i 0))) ∧ ∀ n ∈ zs, (Lit.int .u8 n).wf = true)
    (y2 : tn * 1 ≤ 140737488351232) (w3 : (Lit.int .i64 more).wf = true) :
    Calls Try.prog 3 #[.int .i64 size, .int .i64 count, .slice A tn cap, .int .i64 more] W fun e w' => e = .returned (.bool true) ∧ Below W.heap.size W w' := by
  rcases w2 with ⟨rfl, rfl, rfl, rfl⟩ | ⟨x, rfl, h1, h2, h3, h4, h5⟩
  · exact oldest_any size count more none 0 0 [] W rfl ⟨rfl, by decide, fun h => absurd h (Nat.lt_irrefl 0)⟩ (Nat.le_refl _) (fun x hx => by cases hx)
  · have hl : (zs.take tn).length = tn := by rw [List.length_take]; omega
    refine oldest_any size count more (some x) tn cap (zs.take tn) W hl ⟨hl, by omega, fun _ => ⟨x, rfl, fun j z hj => ⟨[encB z], rfl, rfl, fun i u hi => ?_⟩⟩⟩ h1 (fun z hz => ?_)
    · have hi0 : i = 0 := by
        have := (List.getElem?_eq_some_iff.1 hi).1
        simpa using this
      subst hi0
      simp at hi
      subst hi
      have hj1 := (List.getElem?_eq_some_iff.1 hj).1
      have hj2 : zs[j]? = some z := by
        rw [List.getElem?_take] at hj
        split at hj
        · exact hj
        · cases hj
      have := h4 j (by omega)
      rw [List.getD_eq_getElem?_getD, hj2] at this
      show W.cell? (x.add (j * 1 + 0)) = some (encB z)
      simpa using this
    · have := h5 z (List.mem_of_mem_take hz)
      have e1 : IntKind.u8.min = 0 := by decide
      have e2 : IntKind.u8.max = 255 := by decide
      simp only [Lit.wf, Bool.and_eq_true, decide_eq_true_eq, e1, e2] at this
      exact this
end Go.Proofs.Ytancenklmfamnaa.Sh
