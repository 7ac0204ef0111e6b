/- append to a row of marks, and to a row of the call's own, as one step of a region. -/
import Derived.Test.YtfdioplenkcahaaFr1
set_option linter.unusedVariables false
set_option linter.unusedSimpArgs false
namespace Go.Proofs.Ytfdioplenkcahaa.Fresh
open Go.RowKit Go.Proofs.Ytfdioplenkcahaa.PShellFresh Go.Proofs.YtfdioplenkcahaaW.PrintWords Go.Proofs.YtfdioplenkcahaaW.PrintLast Go.Proofs.YtfdioplenkcahaaW.PrintMore

/-- a slice value at the head of a row of marks (n of them), with room behind it as far as the block goes -/
def Full (W : World) (x : Value) (n : Nat) (m : ByteArray) : Prop :=
  (x = .slice none 0 0 ∧ n = 0) ∨ ∃ b c cur, x = .slice (some ⟨b, 0, none⟩) n c ∧ n ≤ c ∧ c ≤ maxLen ∧ W.heap[b]? = some (.cells cur 9 (0, 0)) ∧ cur.size = c ∧ ∀ j, j < n → cur[j]? = some (.string m)
theorem Full.row {W : World} {x : Value} {n : Nat} {m : ByteArray} (h : Full W x n m) : Row W x m := by
  rcases h with ⟨rfl, _⟩ | ⟨b, c, cur, rfl, h1, h2, h3, h4, h5⟩
  · exact .inl rfl
  · exact .inr ⟨b, n, c, cur, rfl, h1, h2, h3, h5⟩

section
variable {ops : Array Oper} {o : Oper} {a : Act} {Q : Exit → Act → World → Prop} {K : Act → World → Prop} {E : Prop}

theorem info9 : (Try.prog.info? 9).map (fun i => (i.zero, i.size, i.bytes)) = some (some (.string ⟨#[]⟩), 1, 16) := by kernel_rfl
theorem info22 : (Try.prog.info? 22).map (fun i => (i.zero, i.size, i.bytes)) = some (some (.slice none 0 0), 1, 24) := by kernel_rfl

/-- append(l, m), l full of marks: in place where there is room, else in a new row -/
theorem step_append_mark {w : World} (hw : Region.wanted o (yielded ops a.tmps) = true) (s x : Operand) (hop : o.op = Op.call { callee := Callee.builtin Builtin.append, args := #[s, x], argTypes := #[22, 22] })
    (sv : Value) (n : Nat) (m : ByteArray) (hs : a.eval s = sv) (hf : Full w sv n m) (hn : n ≤ 1099511627776) (b1 : Nat) (hx : a.eval x = .slice (some ⟨b1, 0, none⟩) 1 1) (hc : w.cell? ⟨b1, 0, none⟩ = some (.string m))
    (hK : ∀ v' w', Full w' sv n m → Full w' v' (n + 1) m → (v'.ownBlock = sv.ownBlock ∨ ∃ k, v'.ownBlock = some k ∧ w.heap.size ≤ k) → w.grownBy w' sv.ownBlock → K (a.put o.dst v') w') :
    if Region.wanted o (yielded ops a.tmps) = true then Oper.wp Try.prog o a w K Q else E := by
  obtain ⟨i0, hi, hz0, hz1, hz2⟩ := info_parts info9
  rw [if_pos hw]
  have news : ∀ j u, [Value.string m][j]? = some u → w.cell? ((⟨b1, 0, none⟩ : Addr).add j) = some u := by
    intro j u hj
    match j, hj with
    | 0, hj => simp at hj; subst hj; simpa [Addr.add] using hc
  have one : ∀ u ∈ [Value.string m], u.oneCell' = true := fun u hu => by simp at hu; subst hu; rfl
  rcases hf with ⟨rfl, rfl⟩ | ⟨b, c, cur, rfl, h1, h2, h3, h4, h5⟩
  · obtain ⟨v', w', hrun, r1, r2, _⟩ := run_append_own (P := Try.prog) w w.heap.size 22 o.type 9 i0 (.string ⟨#[]⟩) 1 16 Try.underlying22 hi hz0 hz1 hz2 rfl (by decide) (.slice none 0 0) 0 [] (World.ownsRow_nil w _ 9 1) ⟨b1, 0, none⟩ 1 1 [.string m] rfl news one (by decide) (by decide) (Nat.le_refl _)
    unfold Oper.wp
    simp [execOp, hop, resolve, invoke, builtin, hs, hx, hrun, Result.andThen]
    rcases r1.2 with ⟨_, h0⟩ | ⟨g, cap, cur, rfl, hg1, hg2, hg3, hg4, hg5, hg6⟩
    · simp at h0
    · refine hK _ _ (.inl ⟨rfl, rfl⟩) (.inr ⟨g, cap, cur, rfl, by simpa using hg3, hg4, hg2, by simpa using hg5, fun j hj => ?_⟩) (.inr ⟨g, rfl, hg1⟩) r2
      obtain rfl : j = 0 := by omega
      have := congrArg (fun l => l[0]?) hg6
      simpa using this
  · by_cases hroom : n + 1 ≤ c
    · have hcs : ∀ j, j < [Value.string m].length → (w.cell? ⟨b, 0 + n * i0.size + j, none⟩).isSome = true := by
        intro j hj
        simp at hj
        subst hj
        rw [Lib.cell_of_heap h3, hz1]
        simp [h4]
        omega
      have hfz : ∀ j, j < [Value.string m].length → w.frozen? ⟨b, 0 + n * i0.size + j, none⟩ = false := fun j hj => Lib.frozen_of_heap h3 _
      have hrun := run_append_room_cells (P := Try.prog) (w := w) 22 o.type 9 i0 Try.underlying22 hi b 0 n c ⟨b1, 0, none⟩ 1 1 [.string m] (by rw [hz1]; rfl) news one hroom hcs hfz
      have hset : w.setCells b (0 + n * i0.size) [.string m] = w.setCell ⟨b, n, none⟩ (.string m) := by
        rw [hz1, Nat.zero_add, Nat.mul_one]
        rfl
      rw [hset] at hrun
      have hb2 := blk_set h3 n (.string m)
      unfold Oper.wp
      simp [execOp, hop, resolve, invoke, builtin, hs, hx, hrun, Result.andThen]
      have h5' : ∀ j, j < n → (cur.setIfInBounds n (.string m))[j]? = some (.string m) := fun j hj => by
        rw [Array.getElem?_setIfInBounds_ne (by omega)]
        exact h5 j hj
      refine hK _ _ (.inr ⟨b, c, _, rfl, h1, h2, hb2, by simpa using h4, h5'⟩) (.inr ⟨b, c, _, rfl, hroom, h2, hb2, by simpa using h4, fun j hj => ?_⟩) (.inl rfl) ⟨rfl, rfl, rfl, by simp [World.setCell], fun k hk hne => Below.heap_setCell w ⟨b, n, none⟩ _ k (fun e => hne (by rw [e]; rfl))⟩
      by_cases hjn : j < n
      · exact h5' j hjn
      · obtain rfl : j = n := by omega
        rw [Array.getElem?_setIfInBounds_self_of_lt (by omega)]
    · obtain rfl : c = n := by omega
      have holds : ∀ j u, (List.replicate c (Value.string m))[j]? = some u → w.cell? ((⟨b, 0, none⟩ : Addr).add j) = some u := by
        intro j u hj
        have hj' : j < c := by
          have := (List.getElem?_eq_some_iff.1 hj).1
          simpa using this
        rw [List.getElem?_replicate, if_pos hj'] at hj
        rw [Addr.add_lit, Lib.cell_of_heap h3, Nat.zero_add, h5 j hj']
        exact hj
      obtain ⟨v', w', hrun, r1, r2⟩ := run_append_arg_grows (P := Try.prog) w 22 o.type 9 i0 (.string ⟨#[]⟩) 1 16 Try.underlying22 hi hz0 hz1 hz2 rfl (by decide) ⟨b, 0, none⟩ c c (List.replicate c (.string m)) (by simp) holds ⟨b1, 0, none⟩ 1 1 [.string m] rfl news (by omega) (by unfold maxLen; omega) (by omega)
      unfold Oper.wp
      simp [execOp, hop, resolve, invoke, builtin, hs, hx, hrun, Result.andThen]
      have hlt : b < w.heap.size := (Array.getElem?_eq_some_iff.1 h3).1
      rcases r1.2 with ⟨_, h0⟩ | ⟨g, cap, cur2, rfl, hg1, hg2, hg3, hg4, hg5, hg6⟩
      · omega
      · refine hK _ _ (.inr ⟨b, c, cur, rfl, Nat.le_refl _, h2, (r2.block b hlt (by simp)).trans h3, h4, h5⟩) (.inr ⟨g, cap, cur2, rfl, hg3, hg4, hg2, by simpa using hg5, fun j hj => ?_⟩) (.inr ⟨g, rfl, hg1⟩) ⟨r2.os, r2.tape, r2.output, r2.size, fun k hk _ => r2.block k hk (by simp)⟩
        have this : (List.take ((c + 1) * 1) cur2.toList)[j]? = (List.replicate c (Value.string m) ++ [Value.string m])[j]? := congrArg (fun l => l[j]?) hg6
        rw [List.getElem?_take_of_lt (by omega)] at this
        rw [← Array.getElem?_toList, this]
        by_cases hjc : j < c
        · rw [List.getElem?_append_left (by simpa using hjc), List.getElem?_replicate, if_pos hjc]
        · obtain rfl : j = c := by omega
          rw [List.getElem?_append_right (by simp)]
          simp

/-- append to the call's own row of lists, of several -/
theorem step_append_own {w : World} (hw : Region.wanted o (yielded ops a.tmps) = true) (s x : Operand) (hop : o.op = Op.call { callee := Callee.builtin Builtin.append, args := #[s, x], argTypes := #[33, 33] })
    (B : Nat) (sv : Value) (xs news : List Value) (hs : a.eval s = sv) (hown : w.ownsRow B 22 1 sv xs.length xs) (hB : B ≤ w.heap.size) (b1 q : Nat) (hx : a.eval x = .slice (some ⟨b1, 0, none⟩) q q) (hq : news.length = q)
    (hc : ∀ j u, news[j]? = some u → w.cell? ⟨b1, j, none⟩ = some u) (h1 : ∀ u ∈ news, u.oneCell' = true) (hl : xs.length + q ≤ 1099511627776)
    (hK : ∀ A c w', w'.ownsRow B 22 1 (.slice A (xs.length + q) c) (xs ++ news).length (xs ++ news) → w.grownBy w' sv.ownBlock → K (a.put o.dst (.slice A (xs.length + q) c)) w') :
    if Region.wanted o (yielded ops a.tmps) = true then Oper.wp Try.prog o a w K Q else E := by
  obtain ⟨i0, hi, hz0, hz1, hz2⟩ := info_parts info22
  rw [if_pos hw]
  obtain ⟨v', w', hrun, r1, r2, _⟩ := run_append_own (P := Try.prog) w B 33 o.type 22 i0 (.slice none 0 0) 1 24 Try.underlying33 hi hz0 hz1 hz2 rfl (by decide) sv xs.length xs hown ⟨b1, 0, none⟩ q q news (by rw [hq, Nat.mul_one]) (fun j u hj => by rw [Addr.add_lit, Nat.zero_add]; exact hc j u hj) h1 (by unfold maxLen; omega) (by omega) hB
  unfold Oper.wp
  simp [execOp, hop, resolve, invoke, builtin, hs, hx, hrun, Result.andThen]
  have hlen : (xs ++ news).length = xs.length + q := by rw [List.length_append, hq]
  rw [← hlen] at r1
  obtain ⟨A, c, rfl⟩ : ∃ A c, v' = .slice A (xs.length + q) c := by
    rcases r1.2 with ⟨rfl, h0⟩ | ⟨g, cap, cur, rfl, _⟩
    · exact ⟨none, 0, by rw [← hlen, h0]⟩
    · exact ⟨_, _, by rw [hlen]⟩
  exact hK A c w' r1 r2
end
end Go.Proofs.Ytfdioplenkcahaa.Fresh
