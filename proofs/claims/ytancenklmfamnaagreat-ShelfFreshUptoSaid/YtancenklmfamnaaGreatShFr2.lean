/- ShelfFresh: rows of marks, and what is appended to them. -/
import Derived.Test.YtancenklmfamnaaGreatShFr1
set_option linter.unusedVariables false
set_option linter.unusedSimpArgs false
namespace Go.Proofs.YtancenklmfamnaaGreat.Sh
open Go.RowKit Go.Maps Go.Sort Go.Shelf
open Go.Proofs Go.MuLone
open Go.Proofs.YtancenklmfamnaaGreatW.PrintWords (Reps OwnRow Kd ReadsRow)
open PShelfPlays (S70 S104 S115 k70 k104 k115)

def bRow (m n : Nat) : List Value := (List.range n).map fun j => .int .u8 (nv m j)
def hCells (m : Nat) : List Value := [.string ⟨#[]⟩, .int .i64 0, .int .i64 0, .int .i64 (-5 - (m : Int))]
def hRow (m n : Nat) : List Value := (List.replicate n (hCells m)).flatten
theorem bRow_len (m n : Nat) : (bRow m n).length = n := by simp [bRow]
theorem hRow_len (m n : Nat) : (hRow m n).length = n * 4 := by simp [hRow, hCells]
theorem bRow_succ (m n : Nat) : bRow m (n + 1) = bRow m n ++ [.int .u8 (nv m n)] := by simp [bRow, List.range_succ]
theorem hRow_succ (m n : Nat) : hRow m (n + 1) = hRow m n ++ hCells m := by
  unfold hRow
  rw [List.replicate_succ', List.flatten_append]
  simp
theorem bRow_at {m n j : Nat} (h : j < n) : (bRow m n)[j]? = some (.int .u8 (nv m j)) := by
  unfold bRow
  rw [List.getElem?_map, List.getElem?_range h]
  rfl
theorem hRow_at (m : Nat) : ∀ {n j r : Nat}, j < n → r < 4 → (hRow m n)[j * 4 + r]? = (hCells m)[r]?
  | n + 1, 0, r, _, hr => by
    unfold hRow
    rw [List.replicate_succ, List.flatten_cons, Nat.zero_mul, Nat.zero_add, List.getElem?_append_left (by simpa [hCells] using hr)]
  | n + 1, j + 1, r, h, hr => by
    have := hRow_at m (n := n) (j := j) (r := r) (by omega) hr
    unfold hRow at *
    rw [List.replicate_succ, List.flatten_cons, List.getElem?_append_right (by simp [hCells]; omega)]
    rw [← this]
    congr 1
    simp [hCells]
    omega
theorem own_cell {w : World} {B e n sz : Nat} {A : Option Addr} {c : Nat} {xs : List Value} (h : w.ownsRow B e sz (.slice A n c) n xs) (hn : 0 < n) : ∃ b, A = some ⟨b, 0, none⟩ ∧ B ≤ b ∧ b < w.heap.size ∧ n ≤ c ∧ ∀ j u, xs[j]? = some u → w.cell? ⟨b, j, none⟩ = some u := by
  have hc := fun (g : Nat) hg => h.cells (g := g) hg
  rcases h.2 with ⟨h1, h0⟩ | ⟨g, cap, cur, h1, hb, hg, hn1, _⟩
  · omega
  · injection h1 with h1 _ h3
    subst h1; subst h3
    refine ⟨g, rfl, hb, at_lt hg, hn1, fun j u hj => ?_⟩
    have := hc g rfl j u hj
    rwa [Addr.add_lit, Nat.zero_add] at this
theorem heap_setRow {w : World} {g : Nat} {cur cur' : Array Value} {e : TypeId} (h : w.heap[g]? = some (.cells cur e (0, 0))) : (w.setRow g cur').heap[g]? = some (.cells cur' e (0, 0)) ∧ w.grownBy (w.setRow g cur') (some g) := by
  refine ⟨setRow_heap w g cur cur' e (0, 0) h, ⟨rfl, rfl, rfl, by simp, fun k hk hne => ?_⟩⟩
  unfold World.setRow
  rw [Array.getElem?_modify, if_neg (fun e => hne (by rw [e]))]
/-- append(x, y): the new slice and the old one -/
theorem app_mark {w : World} {B t ty e size bytes : Nat} {i : TypeInfo} {z : Value} (ht : Tryz.prog.underlying t = some (.slice e)) (hi : Tryz.prog.info? e = some i) (hz : i.zero = some z) (hsize : i.size = size) (hby : i.bytes = bytes) (hzs : z.cells.size = size) (hsz : 0 < size)
    {x : Value} {n : Nat} {xs : List Value} (h : w.ownsRow B e size x n xs) {b1 : Nat} {ys : List Value} (hl : ys.length = 1 * size) (hys : ∀ j u, ys[j]? = some u → w.cell? ⟨b1, j, none⟩ = some u) (h1 : ∀ u ∈ ys, u.oneCell' = true) (hn : (n + 1) * bytes ≤ 140737488355328) (hn2 : n + 1 ≤ maxLen) (hB : B ≤ w.heap.size) :
    ∃ v' w', (Builtin.append_ #[t, t] ty #[x, .slice (some ⟨b1, 0, none⟩) 1 1]).run Tryz.prog w = .ok v' w' ∧ w'.ownsRow B e size v' (n + 1) (xs ++ ys) ∧ w'.ownsRow B e size x n xs ∧ w.grownBy w' x.ownBlock ∧ (v'.ownBlock = x.ownBlock ∨ ∃ k, v'.ownBlock = some k ∧ w.heap.size ≤ k) := by
  have news : ∀ j u, ys[j]? = some u → w.cell? ((⟨b1, 0, none⟩ : Addr).add j) = some u := fun j u hj => by rw [Addr.add_lit, Nat.zero_add]; exact hys j u hj
  have hxl := h.1
  rcases h.2 with ⟨rfl, rfl⟩ | ⟨g, cap, cur, rfl, hb, hg, hnc, hcm, hcs, htk⟩
  · obtain ⟨v', w', hrun, r1, r2, r3, r4⟩ := run_append_own_at (P := Tryz.prog) w B t ty e i z size bytes ht hi hz hsize hby hzs hsz (.slice none 0 0) 0 xs h ⟨b1, 0, none⟩ 1 1 ys hl news h1 hn2 hn hB
    refine ⟨v', w', hrun, r1, ⟨hxl, .inl ⟨rfl, rfl⟩⟩, r2, ?_⟩
    rcases r4 with r4 | r4
    · exact .inl r4
    · exact .inr ⟨_, r4, Nat.le_refl _⟩
  · by_cases hroom : n + 1 ≤ cap
    · have hfit : n * i.size + ys.length ≤ cur.size := by
        rw [hsize, hl, hcs, ← Nat.add_mul]
        exact Nat.mul_le_mul_right _ hroom
      have hrun := run_append_room (P := Tryz.prog) w t ty e i ht hi g n cap cur hg ⟨b1, 0, none⟩ 1 1 ys (by rw [hl, hsize]) news h1 hroom hfit
      rw [hsize] at hrun hfit
      obtain ⟨hs1, hs2⟩ := heap_setRow (cur' := (cur.toList.take (n * size) ++ ys ++ cur.toList.drop (n * size + ys.length)).toArray) hg
      have hsz2 : (cur.toList.take (n * size) ++ ys ++ cur.toList.drop (n * size + ys.length)).length = cap * size := by
        rw [List.length_append, List.length_append, List.length_take, List.length_drop, Array.length_toList, hcs]
        rw [hcs] at hfit
        omega
      have hle : n * size ≤ cur.toList.length := by rw [Array.length_toList]; omega
      refine ⟨_, _, hrun, ⟨?_, .inr ⟨g, cap, _, rfl, hb, hs1, hroom, hcm, by simpa using hsz2, ?_⟩⟩, ⟨hxl, .inr ⟨g, cap, _, rfl, hb, hs1, hnc, hcm, by simpa using hsz2, ?_⟩⟩, hs2, .inl rfl⟩
      · rw [List.length_append, hxl, hl, Nat.add_mul]
      · rw [List.toList_toArray, htk, List.take_append_of_le_length (by rw [List.length_append, hxl, hl, Nat.add_mul]; omega)]
        rw [List.take_of_length_le (by rw [List.length_append, hxl, hl, Nat.add_mul]; omega)]
      · rw [List.toList_toArray, htk, List.append_assoc, List.take_append_of_le_length (by rw [hxl]; omega), List.take_of_length_le (by rw [hxl]; omega)]
    · obtain rfl : n = cap := by omega
      have hc := h.cells (g := g) rfl
      obtain ⟨v', w', hrun, r1, r2⟩ := run_append_arg_grows (P := Tryz.prog) w t ty e i z size bytes ht hi hz hsize hby hzs hsz ⟨g, 0, none⟩ n n xs hxl hc ⟨b1, 0, none⟩ 1 1 ys hl news (by omega) hn2 hn
      have hgl := at_lt hg
      refine ⟨v', w', hrun, World.ownsRow.mono r1 hB, h.kept r2 (.inr (by simp [Value.ownBlock])), ⟨r2.os, r2.tape, r2.output, r2.size, fun k hk _ => r2.block k hk (by simp)⟩, .inr ?_⟩
      rcases r1.2 with ⟨_, h0⟩ | ⟨g', cap', cur', rfl, hb', _⟩
      · omega
      · exact ⟨g', rfl, hb'⟩
end Go.Proofs.YtancenklmfamnaaGreat.Sh
