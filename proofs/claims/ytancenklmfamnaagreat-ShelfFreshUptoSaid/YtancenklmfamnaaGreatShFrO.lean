/- A script that came in, read. -/
import Derived.Test.YtancenklmfamnaaGreatShFr12
import Derived.ProofKit
import Derived.OpenShut
import Derived.Deep.Slices
import Derived.ChangeArms
import Derived.ChangeSlices
import Derived.SizedLaws
set_option linter.unusedVariables false
set_option linter.unusedSimpArgs false
namespace Go.Proofs.YtancenklmfamnaaGreat.Sh
open Go.RowKit Go.Maps Go.Shelf Go.Deep Go.ChangeShapes Go.WideShapes Go.ChangeAt
open Go.Proofs

theorem reach_eq : reachBytes = 140737488351232 := by decide
theorem open_bytes {H : Type} {enc : TypeId × Value → H} {w : World} {base : Nat} {spare : Nat → Bool} {held : Bool} {fuel : Nat} {cs : List Value} {x : DataW H × List MemPlace} (h : DataW.trod enc Tryz.prog w base spare held fuel 25 cs = some x)
    (hw : ∀ n ∈ x.1.weights Tryz.prog 25, n ≤ reachBytes) : ∃ Ab nb cb dat, cs = [.slice Ab nb cb] ∧ RdA w (.slice Ab nb cb) dat ∧ dat.length = nb ∧ nb ≤ 140737488351232 := by
  rcases open_ints Tryz.underlying25 Tryz.underlying5 (by kernel_rfl) h with ⟨rfl, rfl⟩ | ⟨a, len, cap, zs, rfl, _, hl, hm, hz, rfl, hcell, hwz⟩
  · exact ⟨none, 0, 0, [], rfl, .inl ⟨rfl, rfl⟩, rfl, Nat.zero_le _⟩
  · have hlz : len ≤ zs.length := by rw [hz]; split <;> omega
    have hb : Tryz.prog.bytesOf 5 = 1 := by kernel_rfl
    have hwt := hw (((lits (H := H) .u8 (zs.take len)).length + (lits (H := H) .u8 (zs.drop len)).length) * Tryz.prog.bytesOf 5) (by simp [DataW.weights, Tryz.underlying25])
    rw [hb, reach_eq] at hwt
    have hsum : (lits (H := H) .u8 (zs.take len)).length + (lits (H := H) .u8 (zs.drop len)).length = zs.length := by
      simp [lits]
      omega
    rw [hsum] at hwt
    have hlt : (zs.take len).length = len := by rw [List.length_take]; omega
    refine ⟨some a, len, cap, zs.take len, rfl, .inr ⟨a, cap, by rw [hlt], by rw [hlt]; exact hl, fun j y hj => ?_⟩, hlt, by omega⟩
    have hj1 := (List.getElem?_eq_some_iff.1 hj).1
    have hj2 : zs[j]? = some y := by
      rw [List.getElem?_take] at hj
      split at hj
      · exact hj
      · cases hj
    have h3 := hcell j (by omega)
    rw [List.getD_eq_getElem?_getD, hj2] at h3
    exact h3
theorem five {α : Type} {l : List α} (h : l.length = 5) : ∃ a b c d e, l = [a, b, c, d, e] := by
  match l, h with
  | [a, b, c, d, e], _ => exact ⟨a, b, c, d, e, rfl⟩
set_option maxRecDepth 100000 in
theorem open_op {H : Type} {enc : TypeId × Value → H} {w : World} {base : Nat} {spare : Nat → Bool} {held : Bool} {fuel : Nat} {cs : List Value} {x : DataW H × List MemPlace} (h : DataW.trod enc Tryz.prog w base spare held fuel 39 cs = some x)
    (hw : ∀ n ∈ x.1.weights Tryz.prog 39, n ≤ reachBytes) : ∃ (o : Op1) (Ab : Option Addr) (nb cb : Nat), cs = [.int .i64 o.kind, .int .i64 o.which, .string o.nm, .int .i64 o.ver, .slice Ab nb cb] ∧ RdA w (.slice Ab nb cb) o.dat ∧ o.dat.length = nb ∧ nb ≤ 140737488351232 ∧ o.nm.size ≤ 140737488351232 ∧ (Lit.int .i64 o.ver).wf = true ∧ (Lit.int .i64 o.which).wf = true := by
  obtain ⟨xs, n, rfl, rfl, hlen, hxl, hel⟩ := DataW.trod_struct Tryz.underlying39 h
  have hcN39 : Tryz.prog.cellsOf 39 = 5 := by kernel_rfl
  have c3 : Tryz.prog.cellsOf 3 = 1 := by kernel_rfl
  have c2 : Tryz.prog.cellsOf 2 = 1 := by kernel_rfl
  have c9 : Tryz.prog.cellsOf 9 = 1 := by kernel_rfl
  have cN25 : Tryz.prog.cellsOf 25 = 1 := by kernel_rfl
  rw [hcN39] at hlen
  obtain ⟨u0, u1, u2, u3, u4, rfl⟩ := five hlen
  have hxl5 : xs.length = 5 := hxl
  obtain ⟨x0, x1, x2, x3, x4, rfl⟩ := five hxl5
  have f0 := hel 0 _ rfl
  have f1 := hel 1 _ rfl
  have f2 := hel 2 _ rfl
  have f3 := hel 3 _ rfl
  have f4 := hel 4 _ rfl
  simp only [c3, c2, c9, cN25, List.drop_zero, List.drop_succ_cons, List.take_succ_cons, List.take_zero, List.getElem?_cons_zero, List.getElem?_cons_succ] at f0 f1 f2 f3 f4
  obtain ⟨n0, e0, rfl, _⟩ := DataW.trod_int Tryz.underlying3 f0
  obtain ⟨n1, e1, rfl, w1⟩ := DataW.trod_int Tryz.underlying3 f1
  obtain ⟨s2, e2, rfl, _⟩ := DataW.trod_string Tryz.underlying9 f2
  obtain ⟨n3, e3, rfl, w3⟩ := DataW.trod_int Tryz.underlying2 f3
  have hmem : ∀ n, n ∈ (DataW.lit (H := H) (.string s2.data.toList)).weights Tryz.prog 9 ∨ n ∈ x4.1.weights Tryz.prog 25 → n ≤ reachBytes := fun n hn => hw n (by
    simp only [DataW.weights, Tryz.underlying39, List.map_cons, List.map_nil, DataW.weightsEach]
    rcases hn with hn | hn
    · simp [DataW.weights] at hn ⊢
      exact .inl hn
    · simp [DataW.weightsEach]
      exact .inr hn)
  obtain ⟨Ab, nb, cb, dat, e4, hrd, hdl, hnb⟩ := open_bytes f4 fun n hn => hmem n (.inr hn)
  have hs2 := hmem s2.data.toList.length (.inl (by simp [DataW.weights]))
  rw [reach_eq] at hs2
  cases e0; cases e1; cases e2; cases e3; cases e4
  exact ⟨⟨n0, n1, s2, n3, dat⟩, Ab, nb, cb, rfl, hrd, hdl, hnb, by simpa using hs2, w3, w1⟩
theorem weights_all {H : Type} {e : TypeId} {f : Nat → DataW H} {n k : Nat} (hk : k < n) {y : Nat} (hy : y ∈ (f k).weights Tryz.prog e) : y ∈ DataW.weightsAll Tryz.prog e ((List.range n).map f) := by
  have key : ∀ (l : List (DataW H)) (d : DataW H), d ∈ l → y ∈ d.weights Tryz.prog e → y ∈ DataW.weightsAll Tryz.prog e l := fun l => by
    induction l with
    | nil => intro d hd; cases hd
    | cons a l ih =>
      intro d hd hy
      simp only [DataW.weightsAll, List.mem_append]
      rcases List.mem_cons.1 hd with rfl | hd
      · exact .inl hy
      · exact .inr (ih d hd hy)
  exact key _ (f k) (List.mem_map.2 ⟨k, List.mem_range.2 hk, rfl⟩) hy
set_option maxRecDepth 100000 in
theorem open_script {H : Type} {enc : TypeId × Value → H} {w : World} {base : Nat} {spare : Nat → Bool} {held : Bool} {a : Option Addr} {len cap : Nat} {d : DataW H} {ps : List MemPlace} (h : DataW.Trod enc Tryz.prog w base spare held 22 (.slice a len cap) d ps)
    (hw : ∀ n ∈ d.weights Tryz.prog 22, n ≤ reachBytes) : len ≤ 140737488351232 ∧ (∃ ops, Script w a len ops) ∧ (len = 0 ∨ ∃ E S, d = .slice E S ∧ len ≤ E.length) := by
  obtain ⟨fuel, hf⟩ := h
  rcases open_slice Tryz.underlying22 hf with ⟨hcs, hx⟩ | ⟨ad, l, c, m, n, D, Pl, hcs, hb, hl, hm, hmm, hx, hel⟩
  · simp [Value.cells] at hcs
    obtain ⟨rfl, rfl, rfl⟩ := hcs
    exact ⟨Nat.zero_le _, ⟨[], rfl, fun i o h => by simp at h⟩, .inl rfl⟩
  · simp [Value.cells] at hcs
    obtain ⟨rfl, rfl, rfl⟩ := hcs
    obtain ⟨rfl, rfl⟩ := Prod.mk.inj hx
    have hlm : len ≤ m := by rw [hmm]; split <;> omega
    have hcN39 : Tryz.prog.cellsOf 39 = 5 := by kernel_rfl
    have hbN39 : Tryz.prog.bytesOf 39 = 64 := by kernel_rfl
    have h1 := hw ((((List.range len).map D).length + ((List.range (m - len)).map fun j => D (len + j)).length) * Tryz.prog.bytesOf 39) (by simp [DataW.weights, Tryz.underlying22])
    rw [hbN39, reach_eq] at h1
    simp at h1
    have hD : ∀ i, i < len → ∀ y ∈ (D i).weights Tryz.prog 39, y ≤ reachBytes := fun i hi y hy => hw y (by
      simp only [DataW.weights, Tryz.underlying22, List.mem_cons, List.mem_append]
      exact .inr (.inl (weights_all hi hy)))
    have key : ∀ k, k ≤ len → ∃ ops : List Op1, ops.length = k ∧ ∀ i o, ops[i]? = some o → ∃ Ab nb cb, OpAt w (ad.add (i * 5)) Ab nb cb o := fun k => by
      induction k with
      | zero => intro _; exact ⟨[], rfl, fun i o h => by simp at h⟩
      | succ k ih =>
        intro hk
        obtain ⟨ops, ho1, ho2⟩ := ih (by omega)
        obtain ⟨cs', g1, g2⟩ := hel k (by omega)
        rw [hcN39] at g1
        obtain ⟨o, Ab, nb, cb, rfl, q1, q2, q3, q4, q5, q6⟩ := open_op g2 (hD k (by omega))
        obtain ⟨_, _, hcell⟩ := World.cells?_some g1
        have t : OpAt w (ad.add (k * 5)) Ab nb cb o := by
          have e0 := hcell 0 (by omega)
          have e1 := hcell 1 (by omega)
          have e2 := hcell 2 (by omega)
          have e3 := hcell 3 (by omega)
          have e4 := hcell 4 (by omega)
          simp only [Addr.add, List.getElem?_cons_zero, List.getElem?_cons_succ] at e0 e1 e2 e3 e4
          refine ⟨?_, ?_, ?_, ?_, ?_, q1, q2, by omega, q4, q5, q6⟩
          · simpa [Addr.add] using e0
          · simpa [Addr.add] using e1
          · simpa [Addr.add] using e2
          · simpa [Addr.add] using e3
          · simpa [Addr.add] using e4
        refine ⟨ops ++ [o], by simp [ho1], fun i o' hi => ?_⟩
        by_cases hlt : i < ops.length
        · rw [List.getElem?_append_left hlt] at hi
          exact ho2 i o' hi
        · rw [List.getElem?_append_right (by omega)] at hi
          have h6 := (List.getElem?_eq_some_iff.1 hi).1
          simp at h6
          have e0 : i - ops.length = 0 := by omega
          rw [e0] at hi
          simp at hi
          subst hi
          obtain rfl : i = k := by omega
          exact ⟨Ab, nb, cb, t⟩
    obtain ⟨ops, ho1, ho2⟩ := key len (Nat.le_refl _)
    exact ⟨by omega, ⟨ops, ho1, fun i o hi => by
      obtain ⟨Ab, nb, cb, t⟩ := ho2 i o hi
      exact ⟨ad, Ab, nb, cb, rfl, t⟩⟩, .inr ⟨_, _, rfl, by simp⟩⟩
theorem fresh_row (room : Int) (a : Option Addr) (len cap : Nat) (ops : List Op1) (W : World) (w1 : Script W a len ops) (y1 : len ≤ 1048576) :
    Calls Tryz.prog 4 #[.int .i64 room, .slice a len cap] W fun e w' => e = .returned (.bool true) ∧ Below W.heap.size W w' := fresh_any room a len cap ops W w1 y1
end Go.Proofs.YtancenklmfamnaaGreat.Sh
