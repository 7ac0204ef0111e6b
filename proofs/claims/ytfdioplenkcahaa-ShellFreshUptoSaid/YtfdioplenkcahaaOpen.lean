/- What came in, read as the printed contracts read it ('Kd'), and what its bulk bounds: for the rows of the laws. -/
import Derived.Test.YtfdioplenkcahaaRows
import Derived.Test.YtfdioplenkcahaaWWords
import Derived.ProofKit
import Derived.OpenShut
import Derived.Deep.Slices
import Derived.ChangeArms
import Derived.DataReads
namespace Go.Proofs.Ytfdioplenkcahaa.Open
open Go.RowKit Go.Proofs.YtfdioplenkcahaaW.PrintWords Go.Deep

/-- Values of type t are read as d says; 'wt' is at most their bulk. -/
def Opens {α : Type} (d : Kd α) (t : TypeId) (ok : α → Prop) (wt : α → Nat) : Prop :=
  ∀ {H : Type} {enc : TypeId × Value → H} {w : World} {base : Nat} {spare : Nat → Bool} {held : Bool} {fuel : Nat} {cs : List Value} {x : DataW H × List MemPlace},
    DataW.trod enc Try.prog w base spare held fuel t cs = some x → ∃ p : α, d.K w p cs ∧ ok p ∧ wt p ≤ Rows.uptoBulk x.1

theorem opens_int {t : TypeId} {k : IntKind} (ht : Try.prog.underlying t = some (.int k)) : Opens (Kd.int k) t (fun n => (Lit.int k n).wf = true) (fun _ => 1) := by
  intro H enc w base spare held fuel cs x h
  obtain ⟨n, rfl, rfl, hw⟩ := DataW.trod_int ht h
  exact ⟨n, rfl, hw, by simp [Rows.uptoBulk]⟩
theorem opens_bool {t : TypeId} (ht : Try.prog.underlying t = some .bool) : Opens Kd.bool t (fun _ => True) (fun _ => 1) := by
  intro H enc w base spare held fuel cs x h
  obtain ⟨b, rfl, rfl⟩ := DataW.trod_bool ht h
  exact ⟨b, rfl, trivial, by simp [Rows.uptoBulk]⟩
theorem opens_string {t : TypeId} (ht : Try.prog.underlying t = some .string) : Opens Kd.string t (fun _ => True) (fun s => s.size + 1) := by
  intro H enc w base spare held fuel cs x h
  obtain ⟨s, rfl, rfl, hs⟩ := DataW.trod_string ht h
  refine ⟨s, rfl, trivial, ?_⟩
  simp only [Rows.uptoBulk, Array.length_toList]
  exact Nat.le_refl _

theorem bulk_map {H : Type} (f : Nat → DataW H) (g : Nat → Nat) : ∀ (l : List Nat), (∀ i ∈ l, g i ≤ Rows.uptoBulk (f i)) → (l.map g).sum ≤ Rows.uptoBulkAll (l.map f)
  | [], _ => by simp [Rows.uptoBulkAll]
  | a :: l, h => by
    have := bulk_map f g l (fun i hi => h i (List.mem_cons_of_mem _ hi))
    have h1 := h a List.mem_cons_self
    simp only [List.map_cons, List.sum_cons, Rows.uptoBulkAll]
    omega

theorem choose_upto {α : Type} (n : Nat) (p : Nat → α → Prop) (h : ∀ i, i < n → ∃ x, p i x) : ∃ xs : List α, xs.length = n ∧ ∀ i x, xs[i]? = some x → p i x := by
  induction n with
  | zero => exact ⟨[], rfl, fun i x h => by simp at h⟩
  | succ n ih =>
    obtain ⟨xs, hl, hx⟩ := ih (fun i hi => h i (by omega))
    obtain ⟨y, hy⟩ := h n (by omega)
    refine ⟨xs ++ [y], by simp [hl], fun i x hi => ?_⟩
    by_cases hlt : i < xs.length
    · rw [List.getElem?_append_left hlt] at hi
      exact hx i x hi
    · rw [List.getElem?_append_right (by omega)] at hi
      have : i - xs.length = 0 := by
        have := (List.getElem?_eq_some_iff.1 hi).1
        simp at this
        omega
      rw [this] at hi
      simp at hi
      subst hi
      have : i = n := by omega
      subst this
      exact hy

theorem opens_slice {α : Type} {d : Kd α} {t e : TypeId} {ok : α → Prop} {wt : α → Nat} (ht : Try.prog.underlying t = some (.slice e)) (hz : Try.prog.cellsOf e = d.sz) (h : Opens d e ok wt) :
    Opens (Kd.slice e d) t (fun l => ∀ x ∈ l, ok x) (fun l => (l.map wt).sum + 1) := by
  intro H enc w base spare held fuel cs x hx
  rcases open_slice ht hx with ⟨rfl, rfl⟩ | ⟨a, len, cap, m, n, D, Pl, rfl, hb, hl, hm, hmm, rfl, hel⟩
  · exact ⟨[], ⟨none, 0, rfl, Nat.le_refl _, rfl, by simp, fun h0 => by simp at h0⟩, fun _ h0 => by simp at h0, by simp [Rows.uptoBulk]⟩
  · have hlm : len ≤ m := by rw [hmm]; split <;> omega
    obtain ⟨xs, hxl, hxs⟩ := choose_upto len (fun i p => (∃ cs', w.cells? base (a.add (i * Try.prog.cellsOf e)) (Try.prog.cellsOf e) = some cs' ∧ d.K w p cs') ∧ ok p ∧ wt p ≤ Rows.uptoBulk (D i))
      (fun i hi => by
        obtain ⟨cs', h1, h2⟩ := hel i (by omega)
        obtain ⟨p, hp, ho, hw⟩ := h h2
        exact ⟨p, ⟨cs', h1, hp⟩, ho, hw⟩)
    refine ⟨xs, ⟨some a, cap, by rw [hxl], by omega, hxl ▸ rfl, by unfold maxLen at hm; omega, fun _ => ⟨a, rfl, fun j p hj => ?_⟩⟩, fun p hp => ?_, ?_⟩
    · obtain ⟨⟨cs', h1, h2⟩, _, _⟩ := hxs j p hj
      obtain ⟨_, hcl, hcc⟩ := World.cells?_some h1
      refine ⟨cs', d.K_len h2, h2, fun i u hu => ?_⟩
      have hi : i < cs'.length := (List.getElem?_eq_some_iff.1 hu).1
      have := hcc i (by omega)
      rw [hu] at this
      rw [← this, ← hz]
      congr 1
      exact (Addr.add_add a _ _).symm
    · obtain ⟨i, hi, rfl⟩ := List.getElem_of_mem hp
      exact (hxs i _ (List.getElem?_eq_getElem hi)).2.1
    · have key : xs.map wt = (List.range len).map (fun i => if hi : i < xs.length then wt (xs[i]'hi) else 0) := by
        apply List.ext_getElem
        · simp [hxl]
        · intro i h1 h2
          simp at h1
          simp [h1]
      have := bulk_map D (fun i => if hi : i < xs.length then wt (xs[i]'hi) else 0) (List.range len) (fun i hi => by
        have hi' : i < xs.length := by simp at hi; omega
        simp only [dif_pos hi']
        exact (hxs i _ (List.getElem?_eq_getElem hi')).2.2)
      simp only [Rows.uptoBulk]
      rw [key]
      omega
end Go.Proofs.Ytfdioplenkcahaa.Open
