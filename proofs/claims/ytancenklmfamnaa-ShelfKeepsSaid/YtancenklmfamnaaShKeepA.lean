/- ShelfKeeps: the plain law. fits: what it answers. fits: what it answers. ShelfKeeps: the plain law, call by call. ShelfKeeps: what lies beside the shelf. -/
import Derived.Test.YtancenklmfamnaaShToldW
import Derived.Test.YtancenklmfamnaaShFits
set_option linter.unusedVariables false
set_option linter.unusedSimpArgs false
namespace Go.Proofs.Ytancenklmfamnaa.Sh
open Go.RowKit Go.Maps Go.Sort Go.Shelf
open Go.Proofs
open PShelfKeeps (S39 S55)

/-- the last place of a model in what is known -/
structure LastAt (l : List S55) (nm : ByteArray) (v : Int) (i : Nat) : Prop where
  get : ∃ c, l[i]? = some c ∧ c.f0 = nm ∧ c.f1 = v
  rest : ∀ j c, i < j → l[j]? = some c → ¬ (c.f0 = nm ∧ c.f1 = v)
theorem LastAt.uniq {l : List S55} {nm : ByteArray} {v : Int} {i j : Nat} (h : LastAt l nm v i) (k : LastAt l nm v j) : i = j := by
  obtain ⟨c, h1, h2⟩ := h.get
  obtain ⟨d, k1, k2⟩ := k.get
  rcases Nat.lt_trichotomy i j with e | e | e
  · exact absurd k2 (h.rest j d e k1)
  · exact e
  · exact absurd h2 (k.rest i c e h1)
theorem rd55 {l : List S55} {i : Nat} {c : S55} (h : l[i]? = some c) : PShelfKeeps.rd_T55 l (i : Int) = c := by
  unfold PShelfKeeps.rd_T55
  rw [Int.toNat_natCast, List.getD_eq_getElem?_getD, h]
  rfl
theorem at_loop (l : List S55) (hl : l.length ≤ 1000000) (nm : ByteArray) (v : Int) (i : Nat) (h : LastAt l nm v i) : ∀ (d k : Nat), i + d < l.length → d < k → PShelfKeeps.heddlelaw27_at.l0 k l nm v ((i + d : Nat) : Int) = some (i : Int)
  | 0, k, hi, hk => by
    obtain ⟨k, rfl⟩ : ∃ m, k = m + 1 := ⟨k - 1, by omega⟩
    obtain ⟨c, h1, h2, h3⟩ := h.get
    simp only [PShelfKeeps.heddlelaw27_at.l0]
    rw [Nat.add_zero, if_pos (by omega), if_pos (by omega), if_pos (by omega), rd55 h1, if_pos (by rw [h2]), if_pos h3]
  | d + 1, k, hi, hk => by
    obtain ⟨k, rfl⟩ : ∃ m, k = m + 1 := ⟨k - 1, by omega⟩
    obtain ⟨c, hc⟩ : ∃ c, l[i + (d + 1)]? = some c := ⟨_, List.getElem?_eq_getElem hi⟩
    have hne := h.rest _ c (by omega) hc
    have e : wrap64 (((i + (d + 1) : Nat) : Int) - 1) = ((i + d : Nat) : Int) := by unfold wrap64; omega
    have ih := at_loop l hl nm v i h d k (by omega) (by omega)
    simp only [PShelfKeeps.heddlelaw27_at.l0]
    rw [if_pos (by omega), if_pos (by omega), if_pos (by omega), rd55 hc, e]
    by_cases h1 : c.f0.toList = nm.toList
    · have h1' : c.f0 = nm := toList_inj (by rw [ByteArray.toList_eq, ByteArray.toList_eq] at h1; exact h1)
      rw [if_pos h1, if_neg fun h2 => hne ⟨h1', h2⟩]
      exact ih
    · rw [if_neg h1]
      exact ih
theorem at_yes {l : List S55} (hl : l.length ≤ 1000000) {nm : ByteArray} {v : Int} {i : Nat} (h : LastAt l nm v i) : PShelfKeeps.heddlelaw27_at.f (l.length + 1) l nm v = some (i : Int) := by
  obtain ⟨c, h1, _⟩ := h.get
  have hi := (List.getElem?_eq_some_iff.1 h1).1
  have e : wrap64 ((l.length : Int) - 1) = ((i + (l.length - 1 - i) : Nat) : Int) := by unfold wrap64; omega
  unfold PShelfKeeps.heddlelaw27_at.f
  rw [e]
  exact at_loop l hl nm v i h _ _ (by omega) (by omega)
theorem LastAt.snoc {l : List S55} {nm : ByteArray} {v : Int} {i : Nat} (h : LastAt l nm v i) {c : S55} (hc : ¬ (c.f0 = nm ∧ c.f1 = v)) : LastAt (l ++ [c]) nm v i := by
  obtain ⟨d, h1, h2⟩ := h.get
  have hi := (List.getElem?_eq_some_iff.1 h1).1
  refine ⟨⟨d, by rw [List.getElem?_append_left hi]; exact h1, h2⟩, fun j e hj he => ?_⟩
  by_cases hjl : j < l.length
  · rw [List.getElem?_append_left hjl] at he
    exact h.rest j e hj he
  · rw [List.getElem?_append_right (by omega)] at he
    have := (List.getElem?_eq_some_iff.1 he).1
    simp at this
    have e0 : j - l.length = 0 := by omega
    rw [e0] at he
    simp at he
    subst he
    exact hc
theorem LastAt.new (l : List S55) (c : S55) : LastAt (l ++ [c]) c.f0 c.f1 l.length := by
  refine ⟨⟨c, by simp, rfl, rfl⟩, fun j e hj he => ?_⟩
  have := (List.getElem?_eq_some_iff.1 he).1
  simp at this
  omega
theorem LastAt.set {l : List S55} {nm : ByteArray} {v : Int} {i k : Nat} (h : LastAt l nm v i) {c : S55} {u : Int} (hc : l[k]? = some c) : LastAt (l.set k { c with f3 := u }) nm v i := by
  have hk := (List.getElem?_eq_some_iff.1 hc).1
  have key : ∀ (j : Nat) (d : S55), (l.set k { c with f3 := u })[j]? = some d → ∃ d' : S55, l[j]? = some d' ∧ d'.f0 = d.f0 ∧ d'.f1 = d.f1 := fun j d hd => by
    by_cases e : k = j
    · subst e
      rw [List.getElem?_set_self hk] at hd
      simp at hd
      subst hd
      exact ⟨c, hc, rfl, rfl⟩
    · rw [List.getElem?_set_ne e] at hd
      exact ⟨d, hd, rfl, rfl⟩
  obtain ⟨d, h1, h2, h3⟩ := h.get
  refine ⟨?_, fun j e hj he => ?_⟩
  · by_cases e : k = i
    · subst e
      rw [hc] at h1
      cases h1
      exact ⟨{ c with f3 := u }, by rw [List.getElem?_set_self hk], h2, h3⟩
    · exact ⟨d, by rw [List.getElem?_set_ne e]; exact h1, h2, h3⟩
  · obtain ⟨e', he', e1, e2⟩ := key j e he
    have := h.rest j e' hj he'
    rwa [e1, e2] at this
/-- what is known, beside the shelf -/
structure Kn (L : Lay) (l : List S55) : Prop where
  all : ∀ m ∈ L.ms, ∃ i c, LastAt l m.name m.ver i ∧ l[i]? = some c ∧ c.f2 = m.dat ∧ c.f3 = m.used
  inUse : ∀ i c, l[i]? = some c → c.f3 ≠ 0 → ∃ m ∈ L.ms, m.name = c.f0 ∧ m.ver = c.f1 ∧ LastAt l c.f0 c.f1 i
  low : ∀ c ∈ l, ∃ v, L.lastOf c.f0 = some v ∧ c.f1 ≤ v
theorem Kn.start (n : Int) (a b : Nat) : Kn (Lay.start n a b) [] := ⟨(fun m hm => by cases hm), (fun i c h => by simp at h), (fun c hc => by cases hc)⟩
theorem modOf_ne {L : Lay} {nm : ByteArray} {v : Int} (h : L.modOf nm v = none) {m : LM} (hm : m ∈ L.ms) : ¬ (m.name = nm ∧ m.ver = v) := by
  have := List.find?_eq_none.1 h m hm
  simpa using this
section
variable {L L' : Lay} {l : List S55} {nm : ByteArray} {ver : Int} {dat : List Int} {i : Nat} {new m : LM}
theorem Kn.used (h : Kn L l) {i : Nat} {c : S55} (hc : l[i]? = some c) (hu : c.f3 ≠ 0) : ∃ m ∈ L.ms, m.name = c.f0 ∧ m.ver = c.f1 ∧ LastAt l c.f0 c.f1 i ∧ m.used = c.f3 := by
  obtain ⟨m, hm, e1, e2, hl⟩ := h.inUse i c hc hu
  obtain ⟨j, d, k1, k2, k3, k4⟩ := h.all m hm
  rw [e1, e2] at k1
  obtain rfl := k1.uniq hl
  rw [hc] at k2
  cases k2
  exact ⟨m, hm, e1, e2, hl, k4.symm⟩
theorem Kn.laid (h : Kn L l) (g : Good L) (hb : (L.ms.map (·.blk)).Nodup) (hl : Laid L L' nm ver dat i new) (hno : L.modOf nm ver = none) : Kn L' (l ++ [⟨nm, ver, dat, 0⟩]) := by
  have hmem : ∀ m ∈ L'.ms, m = new ∨ m ∈ L.ms := fun m hm => by
    rw [hl.ms] at hm
    rcases List.mem_append.1 hm with hm | hm
    · exact .inr (List.mem_filter.1 hm).1
    · simp at hm; exact .inl hm
  have hkeep : ∀ m ∈ L.ms, m.used ≠ 0 → 0 ≤ m.used → m ∈ L'.ms := fun m hm hu h0 => by
    rw [hl.ms]
    refine List.mem_append_left _ (List.mem_filter.2 ⟨hm, ?_⟩)
    simp only [gone, Bool.not_eq_true', List.any_eq_false, decide_eq_true_eq]
    intro x hx e
    have hx' := unused_mem (List.mem_of_mem_take hx)
    obtain rfl := map_inj hb hx'.1 hm e
    exact hx'.2 (by omega)
  refine ⟨fun m hm => ?_, fun j c hc hu => ?_, fun c hc => ?_⟩
  · rcases hmem m hm with rfl | hm
    · refine ⟨l.length, ⟨nm, ver, dat, 0⟩, ?_, by simp, hl.dat_.symm, hl.used.symm⟩
      rw [hl.name, hl.ver_]
      exact LastAt.new l ⟨nm, ver, dat, 0⟩
    · obtain ⟨j, c, h1, h2, h3⟩ := h.all m hm
      have hne := modOf_ne hno hm
      refine ⟨j, c, h1.snoc fun e => hne ⟨e.1.symm, e.2.symm⟩, ?_, h3⟩
      rw [List.getElem?_append_left (List.getElem?_eq_some_iff.1 h2).1]
      exact h2
  · by_cases hj : j < l.length
    · rw [List.getElem?_append_left hj] at hc
      obtain ⟨m, hm, e1, e2, hla, eu⟩ := h.used hc hu
      have hne := modOf_ne hno hm
      exact ⟨m, hkeep m hm (by rw [eu]; exact hu) (g.used m hm).1, e1, e2, hla.snoc fun e => hne ⟨e1.trans e.1.symm, e2.trans e.2.symm⟩⟩
    · rw [List.getElem?_append_right (by omega)] at hc
      have := (List.getElem?_eq_some_iff.1 hc).1
      simp at this
      have e0 : j - l.length = 0 := by omega
      rw [e0] at hc
      simp at hc
      subst hc
      exact absurd rfl hu
  · rw [lastOf_laid hl]
    rcases List.mem_append.1 hc with hc | hc
    · obtain ⟨v, h1, h2⟩ := h.low c hc
      by_cases e : c.f0 = nm
      · rw [if_pos e]
        refine ⟨_, rfl, ?_⟩
        rw [e] at h1
        rw [h1]
        simp only [Option.getD_some]
        omega
      · rw [if_neg e]
        exact ⟨v, h1, h2⟩
    · simp at hc
      subst hc
      rw [if_pos rfl]
      exact ⟨_, rfl, by show ver ≤ _; omega⟩
/-- one model's use is another -/
theorem Kn.use (h : Kn L l) (hb : (L.ms.map (·.blk)).Nodup) (hm : m ∈ L.ms) (f : LM → LM) (u : Int) (hf : ∀ x, (f x).name = x.name ∧ (f x).ver = x.ver ∧ (f x).dat = x.dat ∧ (f x).used = if x.blk = m.blk then u else x.used)
    (hk : (L.ms.map fun m => (m.name, m.ver)).Nodup) (hms : L'.ms = L.ms.map f) (hla : L'.last = L.last) {k : Nat} {c : S55} (hL : LastAt l m.name m.ver k) (hc : l[k]? = some c) : Kn L' (l.set k { c with f3 := u }) := by
  have hkl := (List.getElem?_eq_some_iff.1 hc).1
  have hck : c.f0 = m.name ∧ c.f1 = m.ver := by
    obtain ⟨d, h1, h2⟩ := hL.get
    rw [hc] at h1
    cases h1
    exact h2
  refine ⟨fun x hx => ?_, fun j d hd hu => ?_, fun d hd => ?_⟩
  · rw [hms] at hx
    obtain ⟨y, hy, rfl⟩ := List.mem_map.1 hx
    obtain ⟨e1, e2, e3, e4⟩ := hf y
    rw [e1, e2, e3, e4]
    obtain ⟨j, d, h1, h2, h3, h4⟩ := h.all y hy
    by_cases e : y.blk = m.blk
    · obtain rfl := map_inj hb hy hm e
      obtain rfl := h1.uniq hL
      rw [hc] at h2
      cases h2
      exact ⟨j, { c with f3 := u }, hL.set hc, by rw [List.getElem?_set_self hkl], h3, by rw [if_pos rfl]⟩
    · have hjk : k ≠ j := fun ej => e (by
        subst ej
        rw [hc] at h2
        cases h2
        obtain ⟨d', q1, q2, q3⟩ := h1.get
        rw [hc] at q1
        cases q1
        exact congrArg (·.blk) (map_inj hk hy hm (by rw [← q2, ← q3, hck.1, hck.2])))
      exact ⟨j, d, h1.set hc, by rw [List.getElem?_set_ne hjk]; exact h2, h3, by rw [if_neg e]; exact h4⟩
  · by_cases e : k = j
    · subst e
      rw [List.getElem?_set_self hkl] at hd
      cases hd
      obtain ⟨e1, e2, _⟩ := hf m
      exact ⟨f m, by rw [hms]; exact List.mem_map_of_mem hm, by rw [e1]; exact hck.1.symm, by rw [e2]; exact hck.2.symm, by
        have := hL.set (u := u) hc
        rwa [← hck.1, ← hck.2] at this⟩
    · rw [List.getElem?_set_ne e] at hd
      obtain ⟨y, hy, q1, q2, q3⟩ := h.inUse j d hd hu
      obtain ⟨e1, e2, _⟩ := hf y
      exact ⟨f y, by rw [hms]; exact List.mem_map_of_mem hy, by rw [e1]; exact q1, by rw [e2]; exact q2, q3.set hc⟩
  · have hlo : ∀ s, L'.lastOf s = L.lastOf s := fun s => by simp only [Lay.lastOf]; rw [hla]
    rw [hlo]
    obtain ⟨j, hj⟩ := List.mem_iff_getElem?.1 hd
    by_cases e : k = j
    · subst e
      rw [List.getElem?_set_self hkl] at hj
      cases hj
      exact h.low c (List.mem_of_getElem? hc)
    · rw [List.getElem?_set_ne e] at hj
      exact h.low d (List.mem_of_getElem? hj)
/-- one that is in no use goes -/
theorem Kn.gone (h : Kn L l) (hb : (L.ms.map (·.blk)).Nodup) (hm : m ∈ L.ms) (hu0 : m.used = 0) (hms : L'.ms = L.ms.filter fun x => decide (x.blk ≠ m.blk)) (hla : L'.last = L.last) : Kn L' l := by
  refine ⟨fun x hx => ?_, fun j d hd hu => ?_, fun d hd => ?_⟩
  · rw [hms] at hx
    exact h.all x (List.mem_filter.1 hx).1
  · obtain ⟨y, hy, q1, q2, q3, q4⟩ := h.used hd hu
    refine ⟨y, ?_, q1, q2, q3⟩
    rw [hms]
    refine List.mem_filter.2 ⟨hy, ?_⟩
    simp only [decide_eq_true_eq]
    intro e
    obtain rfl := map_inj hb hy hm e
    exact hu (by rw [← q4, hu0])
  · have hlo : L'.lastOf d.f0 = L.lastOf d.f0 := by simp only [Lay.lastOf]; rw [hla]
    rw [hlo]
    exact h.low d hd
end
end Go.Proofs.Ytancenklmfamnaa.Sh
namespace Go.Proofs.Ytancenklmfamnaa.Sh
open Go.RowKit Go.Maps Go.Sort Go.Shelf
open Go.Proofs
open PShelfKeeps (S39 S55)

theorem at_up {l : List S55} {nm : ByteArray} {v r : Int} {k : Nat} (h : PShelfKeeps.heddlelaw27_at.f k l nm v = some r) : ∀ k', k ≤ k' → PShelfKeeps.heddlelaw27_at.f k' l nm v = some r := by
  intro k' hk
  obtain ⟨d, rfl⟩ : ∃ d, k' = k + d := ⟨k' - k, by omega⟩
  clear hk
  induction d with
  | zero => exact h
  | succ d ih => exact PShelfKeeps.heddlelaw27_at.mono l nm v (k + d) _ ih
theorem there_up {l : List S39} {nm : ByteArray} {v r : Int} {k : Nat} (h : PShelfKeeps.heddlelaw27_there.f k l nm v = some r) : ∀ k', k ≤ k' → PShelfKeeps.heddlelaw27_there.f k' l nm v = some r := by
  intro k' hk
  obtain ⟨d, rfl⟩ : ∃ d, k' = k + d := ⟨k' - k, by omega⟩
  clear hk
  induction d with
  | zero => exact h
  | succ d ih => exact PShelfKeeps.heddlelaw27_there.mono l nm v (k + d) _ ih
theorem fits_known {l : List S39} {known : List S55} {room x7 : Int} (hk : ∀ c ∈ known, c.f3 > 0 → ∃ x ∈ l, x.f0 = c.f0 ∧ x.f1 = c.f1) (h7 : x7 ≤ room) (hl : l.length ≤ 256) (hkl : known.length ≤ 1000000) :
    ∀ (d k j : Nat), known.length - j = d → j ≤ known.length → d + l.length + 1 < k → PShelfKeeps.heddlelaw27_fits.l1 k l room known x7 j = some true
  | 0, k, j, hd, hj, hkk => by
    obtain ⟨k, rfl⟩ : ∃ m, k = m + 1 := ⟨k - 1, by omega⟩
    simp only [PShelfKeeps.heddlelaw27_fits.l1]
    rw [if_neg (by omega), if_pos h7, decide_eq_true (by omega)]
  | d + 1, k, j, hd, hj, hkk => by
    obtain ⟨k, rfl⟩ : ∃ m, k = m + 1 := ⟨k - 1, by omega⟩
    obtain ⟨c, hc⟩ : ∃ c, known[j]? = some c := ⟨_, List.getElem?_eq_getElem (by omega)⟩
    have e : wrap64 ((j : Int) + 1) = ((j + 1 : Nat) : Int) := by unfold wrap64; omega
    have ih := fits_known (l := l) (room := room) hk h7 hl hkl d k (j + 1) (by omega) (by omega) (by omega)
    simp only [PShelfKeeps.heddlelaw27_fits.l1]
    rw [if_pos (by omega), if_pos (by omega), rd55 hc, e]
    by_cases hu : c.f3 > 0
    · rw [if_pos hu]
      obtain ⟨a, ha⟩ := there_yes (l := l) (by omega) (hk c (List.mem_of_getElem? hc) hu)
      rw [there_up ha k (by omega)]
      simp only [Option.bind_some]
      rw [if_neg (by omega)]
      exact ih
    · rw [if_neg hu]
      exact ih
end Go.Proofs.Ytancenklmfamnaa.Sh
namespace Go.Proofs.Ytancenklmfamnaa.Sh
open Go.RowKit Go.Maps Go.Sort Go.Shelf
open Go.Proofs
open PShelfKeeps (S39 S55)

theorem wrap_mid {x : Int} (h0 : 0 ≤ x) (h1 : x ≤ 1099511627776) : wrap64 x = x := by
  unfold wrap64
  omega
theorem wrap_succ {i : Nat} (h : i ≤ 1000000) : wrap64 ((i : Int) + 1) = ((i + 1 : Nat) : Int) := by
  unfold wrap64
  omega
theorem wrap_pred {i : Nat} (h : i ≤ 1000000) : wrap64 (((i + 1 : Nat) : Int) - 1) = ((i : Nat) : Int) := by
  unfold wrap64
  omega
def sumF2 : List S39 → Int
  | [] => 0
  | x :: l => x.f2 + sumF2 l
theorem sumF2_nonneg : ∀ {q : List S39}, (∀ y ∈ q, 0 ≤ y.f2) → 0 ≤ sumF2 q
  | [], _ => Int.le_refl _
  | y :: q, h => Int.add_nonneg (h y List.mem_cons_self) (sumF2_nonneg fun z hz => h z (List.mem_cons_of_mem _ hz))
theorem rd39 {l : List S39} {j : Nat} {y : S39} (hy : l[j]? = some y) : PShelfKeeps.rd_T39 l (j : Int) = y := by
  unfold PShelfKeeps.rd_T39
  rw [Int.toNat_natCast, List.getD_eq_getElem?_getD, hy]
  rfl
theorem fits_j1 {l : List S39} {known : List S55} {room n7 : Int} {k i a : Nat} {x : S39} {c : S55} (hl : l.length ≤ 256) (hx : l[i]? = some x) (hat : PShelfKeeps.heddlelaw27_at.f k known x.f0 x.f1 = some (a : Int)) (hc : known[a]? = some c) (hf2 : x.f2 = (c.f2.length : Int)) (hf3 : x.f3 = c.f3)
    (ih : PShelfKeeps.heddlelaw27_fits.l0 k l room known n7 ((i + 1 : Nat) : Int) = some true) : PShelfKeeps.heddlelaw27_fits.j1 (k + 1) l room known n7 (i : Int) false = some true := by
  have hi := (List.getElem?_eq_some_iff.1 hx).1
  have ha := (List.getElem?_eq_some_iff.1 hc).1
  simp only [PShelfKeeps.heddlelaw27_fits.j1]
  rw [if_neg (by decide), if_pos (by omega), if_pos (by omega), rd39 hx, hat]
  simp only [Option.bind_some]
  rw [if_neg (by omega), if_pos (by omega), if_pos (by omega), rd55 hc, if_pos hf2, if_pos hf3, wrap_succ (by omega)]
  exact ih
theorem fits_step {l : List S39} {known : List S55} {room x7 : Int} {k i : Nat} {x : S39} (hl : l.length ≤ 256) (hx : l[i]? = some x) (h0 : 0 ≤ x7 + x.f2) (h1 : x7 + x.f2 ≤ 1099511627776)
    (hord : ∀ (i' : Nat) (y : S39), i = i' + 1 → l[i']? = some y → y.f0.data.toList < x.f0.data.toList ∨ (y.f0 = x.f0 ∧ y.f1 < x.f1))
    (hj : PShelfKeeps.heddlelaw27_fits.j1 k l room known (x7 + x.f2) (i : Int) false = some true) : PShelfKeeps.heddlelaw27_fits.l0 (k + 1) l room known x7 (i : Int) = some true := by
  have hi := (List.getElem?_eq_some_iff.1 hx).1
  simp only [PShelfKeeps.heddlelaw27_fits.l0]
  rw [if_pos (by omega), if_pos (by omega), rd39 hx, wrap_mid h0 h1]
  cases i with
  | zero =>
    rw [if_neg (by omega)]
    exact hj
  | succ i' =>
    obtain ⟨y, hy⟩ : ∃ y, l[i']? = some y := ⟨_, List.getElem?_eq_getElem (by omega)⟩
    have ho := hord i' y rfl hy
    rw [if_pos (by omega), wrap_pred (by omega), if_pos (by omega), if_pos (by omega), rd39 hy]
    have hb : Op.bytesLess x.f0.toList y.f0.toList = false := by
      rw [ByteArray.toList_eq, ByteArray.toList_eq, bytesLess_eq]
      refine decide_eq_false fun e => ?_
      rcases ho with h | ⟨h, _⟩
      · exact List.lt_asymm h e
      · rw [h] at e
        exact List.lt_irrefl _ e
    rw [if_neg (by rw [hb]; decide)]
    by_cases hn : y.f0.toList = x.f0.toList
    · rw [if_pos hn]
      have hn' : y.f0 = x.f0 := toList_inj (by rw [ByteArray.toList_eq, ByteArray.toList_eq] at hn; exact hn)
      have hv : y.f1 < x.f1 := by
        rcases ho with h | ⟨_, h⟩
        · rw [hn'] at h
          exact absurd h (List.lt_irrefl _)
        · exact h
      rw [decide_eq_false (by omega)]
      exact hj
    · rw [if_neg hn]
      exact hj
theorem fits_loop {l : List S39} {known : List S55} {room : Int} (hk : ∀ c ∈ known, c.f3 > 0 → ∃ x ∈ l, x.f0 = c.f0 ∧ x.f1 = c.f1) (hl : l.length ≤ 256) (hkl : known.length ≤ 1000000)
    (hall : ∀ x ∈ l, ∃ (i : Nat) (c : S55), LastAt known x.f0 x.f1 i ∧ known[i]? = some c ∧ x.f2 = (c.f2.length : Int) ∧ x.f3 = c.f3)
    (hord : ∀ (i : Nat) (x y : S39), l[i]? = some x → l[i + 1]? = some y → x.f0.data.toList < y.f0.data.toList ∨ (x.f0 = y.f0 ∧ x.f1 < y.f1)) (hroom : room ≤ 1099511627776) (hp : ∀ x ∈ l, 0 ≤ x.f2) :
    ∀ (d k i : Nat) (x7 : Int), l.length - i = d → i ≤ l.length → 0 ≤ x7 → x7 + sumF2 (l.drop i) ≤ room → 2 * d + 2 * known.length + l.length + 4 < k → PShelfKeeps.heddlelaw27_fits.l0 k l room known x7 i = some true := by
  intro d
  induction d with
  | zero =>
    intro k i x7 hd hi h0 h7 hkk
    obtain ⟨k, rfl⟩ : ∃ m, k = m + 1 := ⟨k - 1, by omega⟩
    rw [List.drop_eq_nil_of_le (by omega)] at h7
    simp only [PShelfKeeps.heddlelaw27_fits.l0]
    rw [if_neg (by omega)]
    exact fits_known hk (by simpa [sumF2] using h7) hl hkl known.length k 0 (by omega) (by omega) (by omega)
  | succ d IH =>
    intro k i x7 hd hi h0 h7 hkk
    obtain ⟨k, rfl⟩ : ∃ m, k = m + 1 + 1 := ⟨k - 2, by omega⟩
    have hlt : i < l.length := by omega
    obtain ⟨x, hx⟩ : ∃ x, l[i]? = some x := ⟨_, List.getElem?_eq_getElem hlt⟩
    have hxm := List.mem_of_getElem? hx
    have hdr : l.drop i = x :: l.drop (i + 1) := by
      rw [List.drop_eq_getElem_cons hlt]
      have := (List.getElem?_eq_some_iff.1 hx).2
      rw [this]
    rw [hdr] at h7
    simp only [sumF2] at h7
    have hsum : 0 ≤ sumF2 (l.drop (i + 1)) := sumF2_nonneg fun y hy => hp y (List.mem_of_mem_drop hy)
    have hx0 := hp x hxm
    have a3 : 0 ≤ x7 + x.f2 := by omega
    have a4 : x7 + x.f2 ≤ 1099511627776 := by omega
    have a5 : x7 + x.f2 + sumF2 (l.drop (i + 1)) ≤ room := by omega
    obtain ⟨a, c, ha, hc, hf2, hf3⟩ := hall x hxm
    refine fits_step hl hx a3 a4 (fun i' y e hy => ?_) (fits_j1 hl hx (at_up (at_yes hkl ha) k (by omega)) hc hf2 hf3 (IH k (i + 1) (x7 + x.f2) (by omega) (by omega) a3 a5 (by omega)))
    subst e
    exact hord i' y x hy hx
end Go.Proofs.Ytancenklmfamnaa.Sh
namespace Go.Proofs.Ytancenklmfamnaa.Sh
open Go.RowKit Go.Maps Go.Sort Go.Shelf
open Go.Proofs
open PShelfKeeps (S39 S55)

abbrev lst (L : Lay) : List S39 := (sortedN L).map heldOf
theorem sortedN_lt {L : Lay} (hk : (L.ms.map fun m => (m.name, m.ver)).Nodup) : (sortedN L).Pairwise ltN := by
  have tr : ∀ a b c : LM, (!decide (ltN b a)) = true → (!decide (ltN c b)) = true → (!decide (ltN c a)) = true := fun a b c h1 h2 => by
    simp at *
    intro h3
    rcases ltN_total a b with h | h | ⟨h, h'⟩
    · exact h2 (ltN_trans h3 h)
    · exact h1 h
    · apply h2
      rcases h3 with h3 | ⟨e, h3⟩
      · exact .inl (h ▸ h3)
      · exact .inr ⟨e.trans h, h' ▸ h3⟩
  have tot : ∀ a b : LM, ((!decide (ltN b a)) || (!decide (ltN a b))) = true := fun a b => by
    simp
    rcases ltN_total a b with h | h | ⟨h, h'⟩
    · exact .inl fun h2 => ltN_irrefl _ (ltN_trans h h2)
    · exact .inr fun h2 => ltN_irrefl _ (ltN_trans h h2)
    · left
      rintro (h2 | ⟨_, h2⟩)
      · rw [h] at h2; exact List.lt_irrefl _ h2
      · omega
  have h1 : (sortedN L).Pairwise fun a b => (!decide (ltN b a)) = true := List.pairwise_mergeSort tr tot L.ms
  have h2 : ((sortedN L).map fun m => (m.name, m.ver)).Nodup := ((List.mergeSort_perm L.ms _).map _).nodup_iff.2 hk
  refine (h1.and (List.pairwise_map.1 h2)).imp fun {a b} ⟨h3, h4⟩ => ?_
  simp at h3
  rcases ltN_total a b with h | h | ⟨h, h'⟩
  · exact h
  · exact absurd h h3
  · exact absurd (by rw [h, h']) h4
theorem sizes_perm {a b : List LM} (h : a.Perm b) : sizes a = sizes b := by
  induction h with
  | nil => rfl
  | cons x _ ih => simp [sizes, ih]
  | swap x y l => simp [sizes]; omega
  | trans _ _ h1 h2 => exact h1.trans h2
theorem sumF2_held : ∀ l : List LM, sumF2 (l.map heldOf) = sizes l
  | [] => rfl
  | m :: l => by
    show (m.dat.length : Int) + sumF2 (l.map heldOf) = sz m + sizes l
    rw [sumF2_held l]
    rfl
theorem mem_sorted {L : Lay} {m : LM} : m ∈ sortedN L ↔ m ∈ L.ms := (List.mergeSort_perm _ _).mem_iff
theorem lst_len (L : Lay) : (lst L).length = L.ms.length := by simp [lst, sortedN]
theorem fits_ok {L : Lay} {l : List S55} (g : Good L) (hk : (L.ms.map fun m => (m.name, m.ver)).Nodup) (hfew : L.ms.length ≤ 256) (h : Kn L l) (hll : l.length ≤ 1000000) :
    PShelfKeeps.heddlelaw27_fits.f (1000 + 2 * l.length) (lst L) L.room l = some true := by
  have hlen := lst_len L
  unfold PShelfKeeps.heddlelaw27_fits.f
  refine fits_loop (l := lst L) (known := l) (room := L.room) (fun c hc hu => ?_) (by omega) hll (fun x hx => ?_) (fun i x y hx hy => ?_) g.room.2 (fun x hx => ?_) (lst L).length (1000 + 2 * l.length) 0 0 rfl (Nat.zero_le _) (Int.le_refl _) ?_ (by omega)
  · obtain ⟨i, hi⟩ := List.mem_iff_getElem?.1 hc
    obtain ⟨m, hm, e1, e2, _⟩ := h.inUse i c hi (by omega)
    exact ⟨heldOf m, List.mem_map_of_mem (mem_sorted.2 hm), e1, e2⟩
  · obtain ⟨m, hm, rfl⟩ := List.mem_map.1 hx
    obtain ⟨i, c, h1, h2, h3, h4⟩ := h.all m (mem_sorted.1 hm)
    exact ⟨i, c, h1, h2, by rw [h3]; rfl, by rw [h4]; rfl⟩
  · rw [List.getElem?_map] at hx hy
    obtain ⟨a, ha, rfl⟩ := Option.map_eq_some_iff.1 hx
    obtain ⟨b, hb, rfl⟩ := Option.map_eq_some_iff.1 hy
    obtain ⟨ha1, ha2⟩ := List.getElem?_eq_some_iff.1 ha
    obtain ⟨hb1, hb2⟩ := List.getElem?_eq_some_iff.1 hb
    have := List.pairwise_iff_getElem.1 (sortedN_lt hk) i (i + 1) ha1 hb1 (by omega)
    rw [ha2, hb2] at this
    exact this
  · obtain ⟨m, hm, rfl⟩ := List.mem_map.1 hx
    exact Int.natCast_nonneg _
  · rw [List.drop_zero, sumF2_held, sizes_perm (show (sortedN L).Perm L.ms from List.mergeSort_perm _ _), ← g.bytes, Int.zero_add]
    exact g.fits
theorem lst_yes {L : Lay} (hfew : L.ms.length ≤ 256) {m : LM} (hm : m ∈ L.ms) : ∃ j : Nat, PShelfKeeps.heddlelaw27_there.f ((lst L).length + 1) (lst L) m.name m.ver = some (j : Int) :=
  there_yes (by rw [lst_len]; omega) ⟨heldOf m, List.mem_map_of_mem (mem_sorted.2 hm), rfl, rfl⟩
theorem lst_no {L : Lay} (hfew : L.ms.length ≤ 256) {nm : ByteArray} {v : Int} (h : ∀ m ∈ L.ms, ¬ (m.name = nm ∧ m.ver = v)) : PShelfKeeps.heddlelaw27_there.f ((lst L).length + 1) (lst L) nm v = some (-1) :=
  there_no (by rw [lst_len]; omega) fun x hx => by
    obtain ⟨m, hm, rfl⟩ := List.mem_map.1 hx
    exact h m (mem_sorted.1 hm)
section
variable {kind ver tv te : Int} {nm : ByteArray} {dat tdat : List Int} {L L' : Lay} {tl : List LM} {known : List S55}
theorem told_refused (h : ToldR kind nm ver dat L L' tdat tv tl te) (hte : te ≠ 0) : L' = L := by
  unfold ToldR at h
  by_cases k1 : kind = 1
  · rw [if_pos k1] at h
    rcases h.2.2 with ⟨_, _, _, e⟩ | ⟨_, _, _, _, e⟩ | ⟨_, _, _, _, _, e⟩ | ⟨_, _, _, _, e⟩
    · exact e
    · exact e
    · exact e
    · rcases e with ⟨_, _, e⟩ | ⟨e, _⟩
      · exact e
      · exact absurd e hte
  rw [if_neg k1] at h
  by_cases k2 : kind = 2
  · rw [if_pos k2] at h
    rcases h.2.2.2 with ⟨_, _, e⟩ | ⟨_, _, _, e⟩ | ⟨_, _, _, _, e⟩ | ⟨_, _, _, _, _, e⟩ | ⟨_, _, _, _, e⟩
    · exact e
    · exact e
    · exact e
    · exact e
    · rcases e with ⟨_, _, e⟩ | ⟨e, _⟩
      · exact e
      · exact absurd e hte
  rw [if_neg k2] at h
  by_cases k3 : kind = 3
  · rw [if_pos k3] at h
    obtain ⟨_, e1, e2, _⟩ := h
    subst e1
    unfold Lay.take at e2 ⊢
    split at e2
    · rfl
    · split at e2
      · rename_i hu
        simp only [if_pos hu]
      · exact absurd e2 hte
  rw [if_neg k3] at h
  by_cases k4 : kind = 4
  · rw [if_pos k4] at h
    obtain ⟨_, _, _, e1, e2⟩ := h
    subst e1
    unfold Lay.give at e2 ⊢
    split at e2
    · rfl
    · split at e2
      · rename_i hu
        simp only [if_pos hu]
      · exact absurd e2 hte
  rw [if_neg k4] at h
  by_cases k5 : kind = 5
  · rw [if_pos k5] at h
    obtain ⟨_, _, _, e1, e2⟩ := h
    subst e1
    unfold Lay.dropM at e2 ⊢
    split at e2
    · rfl
    · split at e2
      · rename_i hu
        simp only [if_pos hu]
      · exact absurd e2 hte
  rw [if_neg k5] at h
  split at h
  · exact h.2.2.2.1
  · exact h.2.2.2.1
/-- one model was put or laid -/
structure Told1 (L L' : Lay) (nm : ByteArray) (v : Int) (dat : List Int) : Prop where
  laid : ∃ i new, Laid L L' nm v dat i new
  no : L.modOf nm v = none
  few : dat.length ≤ 16777216
theorem told_put (h : ToldR 1 nm ver dat L L' tdat tv tl 0) (g : Good L) : Told1 L L' nm tv dat ∧ ∀ v, L.lastOf nm = some v → v < tv := by
  unfold ToldR at h
  rw [if_pos rfl] at h
  rcases h.2.2 with ⟨_, _, e, _⟩ | ⟨_, _, _, e, _⟩ | ⟨_, _, _, _, e, _⟩ | ⟨_, h1, h2, h3, e⟩
  · omega
  · omega
  · omega
  · rw [if_pos rfl] at h3
    subst h3
    rcases e with ⟨e, _⟩ | ⟨_, _, e⟩
    · omega
    · refine ⟨⟨e, ?_, h1⟩, fun v hv => by rw [hv]; simp only [Option.getD_some]; omega⟩
      cases hm : L.modOf nm ((L.lastOf nm).getD 0 + 1) with
      | none => rfl
      | some m =>
        obtain ⟨a1, a2, a3⟩ := find_key hm
        obtain ⟨v, b1, b2⟩ := g.known m a1
        rw [a2] at b1
        rw [b1] at a3
        simp only [Option.getD_some] at a3
        omega
theorem told_lay (h : ToldR 2 nm ver dat L L' tdat tv tl 0) : Told1 L L' nm ver dat := by
  unfold ToldR at h
  rw [if_neg (by decide), if_pos rfl] at h
  rcases h.2.2.2 with ⟨_, e, _⟩ | ⟨_, _, e, _⟩ | ⟨_, _, _, e, _⟩ | ⟨_, _, _, _, e, _⟩ | ⟨_, _, h2, h3, e⟩
  · omega
  · omega
  · omega
  · omega
  · rcases e with ⟨e, _⟩ | ⟨_, _, e⟩
    · omega
    · exact ⟨e, h3, h2⟩
theorem told_take (h : ToldR 3 nm ver dat L L' tdat tv tl 0) (g : Good L) : ∃ m ∈ L.ms, m.name = nm ∧ m.ver = tv ∧ tdat = m.dat ∧ (ver = 0 ∨ ver = tv) ∧ L' = L.took m ∧ m.used < 2147483647 := by
  unfold ToldR at h
  rw [if_neg (by decide), if_neg (by decide), if_pos rfl] at h
  obtain ⟨_, e1, e2, e3, e4⟩ := h
  cases hf : (L.find nm ver true).1 with
  | none =>
    have ht : L.take nm ver = (L, none, (L.find nm ver true).2) := by unfold Lay.take; rw [hf]
    rw [ht] at e2
    have e2' : (0 : Int) = (L.find nm ver true).2 := e2
    rcases find_none hf with e | e <;> omega
  | some m =>
    obtain ⟨h1, h2, h3, _⟩ := find_mem hf
    have hu := g.used m h1
    by_cases h4 : m.used = 2147483647
    · have ht : L.take nm ver = (L, none, 4) := by unfold Lay.take; rw [hf]; simp only; rw [if_pos h4]
      rw [ht] at e2
      exact absurd (show (0 : Int) = 4 from e2) (by decide)
    · have ht : L.take nm ver = (L.took m, some m, 0) := by
        unfold Lay.take
        rw [hf]
        simp only [Lay.took]
        rw [if_neg h4, takeF_eq]
      rw [ht] at e1 e3 e4
      have e4' : tv = m.ver := e4
      refine ⟨m, h1, h2, e4'.symm, e3, ?_, e1, by omega⟩
      by_cases h0 : ver = 0
      · exact .inl h0
      · right
        rw [e4', h3]
        unfold Lay.which
        rw [if_neg fun h => h0 h.1]
theorem told_give (h : ToldR 4 nm ver dat L L' tdat tv tl 0) (g : Good L) : ∃ m ∈ L.ms, m.name = nm ∧ m.ver = ver ∧ L' = L.gave m ∧ 0 < m.used := by
  unfold ToldR at h
  rw [if_neg (by decide), if_neg (by decide), if_neg (by decide), if_pos rfl] at h
  obtain ⟨_, _, _, e1, e2⟩ := h
  cases hf : (L.find nm ver false).1 with
  | none =>
    have ht : L.give nm ver = (L, (L.find nm ver false).2) := by unfold Lay.give; rw [hf]
    rw [ht] at e2
    have e2' : (0 : Int) = (L.find nm ver false).2 := e2
    rcases find_none hf with e | e <;> omega
  | some m =>
    obtain ⟨h1, h2, h3, _⟩ := find_mem hf
    have hu := g.used m h1
    by_cases h4 : m.used = 0
    · have ht : L.give nm ver = (L, 1) := by unfold Lay.give; rw [hf]; simp only; rw [if_pos h4]
      rw [ht] at e2
      exact absurd (show (0 : Int) = 1 from e2) (by decide)
    · have ht : L.give nm ver = (L.gave m, 0) := by
        unfold Lay.give
        rw [hf]
        simp only [Lay.gave]
        rw [if_neg h4]
      rw [ht] at e1
      refine ⟨m, h1, h2, ?_, e1, by omega⟩
      rw [h3]
      unfold Lay.which
      rw [if_neg fun h => by cases h.2]
theorem told_drop (h : ToldR 5 nm ver dat L L' tdat tv tl 0) (g : Good L) : ∃ m ∈ L.ms, m.name = nm ∧ m.ver = ver ∧ L' = L.rem m ∧ m.used = 0 := by
  unfold ToldR at h
  rw [if_neg (by decide), if_neg (by decide), if_neg (by decide), if_neg (by decide), if_pos rfl] at h
  obtain ⟨_, _, _, e1, e2⟩ := h
  cases hf : (L.find nm ver false).1 with
  | none =>
    have ht : L.dropM nm ver = (L, (L.find nm ver false).2) := by unfold Lay.dropM; rw [hf]
    rw [ht] at e2
    have e2' : (0 : Int) = (L.find nm ver false).2 := e2
    rcases find_none hf with e | e <;> omega
  | some m =>
    obtain ⟨h1, h2, h3, _⟩ := find_mem hf
    have hu := g.used m h1
    by_cases h4 : 0 < m.used
    · have ht : L.dropM nm ver = (L, 271) := by unfold Lay.dropM; rw [hf]; simp only; rw [if_pos h4]
      rw [ht] at e2
      exact absurd (show (0 : Int) = 271 from e2) (by decide)
    · have ht : L.dropM nm ver = (L.rem m, 0) := by
        unfold Lay.dropM
        rw [hf]
        simp only
        rw [if_neg h4]
      rw [ht] at e1
      refine ⟨m, h1, h2, ?_, e1, by omega⟩
      rw [h3]
      unfold Lay.which
      rw [if_neg fun h => by cases h.2]
theorem told_else (h : ToldR kind nm ver dat L L' tdat tv tl te) (k1 : kind ≠ 1) (k2 : kind ≠ 2) (k3 : kind ≠ 3) (k4 : kind ≠ 4) (k5 : kind ≠ 5) : L' = L := by
  unfold ToldR at h
  rw [if_neg k1, if_neg k2, if_neg k3, if_neg k4, if_neg k5] at h
  split at h
  · exact h.2.2.2.1
  · exact h.2.2.2.1
theorem told_room (h : ToldR kind nm ver dat L L' tdat tv tl te) (g : Good L) : L'.room = L.room ∧ L'.touch ≤ L.touch + 1 := by
  by_cases hte : te = 0
  · subst hte
    by_cases k1 : kind = 1
    · subst k1
      obtain ⟨i, new, hl⟩ := (told_put h g).1.laid
      exact ⟨hl.room, by rw [hl.touch]; omega⟩
    by_cases k2 : kind = 2
    · subst k2
      obtain ⟨i, new, hl⟩ := (told_lay h).laid
      exact ⟨hl.room, by rw [hl.touch]; omega⟩
    by_cases k3 : kind = 3
    · subst k3
      obtain ⟨m, _, _, _, _, _, e, _⟩ := told_take h g
      subst e
      exact ⟨rfl, by show L.touch + 1 ≤ _; omega⟩
    by_cases k4 : kind = 4
    · subst k4
      obtain ⟨m, _, _, _, e, _⟩ := told_give h g
      subst e
      exact ⟨rfl, by show L.touch ≤ _; omega⟩
    by_cases k5 : kind = 5
    · subst k5
      obtain ⟨m, _, _, _, e, _⟩ := told_drop h g
      subst e
      exact ⟨(rem_same L m).2.1, by rw [(rem_same L m).2.2.1]; omega⟩
    obtain rfl := told_else h k1 k2 k3 k4 k5
    exact ⟨rfl, by omega⟩
  · obtain rfl := told_refused h hte
    exact ⟨rfl, by omega⟩
/-! ### what is known, call by call -/
theorem Kn.vers (h : Kn L known) {v : Int} (hlt : ∀ u, L.lastOf nm = some u → u < v) : ∀ c ∈ known, c.f0 = nm → c.f1 < v := fun c hc e => by
  obtain ⟨u, h1, h2⟩ := h.low c hc
  rw [e] at h1
  have := hlt u h1
  omega
theorem keep_lay {v : Int} (t : Told1 L L' nm v dat) (h : Kn L known) (g : Good L) (hb : (L.ms.map (·.blk)).Nodup) (hf : L.ms.length ≤ 256) (hf' : L'.ms.length ≤ 256) :
    PShelfKeeps.heddlelaw27_there.f ((lst L).length + 1) (lst L) nm v = some (-1) ∧ (∃ a : Nat, PShelfKeeps.heddlelaw27_there.f ((lst L').length + 1) (lst L') nm v = some (a : Int)) ∧ Kn L' (known ++ [⟨nm, v, dat, 0⟩]) := by
  obtain ⟨i, new, hl⟩ := t.laid
  refine ⟨lst_no hf fun m hm => modOf_ne t.no hm, ?_, h.laid g hb hl t.no⟩
  have := lst_yes hf' (m := new) (by rw [hl.ms]; exact List.mem_append_right _ List.mem_cons_self)
  rwa [hl.name, hl.ver_] at this
theorem known_at (h : Kn L known) {m : LM} (hm : m ∈ L.ms) (hk : known.length ≤ 1000000) : ∃ (k : Nat) (c : S55), LastAt known m.name m.ver k ∧ known[k]? = some c ∧ c.f2 = m.dat ∧ c.f3 = m.used ∧ PShelfKeeps.heddlelaw27_at.f (known.length + 1) known m.name m.ver = some (k : Int) := by
  obtain ⟨k, c, h1, h2, h3, h4⟩ := h.all m hm
  exact ⟨k, c, h1, h2, h3, h4, at_yes hk h1⟩
theorem keep_take {m : LM} {k : Nat} {c : S55} (h : Kn L known) (hb : (L.ms.map (·.blk)).Nodup) (hn : (L.ms.map fun m => (m.name, m.ver)).Nodup) (hm : m ∈ L.ms) (hL : LastAt known m.name m.ver k) (hc : known[k]? = some c) (hu : c.f3 = m.used) :
    Kn (L.took m) (known.set k { c with f3 := c.f3 + 1 }) := by
  refine h.use hb hm (takeF m.blk (m.used + 1) (L.touch + 1)) (c.f3 + 1) (fun x => ?_) hn (show (L.took m).ms = _ from rfl) rfl hL hc
  obtain ⟨e1, e2, e3, _⟩ := takeF_key m.blk (m.used + 1) (L.touch + 1) x
  refine ⟨e1, e2, e3, ?_⟩
  unfold takeF
  rw [hu]
  split <;> rfl
theorem keep_give {m : LM} {k : Nat} {c : S55} (h : Kn L known) (hb : (L.ms.map (·.blk)).Nodup) (hn : (L.ms.map fun m => (m.name, m.ver)).Nodup) (hm : m ∈ L.ms) (hL : LastAt known m.name m.ver k) (hc : known[k]? = some c) (hu : c.f3 = m.used) :
    Kn (L.gave m) (known.set k { c with f3 := c.f3 - 1 }) := by
  refine h.use hb hm (setUsed m.blk (m.used - 1)) (c.f3 - 1) (fun x => ?_) hn (show (L.gave m).ms = _ from rfl) rfl hL hc
  obtain ⟨e1, e2, e3, _⟩ := setUsed_key m.blk (m.used - 1) x
  refine ⟨e1, e2, e3, ?_⟩
  unfold setUsed
  rw [hu]
  split <;> rfl
theorem keep_drop {m : LM} (h : Kn L known) (hb : (L.ms.map (·.blk)).Nodup) (hn : (L.ms.map fun m => (m.name, m.ver)).Nodup) (hf : L.ms.length ≤ 256) (hm : m ∈ L.ms) (hu : m.used = 0) :
    PShelfKeeps.heddlelaw27_there.f ((lst (L.rem m)).length + 1) (lst (L.rem m)) m.name m.ver = some (-1) ∧ (lst (L.rem m)).length + 1 = (lst L).length ∧ Kn (L.rem m) known := by
  obtain ⟨e1, _, _, e4, _⟩ := rem_same L m
  have e1' : (L.rem m).ms = L.ms.filter fun x => decide (x.blk ≠ m.blk) := e1
  have hl := (sizes_drop hb hm).2
  refine ⟨lst_no (by rw [e1']; omega) fun x hx e => ?_, by rw [lst_len, lst_len, e1']; exact hl, h.gone hb hm hu e1' e4⟩
  rw [e1'] at hx
  obtain ⟨hx1, hx2⟩ := List.mem_filter.1 hx
  have := map_inj hn hx1 hm (by rw [e.1, e.2])
  subst this
  simp at hx2
end
end Go.Proofs.Ytancenklmfamnaa.Sh
namespace Go.Proofs.Ytancenklmfamnaa.Sh
open Go.RowKit Go.Maps Go.Sort Go.Shelf
open Go.Proofs Go.MuLone
open Go.Proofs.YtancenklmfamnaaW.PrintWords (Reps OwnRow Kd)
open PShelfKeeps (S39 S55 k39 k55)

section
variable {B p h n0 : Nat} {A : Option Addr} {L L' : Lay} {w w' : World}
theorem HandIs.far {S : Nat → Prop} (hh : HandIs B w h A n0) (hs : Same S w w') (h1 : ¬ S h) (h2 : ∀ k, A.map (·.block) = some k → ¬ S k) : HandIs B w' h A n0 := by
  refine ⟨hs.at hh.blk h1, ?_, hh.low⟩
  rcases hh.row with e | ⟨g, cur, e1, e2, e3, e4⟩
  · exact .inl e
  · exact .inr ⟨g, cur, e1, e2, hs.at e3 (h2 g (by rw [e1]; rfl)), e4⟩
theorem At.off_ {S : Nat → Prop} (t : At B w p L h A n0) (hs : Same S w w') (hf : ∀ k, Foot2 p L h A k → ¬ S k) : At B w' p L h A n0 :=
  ⟨t.rest.off hs fun k hk => hf k (.inl hk), t.hand.far hs (hf h (.inr (.inl rfl))) fun k hk => hf k (.inr (.inr hk)), t.off⟩
theorem At.below (t : At B w p L h A n0) (hb : Below w.heap.size w w') : At B w' p L h A n0 := t.off_ (S := fun _ => False) (Same.below hb) fun _ _ h => h
theorem At.hand_lt (t : At B w p L h A n0) {k : Nat} (hk : A.map (·.block) = some k) : k < w.heap.size := by
  rcases t.hand.row with ⟨e, _⟩ | ⟨g, cur, e1, _, e3, _⟩
  · rw [e] at hk; cases hk
  · rw [e1] at hk
    cases hk
    exact at_lt e3
theorem At.lt (t : At B w p L h A n0) {k : Nat} (hk : Foot2 p L h A k) : k < w.heap.size := by
  rcases hk with hk | rfl | hk
  · exact t.rest.is.foot_lt hk
  · exact at_lt t.hand.blk
  · exact t.hand_lt hk
theorem At.low (t : At B w p L h A n0) {k : Nat} (hk : Foot2 p L h A k) : B ≤ k := by
  rcases hk with hk | rfl | hk
  · rcases hk with hk | ⟨m, hm, hk⟩
    · exact t.rest.low hk
    · exact (row_ty (t.rest.is.mods m hm).2 hk).1
  · exact t.hand.low
  · rcases t.hand.row with ⟨e, _⟩ | ⟨g, cur, e1, e2, e3, _⟩
    · rw [e] at hk; cases hk
    · rw [e1] at hk
      cases hk
      exact e2
theorem At.step (t : At B w p L h A n0) (st : Step B w w' p L L') (hr : Rest B w' p L') : At B w' p L' h A n0 := by
  refine ⟨hr, t.hand.far st.1 (fun e => t.off.1 (.inl e)) (fun k hk e => t.off.2 k hk (.inl e)), fun e => ?_, fun k hk e => ?_⟩
  · rcases st.2.2.2 h e with h1 | h1
    · exact t.off.1 h1
    · have := at_lt t.hand.blk
      omega
  · rcases st.2.2.2 k e with h1 | h1
    · exact t.off.2 k hk h1
    · have := t.hand_lt hk
      omega
theorem At.start (hr : Rest B w p L) (hB : B ≤ w.heap.size) : At B (w.alloc (.cells #[.slice none 0 0] 46)) p L w.heap.size none 0 :=
  ⟨hr.below (below_alloc w _), ⟨alloc_is w _, .inl ⟨rfl, rfl⟩, hB⟩, fun e => by have := hr.is.foot_lt e; omega, fun k hk => by cases hk⟩
/-- what a move writes lies in the foot -/
theorem Owned.foot2 {k : Nat} (hk : Owned p L k ∨ k = h ∨ A.map (·.block) = some k) : Foot2 p L h A k := hk.elim (fun h => .inl (.inl h)) .inr

/-- the copies, beside all that -/
def Krow (B p h : Nat) (L : Lay) (A : Option Addr) (w : World) (v : Value) (l : List S55) : Prop := k55.R 55 w B (fun k => ¬ Foot2 p L h A k) v l
variable {v : Value} {l : List S55} {A' : Option Addr}
theorem Krow.move {S : Nat → Prop} (r : Krow B p h L A w v l) (hs : Same S w w') (hS : ∀ k, S k → Foot2 p L h A k) (hf : ∀ k, Foot2 p L' h A' k → Foot2 p L h A k ∨ w.heap.size ≤ k) : Krow B p h L' A' w' v l := by
  have h1 := Kd.R_bound r
  have h2 := Kd.R_move (w1 := w') h1 fun k hk => hs.2.2.2.2 k hk.2.2.1 fun e => hk.1 (hS k e)
  exact Kd.R_mono h2 fun k hk e => by
    rcases hf k e with h3 | h3
    · exact hk.1 h3
    · have := hk.2.2.1
      omega
theorem Krow.below (r : Krow B p h L A w v l) (hb : Below w.heap.size w w') : Krow B p h L A w' v l := Kd.R_below r hb
theorem Krow.step (r : Krow B p h L A w v l) (st : Step B w w' p L L') : Krow B p h L' A w' v l :=
  r.move st.1 (fun k hk => .inl (.inl hk)) fun k hk => by
    rcases hk with hk | hk
    · rcases st.2.2.2 k hk with h1 | h1
      · exact .inl (.inl h1)
      · exact .inr h1
    · exact .inl (.inr hk)
theorem Krow.moved (r : Krow B p h L A w v l) (mv : Move w w' p L L' h A A') : Krow B p h L' A' w' v l :=
  r.move mv.1 (fun k hk => Owned.foot2 hk) mv.2
theorem Krow.slice (r : Krow B p h L A w v l) : ∃ Ak c, v = .slice Ak l.length c ∧ l.length ≤ c ∧ Kd.C k55 w Ak l.length l := Kd.R_reads r
theorem Krow.at (r : Krow B p h L A w v l) {k : Nat} {c : S55} (hc : l[k]? = some c) : ∃ g cap, v = .slice (some ⟨g, 0, none⟩) l.length cap ∧ B ≤ g ∧ ¬ Foot2 p L h A g ∧ (∃ cells, w.heap[g]? = some (.cells cells 55 (0, 0))) ∧ w.cell? ⟨g, k * 4 + 3, none⟩ = some (.int .i64 c.f3) ∧ w.frozen? ⟨g, k * 4 + 3, none⟩ = false ∧ w.cell? ⟨g, k * 4, none⟩ = some (.string c.f0) ∧ w.cell? ⟨g, k * 4 + 1, none⟩ = some (.int .i64 c.f1) ∧
    (∃ A2 n2 c2, w.cell? ⟨g, k * 4 + 2, none⟩ = some (.slice A2 n2 c2) ∧ n2 = c.f2.length ∧ n2 ≤ c2 ∧ (Kd.int .u8).C w A2 c.f2.length c.f2) ∧
    ∀ u : Int, Krow B p h L A (w.setCell ⟨g, k * 4 + 3, none⟩ (.int .i64 u)) v (l.set k { c with f3 := u }) := by
  have hk := (List.getElem?_eq_some_iff.1 hc).1
  obtain ⟨g, cap, rfl, hg, hlt, hty⟩ := Kd.R_form r (by omega)
  obtain ⟨cs, h1, h2, h3, h4⟩ := Kd.R_elem (d := k55) r PShelfKeeps.z55 (k : Int) (by omega) (by omega)
  have hgd : l.getD k PShelfKeeps.z55 = c := by rw [List.getD_eq_getElem?_getD, hc]; rfl
  rw [Int.toNat_natCast, hgd] at h2
  rw [Int.toNat_natCast] at h3 h4
  have h5 := k55.K_of_M h2
  obtain ⟨A2, c2, e1, e2, e3⟩ := PShelfKeeps.k55_open h5
  have sz : k55.sz = 4 := rfl
  rw [sz] at h3 h4
  refine ⟨g, cap, rfl, hg, r.1 g rfl, hty, h3 3 _ (by rw [e1]; rfl), h4 3, h3 0 _ (by rw [e1]; rfl), h3 1 _ (by rw [e1]; rfl), ⟨A2, _, c2, h3 2 _ (by rw [e1]; rfl), rfl, e2, e3⟩, fun u => ?_⟩
  obtain ⟨v2, q1, q2⟩ := PShelfKeeps.k55_openM h2
  have := (Kd.R_seg (d := k55) r (k : Int) (by omega) (by omega) (c := cs) (seg := [.int .i64 u]) (j := 3) h1 (by rw [Int.toNat_natCast, sz]; exact h3) (by rw [sz]; exact Nat.le_refl _) (x' := { c with f3 := u }) (okp := fun k => ¬ Foot2 p L h A k ∧ k ≠ g) (by rw [q1]; exact PShelfKeeps.k55_mkM w B _ { c with f3 := u } q2) (fun k hk => hk)).1
  rw [Int.toNat_natCast] at this
  exact this
end
theorem info55 : (Try.prog.info? 55).map (fun i => (i.zero, i.size, i.bytes)) = some (some (.agg #[.string ByteArray.empty, .int .i64 0, .slice none 0 0, .int .i64 0]), 4, 56) := by kernel_rfl
theorem bytes_R {W : World} {B : Nat} {v1 : Value} {dat : List Int} {ok : Nat → Prop} (ho : W.ownsRow B 5 1 v1 dat.length (dat.map encB)) (hok : ∀ k, v1.ownBlock = some k → ok k) : (Kd.int .u8).R 5 W B ok v1 dat := by
  refine ⟨hok, dat.map encB, ho, ?_, fun j x hj => ?_⟩
  · rw [List.length_map]
    exact (Nat.mul_one _).symm
  · show ((dat.map encB).drop (j * 1)).take 1 = [encB x]
    have h1 : (dat.map encB)[j]? = some (encB x) := by rw [List.getElem?_map, hj]; rfl
    obtain ⟨h2, h3⟩ := List.getElem?_eq_some_iff.1 h1
    rw [Nat.mul_one, List.drop_eq_getElem_cons h2, h3]
    rfl
theorem bytes_C {w : World} {A : Option Addr} {n c : Nat} {dat : List Int} (h : RdA w (.slice A n c) dat) (hl : dat.length ≤ 9223372036854775807) : n = dat.length ∧ n ≤ c ∧ (Kd.int .u8).C w A dat.length dat := by
  rcases h with ⟨e, rfl⟩ | ⟨ad, cap, e, hc, hcell⟩
  · injection e with e1 e2 e3
    subst e1; subst e2; subst e3
    exact ⟨rfl, Nat.le_refl _, Kd.C_nil _ _⟩
  · injection e with e1 e2 e3
    subst e1; subst e2; subst e3
    refine ⟨rfl, hc, rfl, hl, fun _ => ⟨ad, rfl, fun j x hj => ⟨[encB x], rfl, rfl, fun i u hu => ?_⟩⟩⟩
    have hi0 : i = 0 := by
      have := (List.getElem?_eq_some_iff.1 hu).1
      simpa using this
    subst hi0
    simp at hu
    subst hu
    have := hcell j x hj
    show w.cell? (ad.add (j * 1 + 0)) = some (encB x)
    simpa using this
section
variable {B p h n0 : Nat} {A : Option Addr} {L L' : Lay} {W : World} {v : Value} {l : List S55}
theorem Krow.push (r : Krow B p h L A W v l) {v1 : Value} {dat : List Int} (nm : ByteArray) (ver : Int) (hv1 : W.ownsRow B 5 1 v1 dat.length (dat.map encB)) (hoff : ∀ k, v1.ownBlock = some k → ¬ Foot2 p L h A k) (hlt : ∀ k, Foot2 p L h A k → k < W.heap.size) (hl : l.length ≤ 1000) (hB : B ≤ W.heap.size) (ty : TypeId) :
    ∃ A' n' c' w', (Builtin.append_ #[43, 43] ty #[v, .slice (some ⟨W.heap.size, 0, none⟩) 1 1]).run Try.prog (W.alloc (.cells #[.string nm, .int .i64 ver, v1, .int .i64 0] 55)) = .ok (.slice A' n' c') w' ∧ Krow B p h L A w' (.slice A' n' c') (l ++ [⟨nm, ver, dat, 0⟩]) ∧ n' = l.length + 1 ∧ (W.alloc (.cells #[.string nm, .int .i64 ver, v1, .int .i64 0] 55)).grownBy w' v.ownBlock := by
  obtain ⟨i0, hi, hz0, hz1, hz2⟩ := info_parts info55
  have r1 : Krow B p h L A (W.alloc (.cells #[.string nm, .int .i64 ver, v1, .int .i64 0] 55)) v l := r.below (below_alloc W _)
  have hne : ∀ k, v1.ownBlock = some k → some k ≠ v.ownBlock := fun k hk e => by
    obtain ⟨cells, hc⟩ := Kd.R_typed r k e.symm
    obtain ⟨cur, hcur⟩ := (row_tyN hv1 hk).2
    rw [hc] at hcur
    injection hcur with hcur
    injection hcur with _ hcur
    exact absurd hcur (by decide)
  have hv1' := hv1.alloc (.cells #[.string nm, .int .i64 ver, v1, .int .i64 0] 55)
  have hM := PShelfKeeps.k55_mkM (W.alloc (.cells #[.string nm, .int .i64 ver, v1, .int .i64 0] 55)) B (fun k => ¬ Foot2 p L h A k ∧ some k ≠ v.ownBlock) ⟨nm, ver, dat, 0⟩ (v2 := v1) (bytes_R hv1' fun k hk => ⟨hoff k hk, hne k hk⟩)
  obtain ⟨h0, inner, hown, hr⟩ := r1
  obtain ⟨v', w', h1, h2, h3, _, h5⟩ := run_append_own_at (P := Try.prog) (W.alloc (.cells #[.string nm, .int .i64 ver, v1, .int .i64 0] 55)) B 43 ty 55 i0 _ 4 56 Try.underlying43 hi hz0 hz1 hz2 rfl (by decide) v l.length inner hown ⟨W.heap.size, 0, none⟩ 1 1 [.string nm, .int .i64 ver, v1, .int .i64 0] rfl (fun j u hj => by
      rw [Addr.add_lit, Nat.zero_add, Lib.cell_of_heap (alloc_is W _)]
      simpa using hj) (k55.K_one (k55.K_of_M hM)) (by unfold maxLen; omega) (by omega) (by simp; omega)
  have h6 := Kd.R_appended (ok := fun k => ¬ Foot2 p L h A k) h0 hr hM (fun k hk => hk) (fun k hk e => by have := hlt k e; simp at hk; omega) h2 h3 (h5.imp id fun e => ⟨_, e, Nat.le_refl _⟩)
  obtain ⟨A', c', rfl⟩ := Kd.R_slice h6
  refine ⟨A', _, c', w', h1, h6, by simp, h3⟩
theorem app_new {Ab : Option Addr} {nb cb : Nat} {dat : List Int} (hr : RdA W (.slice Ab nb cb) dat) (hn : dat.length ≤ 140737488351232) (hlt : ∀ k, Foot2 p L h A k → k < W.heap.size) (hB : B ≤ W.heap.size) (ty : TypeId) :
    ∃ A1 n1 c1 W1, (Builtin.append_ #[22, 22] ty #[.slice none 0 0, .slice Ab nb cb]).run Try.prog W = .ok (.slice A1 n1 c1) W1 ∧ W1.ownsRow B 5 1 (.slice A1 n1 c1) dat.length (dat.map encB) ∧ Below W.heap.size W W1 ∧ ∀ k, (Value.slice A1 n1 c1).ownBlock = some k → ¬ Foot2 p L h A k := by
  obtain ⟨v1, W1, h1, h2, h3, h4⟩ := app_bytes (B := B) (xs := []) (World.ownsRow_nil _ _ _ _) hr (by omega) hB ty
  rw [Nat.zero_add, List.nil_append] at h2
  have h5 : Below W.heap.size W W1 := (Below.refl _ W).grown h3 (Nat.le_refl _) fun k hk => by cases hk
  have h6 : ∀ k, v1.ownBlock = some k → ¬ Foot2 p L h A k := fun k hk e => by
    rcases h4 with h4 | h4
    · rw [h4] at hk; cases hk
    · rw [h4] at hk
      cases hk
      have := hlt _ e
      omega
  obtain ⟨A1, c1, rfl⟩ := YtancenklmfamnaaW.PrintWords.own_slice h2
  exact ⟨A1, _, c1, W1, h1, h2, h5, h6⟩
/-- List, and what it tells -/
structure ListIs (B : Nat) (w : World) (b : Nat) (L : Lay) (Al : Option Addr) (nl cl : Nat) : Prop where
  row : OwnRow RL 39 4 w b (.slice Al nl cl) (sortedN L)
  len : (lst L).length = nl
  cap : nl ≤ cl
theorem ListIs.C {w : World} {b nl cl : Nat} {Al : Option Addr} (t : ListIs B w b L Al nl cl) : Kd.C k39 w Al (lst L).length (lst L) := by
  obtain ⟨A8, c8, hv8, hc8, hC8⟩ := held_C t.row
  injection hv8 with e1 _ _
  subst e1
  exact hC8
theorem ListIs.far {S : Nat → Prop} {w w' : World} {b nl cl : Nat} {Al : Option Addr} (t : ListIs B w b L Al nl cl) (hs : Same S w w') (hS : ∀ k, b ≤ k → k < w.heap.size → (∃ cells, w.heap[k]? = some (.cells cells 39 (0, 0))) → ¬ S k) : ListIs B w' b L Al nl cl := by
  obtain ⟨inner, h1, h2⟩ := t.row
  exact ⟨⟨inner, row_farN h1 hs fun k hk => by
    obtain ⟨e1, e2⟩ := row_tyN h1 hk
    exact hS k e1 (by obtain ⟨_, e⟩ := e2; exact at_lt e) e2, h2⟩, t.len, t.cap⟩
theorem ListIs.below {w w' : World} {b nl cl : Nat} {Al : Option Addr} (t : ListIs B w b L Al nl cl) (hb : Below w.heap.size w w') : ListIs B w' b L Al nl cl := t.far (S := fun _ => False) (Same.below hb) fun _ _ _ _ h => h
theorem list_c {w : World} (hr : Rest B w p L) : Calls Try.prog 11 #[.pointer (some ⟨p, 0, none⟩)] w fun e w' => ∃ Al nl cl, e = .returned (.slice Al nl cl) ∧ ListIs B w' w.heap.size L Al nl cl ∧ Step B w w' p L L ∧ Rest B w' p L :=
  (list_yes hr).mono fun e w' ⟨v, he, h1, h2, h3⟩ => by
    obtain ⟨A8, c8, hv8, hc8, hC8⟩ := held_C h1
    subst hv8
    exact ⟨A8, _, c8, he, ⟨h1, by rw [lst_len]; simp [sortedN], hc8⟩, h2, h3⟩
variable {w : World} {Al Ak : Option Addr} {b nl cl nk ck : Nat}
theorem there_c (t : ListIs B w b L Al nl cl) {nm : ByteArray} {u r : Int} (hf : PShelfKeeps.heddlelaw27_there.f ((lst L).length + 1) (lst L) nm u = some r) : Calls Try.prog 12 #[.slice Al nl cl, .string nm, .int .i64 u] w fun e w' => e = .returned (.int .i64 r) ∧ ∃ a, w' = w.drewN a :=
  there_call t.len t.C t.cap hf
theorem Eq_c {b2 nl2 cl2 : Nat} {Al2 : Option Addr} (t : ListIs B w b L Al nl cl) (t2 : ListIs B w b2 L Al2 nl2 cl2) (hf : L.ms.length ≤ 256) : Calls Try.prog 15 #[.slice Al nl cl, .slice Al2 nl2 cl2] w fun e w' => e = .returned (.bool true) ∧ ∃ a, w' = w.drewN a := by
  have h1 := t.len
  have h2 := t2.len
  have h3 := t.cap
  have h4 := t2.cap
  have h5 := t.C
  have h6 := t2.C
  subst h1; subst h2
  refine (PShelfKeeps.heddlelaw27_Eq.calls _ Al cl (lst L) Al2 cl2 (lst L) true w h5 h3 h6 h4 (Eq_self (lst L) (by rw [lst_len]; omega))).mono ?_
  rintro e w8 ⟨rfl, ⟨⟨a, rfl⟩⟩⟩
  exact ⟨rfl, a, rfl⟩
theorem at_c (r : Krow B p h L A w (.slice Ak nk ck) l) {nm : ByteArray} {u q : Int} (hf : PShelfKeeps.heddlelaw27_at.f (l.length + 1) l nm u = some q) : Calls Try.prog 16 #[.slice Ak nk ck, .string nm, .int .i64 u] w fun e w' => e = .returned (.int .i64 q) ∧ ∃ a, w' = w.drewN a := by
  obtain ⟨A1, c1, e1, h1, h2⟩ := r.slice
  injection e1 with e1 e2 e3
  subst e1; subst e2; subst e3
  refine (PShelfKeeps.heddlelaw27_at.calls _ Ak ck l nm u q w h2 h1 hf).mono ?_
  rintro e w8 ⟨rfl, ⟨⟨a, rfl⟩⟩⟩
  exact ⟨rfl, a, rfl⟩
theorem fits_c (t : ListIs B w b L Al nl cl) (r : Krow B p h L A w (.slice Ak nk ck) l) {k : Nat} {room : Int} {q : Bool} (hf : PShelfKeeps.heddlelaw27_fits.f k (lst L) room l = some q) : Calls Try.prog 18 #[.slice Al nl cl, .int .i64 room, .slice Ak nk ck] w fun e w' => e = .returned (.bool q) ∧ ∃ a, w' = w.drewN a := by
  obtain ⟨A1, c1, e1, h1, h2⟩ := r.slice
  injection e1 with e1 e2 e3
  subst e1; subst e2; subst e3
  have h3 := t.len
  have h4 := t.cap
  have h5 := t.C
  subst h3
  refine (PShelfKeeps.heddlelaw27_fits.calls k Al cl (lst L) room Ak ck l q w h5 h4 h2 h1 hf).mono ?_
  rintro e w8 ⟨rfl, ⟨⟨a, rfl⟩⟩⟩
  exact ⟨rfl, a, rfl⟩
theorem Same_loop (l : List Int) (hl : l.length ≤ 2000000000000) : ∀ (d k i : Nat), l.length - i = d → i ≤ l.length → d < k → PShelfKeeps.heddlelaw27_Same.l0 k l l i = some true
  | 0, k, i, hd, hi, hk => by
    obtain ⟨k, rfl⟩ : ∃ m, k = m + 1 := ⟨k - 1, by omega⟩
    simp only [PShelfKeeps.heddlelaw27_Same.l0]
    rw [if_neg (by omega)]
  | d + 1, k, i, hd, hi, hk => by
    obtain ⟨k, rfl⟩ : ∃ m, k = m + 1 := ⟨k - 1, by omega⟩
    simp only [PShelfKeeps.heddlelaw27_Same.l0]
    rw [if_pos (by omega), if_pos (by omega), if_pos (by omega), if_pos trivial]
    have e : wrap64 ((i : Int) + 1) = ((i + 1 : Nat) : Int) := by unfold wrap64; omega
    rw [e]
    exact Same_loop l hl d k (i + 1) (by omega) (by omega) (by omega)
theorem Same_c {A1 A2 : Option Addr} {n1 c1 n2 c2 : Nat} {dat : List Int} (hl : dat.length ≤ 2000000000000) (h1 : n1 = dat.length ∧ n1 ≤ c1 ∧ (Kd.int .u8).C w A1 dat.length dat) (h2 : n2 = dat.length ∧ n2 ≤ c2 ∧ (Kd.int .u8).C w A2 dat.length dat) :
    Calls Try.prog 17 #[.slice A1 n1 c1, .slice A2 n2 c2] w fun e w' => e = .returned (.bool true) ∧ ∃ a, w' = w.drewN a := by
  obtain ⟨rfl, a2, a3⟩ := h1
  obtain ⟨rfl, b2, b3⟩ := h2
  refine (PShelfKeeps.heddlelaw27_Same.calls (dat.length + 1) A1 c1 dat A2 c2 dat true w a3 a2 b3 b2 (by
    unfold PShelfKeeps.heddlelaw27_Same.f
    rw [if_pos rfl]
    exact Same_loop dat hl dat.length (dat.length + 1) 0 (by omega) (by omega) (by omega))).mono ?_
  rintro e w8 ⟨rfl, ⟨⟨a, rfl⟩⟩⟩
  exact ⟨rfl, a, rfl⟩
end
end Go.Proofs.Ytancenklmfamnaa.Sh
