/- ShelfOldest: the plain law. -/
import Derived.Test.YtancenklmfamnaaShManyP
set_option linter.unusedVariables false
set_option linter.unusedSimpArgs false
namespace Go.Proofs.Ytancenklmfamnaa.Sh
open Go.RowKit Go.Maps Go.Sort Go.Shelf
open Go.Proofs

def bM : ByteArray := ⟨#[109]⟩
theorem okM : Nm.nameOk bM = true := by decide +kernel
theorem sizes_all {l : List LM} {s : Nat} (h : ∀ m ∈ l, m.dat.length = s) : sizes l = s * l.length := by
  induction l with
  | nil => simp [sizes]
  | cons x l ih =>
    simp only [sizes, sz, h x List.mem_cons_self, ih fun m hm => h m (List.mem_cons_of_mem _ hm), List.length_cons, Int.natCast_add, Int.mul_add]
    omega
/-- the models of ShelfOldest; q: those in no use, oldest first; k were put -/
structure Od (L : Lay) (s n k t : Nat) (q : List LM) : Prop where
  room : L.room = ((s * n + s - 1 : Nat) : Int)
  all : ∀ m ∈ L.ms, m.name = bM ∧ m.dat.length = s
  perm : q.Perm (L.ms.filter isUnused)
  sorted : q.Pairwise fun a b => a.touched < b.touched
  last : L.last = if k = 0 then [] else [(bM, (k : Int))]
  touch : L.touch ≤ t
section
variable {L L' : Lay} {s n k t : Nat} {q : List LM} {m : LM}
theorem Od.start (s n a b : Nat) : Od (Lay.start ((s * n + s - 1 : Nat) : Int) a b) s n 0 0 [] := ⟨rfl, fun m hm => (by cases hm), List.Perm.refl _, List.Pairwise.nil, rfl, Int.le_refl _⟩
theorem Od.unused (h : Od L s n k t q) : unusedL L = q := by
  unfold unusedL
  have hs : ((L.ms.filter isUnused).mergeSort fun a b => !decide (b.touched < a.touched)).Pairwise fun a b => (!decide (b.touched < a.touched)) = true := List.pairwise_mergeSort (fun a b c h1 h2 => by simp at *; omega) (fun a b => by simp; omega) _
  refine List.Perm.eq_of_pairwise (le := fun a b => (!decide (b.touched < a.touched)) = true) (fun a b ha hb h1 h2 => ?_) hs (h.sorted.imp fun hlt => by simp; omega) ((List.mergeSort_perm _ _).trans h.perm.symm)
  have ha' : a ∈ q := h.perm.mem_iff.2 ((List.mergeSort_perm _ _).mem_iff.1 ha)
  simp at h1 h2
  have he : a.touched = b.touched := by omega
  have hnd : (q.map (·.touched)).Nodup := List.pairwise_map.2 (h.sorted.imp fun hlt => by omega)
  exact map_inj hnd ha' hb he
theorem Od.mem (h : Od L s n k t q) (hm : m ∈ q) : m ∈ L.ms ∧ ¬ 0 < m.used := by
  have h1 := List.mem_filter.1 (h.perm.mem_iff.1 hm)
  refine ⟨h1.1, ?_⟩
  have := h1.2
  simpa [isUnused] using this
theorem Od.bytes (h : Od L s n k t q) (g : Good L) : L.bytes = s * L.ms.length := by rw [g.bytes]; exact sizes_all fun m hm => (h.all m hm).2
theorem Od.lastOf (h : Od L s n k t q) : L.lastOf bM = (if k = 0 then none else some (k : Int)) ∧ L.last.length ≤ 1 := by
  simp only [Lay.lastOf]
  rw [h.last]
  split <;> simp
theorem Od.ver (h : Od L s n k t q) : (L.lastOf bM).getD 0 + 1 = ((k + 1 : Nat) : Int) := by
  rw [h.lastOf.1]
  split <;> simp
  omega
theorem Od.ver_le (h : Od L s n k t q) (g : Good L) (hm : m ∈ L.ms) : 1 ≤ m.ver ∧ m.ver ≤ k := by
  refine ⟨(g.vers m hm).1, ?_⟩
  obtain ⟨v, h1, h2⟩ := g.known m hm
  rw [(h.all m hm).1, h.lastOf.1] at h1
  split at h1
  · cases h1
  · obtain rfl := Option.some.inj h1
    exact h2
theorem Od.last_next {i : Nat} {new : LM} {dat : List Int} (h : Od L s n k t q) (hl : Laid L L' bM ((k + 1 : Nat) : Int) dat i new) : L'.last = if k + 1 = 0 then [] else [(bM, ((k + 1 : Nat) : Int))] := by
  rw [if_neg (by omega), hl.last, h.last, h.lastOf.1]
  by_cases hi : k = 0
  · subst hi
    decide +kernel
  · rw [if_neg hi, if_neg hi]
    have e : max ((some (k : Int)).getD 0) ((k + 1 : Nat) : Int) = ((k + 1 : Nat) : Int) := by
      simp only [Option.getD_some]
      omega
    rw [e]
    simp [setLast, knownIn, putAt]
theorem Od.blks (h : Od L s n k t q) (hb : (L.ms.map (·.blk)).Nodup) : (q.map (·.blk)).Nodup := ((h.perm.map (·.blk)).nodup_iff).2 (hb.sublist ((List.filter_sublist).map _))
theorem Od.new_q {i : Nat} {new : LM} {dat : List Int} {v : Int} (h : Od L s n k t q) (g : Good L) (hl : Laid L L' bM v dat i new) {q' : List LM} (hq : ∀ x ∈ q', x ∈ q) (hs : q'.Pairwise fun a b => a.touched < b.touched) : (q' ++ [new]).Pairwise fun a b => a.touched < b.touched := by
  refine List.pairwise_append.2 ⟨hs, List.pairwise_singleton _ _, fun a ha b hb => ?_⟩
  simp at hb
  subst hb
  have := g.touched a (h.mem (hq a ha)).1
  rw [hl.touched]
  omega
theorem new_unused {i : Nat} {new : LM} {dat : List Int} {v : Int} (hl : Laid L L' bM v dat i new) : isUnused new = true := by simp [isUnused, hl.used]
/-- room for one more -/
theorem Od.free (h : Od L s n k t q) (g : Good L) (hs : 1 ≤ s ∧ s ≤ 50) (hn : n ≤ 20) (hlt : L.ms.length < n) : L.bytes + ((s : Nat) : Int) ≤ L.room ∧ L.count < 256 := by
  have hb := h.bytes g
  have hc := g.count
  have h1 : s * (L.ms.length + 1) ≤ s * n := Nat.mul_le_mul_left _ hlt
  rw [Nat.mul_add] at h1
  refine ⟨?_, by omega⟩
  rw [hb, h.room, ← Int.natCast_mul]
  omega
theorem Od.noroom (h : Od L s n k t q) (g : Good L) (hs : 1 ≤ s ∧ s ≤ 50) (hn : n ≤ 20) (hlt : L.ms.length < n) : ¬ NoRoom L bM (List.replicate s (0 : Int)).length := by
  have hl := h.lastOf.2
  rw [List.length_replicate]
  refine noRoom_not (by omega) ?_ (h.free g hs hn hlt)
  have := h.free g hs hn hlt
  have hb := h.bytes g
  have : (0 : Int) ≤ ((s * L.ms.length : Nat) : Int) := Int.natCast_nonneg _
  rw [Int.natCast_mul] at this
  omega
theorem Od.next {i : Nat} {new : LM} (h : Od L s n k t q) (g : Good L) (hs : 1 ≤ s ∧ s ≤ 50) (hn : n ≤ 20) (hlt : L.ms.length < n) (hl : Laid L L' bM ((k + 1 : Nat) : Int) (List.replicate s 0) i new) :
    Od L' s n (k + 1) (t + 1) (q ++ [new]) ∧ L'.ms = L.ms ++ [new] := by
  have hms := hl.plain (by rw [List.length_replicate]; exact h.free g hs hn hlt)
  refine ⟨⟨by rw [hl.room]; exact h.room, fun m hm => ?_, ?_, h.new_q g hl (fun x hx => hx) h.sorted, h.last_next hl, by rw [hl.touch]; have := h.touch; omega⟩, hms⟩
  · rw [hms] at hm
    rcases List.mem_append.1 hm with hm | hm
    · exact h.all m hm
    · simp at hm
      subst hm
      exact ⟨hl.name, by rw [hl.dat_, List.length_replicate]⟩
  · rw [hms, List.filter_append]
    have : [new].filter isUnused = [new] := by simp [new_unused hl]
    rw [this]
    exact h.perm.append_right _
/-- full: the oldest goes -/
theorem Od.pick (h : Od L s n k t (m :: q)) (g : Good L) (hs : 1 ≤ s ∧ s ≤ 50) (hn : 1 ≤ n ∧ n ≤ 20) (hlen : L.ms.length = n) : pickL L ((s : Nat) : Int) = some 1 := by
  have hb := h.bytes g
  have hc := g.count
  have hr := h.room
  have hm := h.all m (h.mem List.mem_cons_self).1
  rw [hlen, ← Int.natCast_mul] at hb
  unfold pickL
  rw [h.unused, List.map_cons, vcount_on (by omega), vcount_yes (by simp [sz, hm.2]; omega)]
  rfl
theorem Od.noroom_full (h : Od L s n k t (m :: q)) (g : Good L) (hs : 1 ≤ s ∧ s ≤ 50) (hn : 1 ≤ n ∧ n ≤ 20) (hlen : L.ms.length = n) : ¬ NoRoom L bM (List.replicate s (0 : Int)).length := by
  have hl := h.lastOf.2
  have hp := h.pick g hs hn hlen
  have hr := h.room
  rw [List.length_replicate]
  have h1 : s * 1 ≤ s * n := Nat.mul_le_mul_left _ hn.1
  rintro (⟨_, h2⟩ | h2 | h2)
  · omega
  · omega
  · rw [hp] at h2; cases h2
theorem Od.turn {i : Nat} {new : LM} (h : Od L s n k t (m :: q)) (g : Good L) (hb : (L.ms.map (·.blk)).Nodup) (hs : 1 ≤ s ∧ s ≤ 50) (hn : 1 ≤ n ∧ n ≤ 20) (hlen : L.ms.length = n) (hl : Laid L L' bM ((k + 1 : Nat) : Int) (List.replicate s 0) i new) :
    Od L' s n (k + 1) (t + 1) (q ++ [new]) ∧ L'.ms.length = n ∧ (∀ x ∈ L'.ms, x = new ∨ x ∈ L.ms ∧ x.blk ≠ m.blk) ∧ (∀ x ∈ L.ms, x.blk ≠ m.blk → x ∈ L'.ms) ∧ new ∈ L'.ms := by
  have hi : i = 1 := by
    have h1 := hl.pick
    rw [List.length_replicate, h.pick g hs hn hlen] at h1
    exact (Option.some.inj h1).symm
  have hmm := (h.mem List.mem_cons_self).1
  have hms : L'.ms = (L.ms.filter fun x => decide (x.blk ≠ m.blk)) ++ [new] := by
    rw [hl.ms, hi, h.unused]
    show keepL L [m] ++ [new] = _
    have := keep_snoc L [] m
    rw [keepL_nil, List.nil_append] at this
    rw [← this]
  obtain ⟨_, hd2⟩ := sizes_drop hb hmm
  have mem' : ∀ x, x ∈ L'.ms ↔ x = new ∨ x ∈ L.ms ∧ x.blk ≠ m.blk := fun x => by
    rw [hms, List.mem_append, List.mem_filter, List.mem_singleton]
    simp only [decide_eq_true_eq]
    exact or_comm
  refine ⟨⟨by rw [hl.room]; exact h.room, fun x hx => ?_, ?_, h.new_q g hl (fun x hx => List.mem_cons_of_mem _ hx) (List.pairwise_cons.1 h.sorted).2, h.last_next hl, by rw [hl.touch]; have := h.touch; omega⟩, ?_, fun x hx => (mem' x).1 hx, fun x hx hne => (mem' x).2 (.inr ⟨hx, hne⟩), (mem' new).2 (.inl rfl)⟩
  · rcases (mem' x).1 hx with rfl | ⟨hx, _⟩
    · exact ⟨hl.name, by rw [hl.dat_, List.length_replicate]⟩
    · exact h.all x hx
  · rw [hms, List.filter_append]
    have e1 : [new].filter isUnused = [new] := by simp [new_unused hl]
    rw [e1]
    refine List.Perm.append_right _ ?_
    rw [List.filter_filter]
    have e2 : (L.ms.filter fun x => isUnused x && decide (x.blk ≠ m.blk)) = (L.ms.filter isUnused).filter fun x => decide (x.blk ≠ m.blk) := by
      rw [List.filter_filter]
      congr 1
      funext x
      exact Bool.and_comm _ _
    rw [e2]
    have h2 := h.perm.filter fun x => decide (x.blk ≠ m.blk)
    have hnd := h.blks hb
    simp only [List.map_cons, List.nodup_cons] at hnd
    have e3 : (m :: q).filter (fun x => decide (x.blk ≠ m.blk)) = q := by
      rw [List.filter_cons_of_neg (by simp)]
      refine List.filter_eq_self.2 fun x hx => ?_
      have : x.blk ≠ m.blk := fun e => hnd.1 (List.mem_map.2 ⟨x, hx, e⟩)
      simp [this]
    rw [e3] at h2
    exact h2
  · rw [hms, List.length_append, List.length_singleton]
    omega
end
theorem found {L : Lay} {m : LM} (hk : (L.ms.map fun m => (m.name, m.ver)).Nodup) (hm : m ∈ L.ms) (hv : 1 ≤ m.ver) (nw : Bool) : (L.find m.name m.ver nw).1 = some m := by
  have hn : L.nOf m.name ≠ 0 := by
    unfold Lay.nOf
    intro e
    have := List.length_eq_zero_iff.1 e
    have h1 : m ∈ L.ms.filter fun x => decide (x.name = m.name) := List.mem_filter.2 ⟨hm, by simp⟩
    rw [this] at h1
    cases h1
  have hmod : L.modOf m.name m.ver = some m := by
    cases e : L.modOf m.name m.ver with
    | none =>
      have := List.find?_eq_none.1 e m hm
      simp at this
    | some m' =>
      obtain ⟨k1, k2, k3⟩ := find_key e
      rw [map_inj hk k1 hm (by rw [k2, k3])]
  unfold Lay.find Lay.which
  rw [if_neg hn, if_neg (by omega), hmod]
def turnF (b : Nat) (t : Int) (x : LM) : LM := if x.blk = b then { x with used := 0, touched := t } else x
theorem turnF_key (b : Nat) (t : Int) (x : LM) : (turnF b t x).name = x.name ∧ (turnF b t x).ver = x.ver ∧ (turnF b t x).dat = x.dat ∧ (turnF b t x).blk = x.blk := by
  unfold turnF
  split <;> simp
def Lay.tk (L : Lay) (m : LM) : LM := { m with used := m.used + 1, touched := L.touch + 1 }
theorem tk_mem {L : Lay} {m : LM} (hm : m ∈ L.ms) : L.tk m ∈ (L.took m).ms := List.mem_map.2 ⟨m, hm, by simp [takeF, Lay.tk]⟩
theorem turn_ms {L : Lay} {m : LM} (hb : (L.ms.map (·.blk)).Nodup) (hm : m ∈ L.ms) (hu : m.used = 0) : ((L.took m).gave (L.tk m)).ms = L.ms.map (turnF m.blk (L.touch + 1)) := by
  show (L.ms.map (takeF m.blk (m.used + 1) (L.touch + 1))).map (setUsed m.blk (m.used + 1 - 1)) = _
  rw [List.map_map]
  refine List.map_congr_left fun x hx => ?_
  simp only [Function.comp_def, takeF, setUsed, turnF]
  by_cases e : x.blk = m.blk
  · simp [e, hu]
  · simp [e]
section
variable {L L' : Lay} {s n k t : Nat} {q a b : List LM} {m : LM}
theorem Od.touched (h : Od L s n k t (a ++ m :: b)) (g : Good L) (hb : (L.ms.map (·.blk)).Nodup) (hu : m.used = 0) :
    Od ((L.took m).gave (L.tk m)) s n k (t + 1) (a ++ b ++ [turnF m.blk (L.touch + 1) m]) := by
  have hmem := h.mem (m := m) (by simp)
  have hms := turn_ms hb hmem.1 hu
  have hnd := h.blks hb
  rw [List.map_append, List.map_cons] at hnd
  have hab : ∀ x ∈ a ++ b, x.blk ≠ m.blk := fun x hx e => by
    obtain ⟨h1, h2, h3⟩ := List.nodup_append.1 hnd
    rcases List.mem_append.1 hx with hx | hx
    · exact h3 x.blk (List.mem_map_of_mem hx) m.blk List.mem_cons_self e
    · exact (List.nodup_cons.1 h2).1 (List.mem_map.2 ⟨x, hx, e⟩)
  have hfix : ∀ l : List LM, (∀ x ∈ l, x ∈ a ++ b) → l.map (turnF m.blk (L.touch + 1)) = l := fun l hl => by
    refine (List.map_congr_left (g := id) fun x hx => ?_).trans (List.map_id l)
    simp [turnF, hab x (hl x hx)]
  refine ⟨h.room, fun x hx => ?_, ?_, ?_, h.last, by show L.touch + 1 ≤ _; have := h.touch; omega⟩
  · rw [hms] at hx
    obtain ⟨y, hy, rfl⟩ := List.mem_map.1 hx
    obtain ⟨e1, _, e3, _⟩ := turnF_key m.blk (L.touch + 1) y
    rw [e1, e3]
    exact h.all y hy
  · rw [hms]
    have e1 : (L.ms.map (turnF m.blk (L.touch + 1))).filter isUnused = (L.ms.filter isUnused).map (turnF m.blk (L.touch + 1)) := by
      rw [List.filter_map]
      congr 1
      refine List.filter_congr fun x hx => ?_
      simp only [Function.comp_def, turnF]
      split
      · rename_i e
        obtain rfl := map_inj hb hx hmem.1 e
        simp [isUnused, hu]
      · rfl
    rw [e1]
    refine List.Perm.trans ?_ (h.perm.map (turnF m.blk (L.touch + 1)))
    rw [List.map_append, List.map_cons, hfix a fun x hx => List.mem_append_left _ hx, hfix b fun x hx => List.mem_append_right _ hx, List.append_assoc]
    exact List.Perm.append_left _ (List.perm_append_comm (l₁ := b) (l₂ := [_]))
  · have hs := h.sorted
    have hsub : (a ++ b).Sublist (a ++ m :: b) := List.Sublist.append (List.Sublist.refl a) (List.sublist_cons_self m b)
    refine List.pairwise_append.2 ⟨hs.sublist hsub, List.pairwise_singleton _ _, fun x hx y hy => ?_⟩
    simp at hy
    subst hy
    have := g.touched x (h.mem (hsub.subset hx)).1
    simp [turnF]
    omega
theorem Od.held (h : Od L s n k t (m :: q)) (hb : (L.ms.map (·.blk)).Nodup) (hu : m.used = 0) : Od (L.took m) s n k (t + 1) q := by
  have hmem := h.mem (m := m) (by simp)
  refine ⟨h.room, fun x hx => ?_, ?_, (List.pairwise_cons.1 h.sorted).2, h.last, by show L.touch + 1 ≤ _; have := h.touch; omega⟩
  · obtain ⟨y, hy, rfl⟩ := List.mem_map.1 (show x ∈ L.ms.map (takeF m.blk (m.used + 1) (L.touch + 1)) from hx)
    obtain ⟨e1, _, e3, _⟩ := takeF_key m.blk (m.used + 1) (L.touch + 1) y
    rw [e1, e3]
    exact h.all y hy
  · show q.Perm ((L.ms.map (takeF m.blk (m.used + 1) (L.touch + 1))).filter isUnused)
    have e1 : (L.ms.map (takeF m.blk (m.used + 1) (L.touch + 1))).filter isUnused = (L.ms.filter isUnused).filter fun x => decide (x.blk ≠ m.blk) := by
      rw [List.filter_map, List.filter_filter]
      have e2 : L.ms.filter (isUnused ∘ takeF m.blk (m.used + 1) (L.touch + 1)) = L.ms.filter fun x => decide (x.blk ≠ m.blk) && isUnused x := by
        refine List.filter_congr fun x hx => ?_
        simp only [Function.comp_def, takeF]
        by_cases e : x.blk = m.blk
        · simp [e, isUnused, hu]
        · simp [e]
      rw [e2]
      refine (List.map_congr_left (g := id) fun x hx => ?_).trans (List.map_id _)
      have := (List.mem_filter.1 hx).2
      simp at this
      simp [takeF, this.1]
    rw [e1]
    have h2 := h.perm.filter fun x => decide (x.blk ≠ m.blk)
    have hnd := h.blks hb
    simp only [List.map_cons, List.nodup_cons] at hnd
    have e3 : (m :: q).filter (fun x => decide (x.blk ≠ m.blk)) = q := by
      rw [List.filter_cons_of_neg (by simp)]
      refine List.filter_eq_self.2 fun x hx => ?_
      have : x.blk ≠ m.blk := fun e => hnd.1 (List.mem_map.2 ⟨x, hx, e⟩)
      simp [this]
    rw [e3] at h2
    exact h2
end
open PShelfKeeps (S39 heddlelaw27_there.f heddlelaw27_there.l0 rd_T39 z39)
theorem there_loop (l : List S39) (hl : l.length ≤ 1000000) (nm : ByteArray) (v : Int) : ∀ (d k i : Nat), l.length - i = d → i ≤ l.length → d < k →
    (((∃ x ∈ l.drop i, x.f0 = nm ∧ x.f1 = v) ∧ ∃ j : Nat, PShelfKeeps.heddlelaw27_there.l0 k l nm v i = some (j : Int)) ∨ ((∀ x ∈ l.drop i, ¬ (x.f0 = nm ∧ x.f1 = v)) ∧ PShelfKeeps.heddlelaw27_there.l0 k l nm v i = some (-1)))
  | 0, k, i, hd, hi, hk => by
    obtain ⟨k, rfl⟩ : ∃ m, k = m + 1 := ⟨k - 1, by omega⟩
    refine .inr ⟨fun x hx => ?_, ?_⟩
    · rw [List.drop_eq_nil_of_le (by omega)] at hx; cases hx
    · simp only [PShelfKeeps.heddlelaw27_there.l0]
      rw [if_neg (by omega)]
  | d + 1, k, i, hd, hi, hk => by
    obtain ⟨k, rfl⟩ : ∃ m, k = m + 1 := ⟨k - 1, by omega⟩
    have hlt : i < l.length := by omega
    have e : wrap64 ((i : Int) + 1) = ((i + 1 : Nat) : Int) := by unfold wrap64; omega
    have hdr : l.drop i = l[i] :: l.drop (i + 1) := List.drop_eq_getElem_cons hlt
    have hrd : PShelfKeeps.rd_T39 l (i : Int) = l[i] := by
      unfold PShelfKeeps.rd_T39
      rw [Int.toNat_natCast, List.getD_eq_getElem?_getD, List.getElem?_eq_getElem hlt]
      rfl
    have ih := there_loop l hl nm v d k (i + 1) (by omega) (by omega) (by omega)
    simp only [PShelfKeeps.heddlelaw27_there.l0]
    rw [if_pos (by omega), if_pos (by omega), hrd, e, hdr]
    by_cases h1 : l[i].f0.toList = nm.toList
    · have h1' : l[i].f0 = nm := toList_inj (by rw [ByteArray.toList_eq, ByteArray.toList_eq] at h1; exact h1)
      rw [if_pos h1]
      by_cases h2 : l[i].f1 = v
      · rw [if_pos h2]
        exact .inl ⟨⟨l[i], List.mem_cons_self, h1', h2⟩, i, rfl⟩
      · rw [if_neg h2]
        rcases ih with ⟨⟨x, hx, hp⟩, j, hj⟩ | ⟨hno, hj⟩
        · exact .inl ⟨⟨x, List.mem_cons_of_mem _ hx, hp⟩, j, hj⟩
        · exact .inr ⟨fun x hx => (List.mem_cons.1 hx).elim (fun e => by subst e; exact fun hh => h2 hh.2) (hno x), hj⟩
    · rw [if_neg h1]
      rcases ih with ⟨⟨x, hx, hp⟩, j, hj⟩ | ⟨hno, hj⟩
      · exact .inl ⟨⟨x, List.mem_cons_of_mem _ hx, hp⟩, j, hj⟩
      · exact .inr ⟨fun x hx => (List.mem_cons.1 hx).elim (fun e => by subst e; exact fun hh => h1 (by rw [hh.1])) (hno x), hj⟩
theorem there_yes {l : List S39} (hl : l.length ≤ 1000000) {nm : ByteArray} {v : Int} (h : ∃ x ∈ l, x.f0 = nm ∧ x.f1 = v) : ∃ j : Nat, PShelfKeeps.heddlelaw27_there.f (l.length + 1) l nm v = some (j : Int) := by
  rcases there_loop l hl nm v l.length (l.length + 1) 0 (by omega) (by omega) (by omega) with ⟨_, h1⟩ | ⟨h1, _⟩
  · exact h1
  · obtain ⟨x, hx, hp⟩ := h
    exact absurd hp (h1 x hx)
theorem there_no {l : List S39} (hl : l.length ≤ 1000000) {nm : ByteArray} {v : Int} (h : ∀ x ∈ l, ¬ (x.f0 = nm ∧ x.f1 = v)) : PShelfKeeps.heddlelaw27_there.f (l.length + 1) l nm v = some (-1) := by
  rcases there_loop l hl nm v l.length (l.length + 1) 0 (by omega) (by omega) (by omega) with ⟨⟨x, hx, hp⟩, _⟩ | ⟨_, h1⟩
  · exact absurd hp (h x hx)
  · exact h1
/-- what there answers -/
theorem listed_yes {L : Lay} (hfew : L.ms.length ≤ 256) {m : LM} (hm : m ∈ L.ms) {nm : ByteArray} (hn : m.name = nm) : ∃ j : Nat, PShelfKeeps.heddlelaw27_there.f (((sortedN L).map heldOf).length + 1) ((sortedN L).map heldOf) nm m.ver = some (j : Int) := by
  have hl : ((sortedN L).map heldOf).length = L.ms.length := by simp [sortedN]
  refine there_yes (by omega) ⟨heldOf m, List.mem_map_of_mem ((List.mergeSort_perm _ _).mem_iff.2 hm), hn, rfl⟩
theorem listed_no {L : Lay} (hfew : L.ms.length ≤ 256) {nm : ByteArray} {v : Int} (hno : ∀ m ∈ L.ms, m.ver ≠ v) : PShelfKeeps.heddlelaw27_there.f (((sortedN L).map heldOf).length + 1) ((sortedN L).map heldOf) nm v = some (-1) := by
  have hl : ((sortedN L).map heldOf).length = L.ms.length := by simp [sortedN]
  refine there_no (by omega) fun x hx => ?_
  obtain ⟨m, hm, rfl⟩ := List.mem_map.1 hx
  exact fun h => hno m ((List.mergeSort_perm _ _).mem_iff.1 hm) h.2
end Go.Proofs.Ytancenklmfamnaa.Sh
