/- slices.Clone at bytes. what holds of a shelf's numbers, and how it is kept. -/
import Derived.Test.YtancenklmfamnaaGreatShVic2
set_option linter.unusedVariables false
set_option linter.unusedSimpArgs false
namespace Go.Proofs.YtancenklmfamnaaGreat.Sh
open Go.RowKit Go.Maps Go.Sort Go.Shelf
open Go.Proofs

theorem info5 : (Tryz.prog.info? 5).map (fun i => (i.zero, i.size, i.bytes)) = some (some (.int .u8 0), 1, 1) := by kernel_rfl

/-- bytes that are read -/
def RdB (w : World) (sv : Value) (dat : List Int) : Prop := (sv = .slice none 0 0 ∧ dat = []) ∨ ∃ g cap, sv = .slice (some ⟨g, 0, none⟩) dat.length cap ∧ dat.length ≤ cap ∧ ∀ j x, dat[j]? = some x → w.cell? ⟨g, j, none⟩ = some (encB x)
theorem RdB.len {w : World} {sv : Value} {dat : List Int} (h : RdB w sv dat) : ∃ A c, sv = .slice A dat.length c := by
  rcases h with ⟨rfl, rfl⟩ | ⟨g, cap, rfl, _⟩
  · exact ⟨_, _, rfl⟩
  · exact ⟨_, _, rfl⟩
theorem RdB.of_row {w : World} {B : Nat} {sv : Value} {dat : List Int} (h : w.ownsRow B 5 1 sv dat.length (dat.map encB)) : RdB w sv dat := by
  rcases h.2 with ⟨rfl, h0⟩ | ⟨g, cap, cur, rfl, hg, hcur, hcap, hcm, hsz, hcells⟩
  · exact .inl ⟨rfl, List.eq_nil_of_length_eq_zero h0⟩
  · refine .inr ⟨g, cap, rfl, hcap, fun j x hj => ?_⟩
    have h1 : (dat.map encB)[j]? = some (encB x) := by simp [hj]
    have h2 := (List.getElem?_eq_some_iff.1 hj).1
    rw [← hcells, List.getElem?_take_of_lt (by omega)] at h1
    rw [Lib.cell_of_heap hcur]
    simpa using h1
theorem RdB.far {w w1 : World} {S : Nat → Prop} {sv : Value} {dat : List Int} (h : RdB w sv dat) (hs : Same S w w1) (hb : ∀ k, sv.ownBlock = some k → ¬ S k) : RdB w1 sv dat := by
  rcases h with h | ⟨g, cap, rfl, hl, hc⟩
  · exact .inl h
  · refine .inr ⟨g, cap, rfl, hl, fun j x hj => ?_⟩
    have h1 := hc j x hj
    have hlt : g < w.heap.size := by
      by_cases hg : g < w.heap.size
      · exact hg
      · have h2 : w.heap[g]? = none := Array.getElem?_eq_none (by omega)
        simp [World.cell?, h2] at h1
    exact (World.cell?_of_block (a := ⟨g, j, none⟩) (hs.2.2.2.2 g hlt (hb g rfl))).trans h1
theorem RdB.nil (w : World) : RdB w (.slice none 0 0) [] := .inl ⟨rfl, rfl⟩

set_option maxHeartbeats 2000000 in
set_option maxRecDepth 100000 in
theorem clone_any (B0 : Nat) (sv : Value) (dat : List Int) (w : World) (hrow : RdB w sv dat) (hlen : dat.length ≤ 70368744177664) :
    Calls Tryz.prog 49 #[sv] w fun e w' => ∃ v', e = .returned v' ∧ w'.ownsRow w.heap.size 5 1 v' dat.length (dat.map encB) ∧ Below w.heap.size w w' := by
  have q22 : ∀ (w : World) (a : Option Addr) (n c n' c' : Nat), (binOp .eql 25 (.slice a n c) (.slice none n' c')).run Tryz.prog w = .ok (.bool a.isNone) w := fun w a n c n' c' => Lib.run_eql_slice_nil w _ _ a n c n' c' Tryz.underlying25
  obtain ⟨i0, hi, hz0, hz1, hz2⟩ := info_parts info5
  rcases hrow with ⟨rfl, rfl⟩ | ⟨g, cap, rfl, hcap, hcells⟩
  · go_enter Tryz.func49, Tryz.ntmps49
    go_wp2
    go_ret
    exact ⟨_, rfl, World.ownsRow_nil _ _ _ _, Below.refl _ _⟩
  · have A := Lib.hid hcells
    clear hcells
    go_enter Tryz.func49, Tryz.ntmps49
    go_wp2_with (at_builtin; refine wpList_append_own _ rfl _ _ 25 rfl w.heap.size 5 i0 (.int .u8 0) 1 1 Tryz.underlying25 hi hz0 hz1 hz2 rfl (by decide) _ _ _ rfl (World.ownsRow_made w #[] 0 (Nat.le_refl _) (Nat.zero_le _) rfl) ⟨g, 0, none⟩ dat.length cap (dat.map encB) rfl ?qc1 ?qc2 ?qc3 ?qc4 ?qc5 ?qc6 ?_)
    case qc1 => simp
    case qc2 =>
      intro j u hj
      rw [Addr.add_lit]
      refine Lib.cell?_alloc_some _ ?_
      have hjn : j < dat.length := by
        have := (List.getElem?_eq_some_iff.1 hj).1
        simpa using this
      obtain ⟨x, hx⟩ : ∃ x, dat[j]? = some x := ⟨_, List.getElem?_eq_getElem hjn⟩
      rw [List.getElem?_map, hx] at hj
      simp at hj
      subst hj
      simpa using A.out j x hx
    case qc3 => intro u hu; obtain ⟨x, _, rfl⟩ := List.mem_map.1 hu; rfl
    case qc4 => unfold maxLen; omega
    case qc5 => omega
    case qc6 => simp
    intro v' w1 hown hgrow hnil
    go_wp2
    go_ret
    exact ⟨v', rfl, by simpa using hown, ((Below.refl _ w).alloc (Nat.le_refl _) _).grown hgrow (by simp) (by intro k hk; simp [Value.ownBlock] at hk; omega)⟩
end Go.Proofs.YtancenklmfamnaaGreat.Sh
namespace Go.Proofs.YtancenklmfamnaaGreat.Sh
open Go.RowKit Go.Maps Go.Sort Go.Shelf
open Go.Proofs

def sizes : List LM → Int
  | [] => 0
  | m :: l => sz m + sizes l
theorem sizes_append (a b : List LM) : sizes (a ++ b) = sizes a + sizes b := by
  induction a with
  | nil => simp [sizes]
  | cons x a ih => simp [sizes, ih]; omega
theorem sizes_nonneg (l : List LM) : 0 ≤ sizes l := by
  induction l with
  | nil => simp [sizes]
  | cons x l ih => simp [sizes, sz]; omega
theorem sizes_mem {l : List LM} {m : LM} (h : m ∈ l) : sz m ≤ sizes l := by
  induction l with
  | nil => cases h
  | cons x l ih =>
    have := sizes_nonneg l
    rcases List.mem_cons.1 h with rfl | h
    · simp [sizes]; omega
    · have := ih h
      simp [sizes, sz] at *; omega
theorem sizes_drop {l : List LM} {m : LM} (hn : (l.map (·.blk)).Nodup) (h : m ∈ l) : sizes (l.filter fun x => decide (x.blk ≠ m.blk)) = sizes l - sz m ∧ (l.filter fun x => decide (x.blk ≠ m.blk)).length + 1 = l.length := by
  induction l with
  | nil => cases h
  | cons x l ih =>
    simp only [List.map_cons, List.nodup_cons] at hn
    rcases List.mem_cons.1 h with rfl | h
    · have : l.filter (fun x => decide (x.blk ≠ m.blk)) = l := List.filter_eq_self.2 fun y hy => by
        simp
        exact fun e => hn.1 (List.mem_map.2 ⟨y, hy, e⟩)
      have e : (m :: l).filter (fun x => decide (x.blk ≠ m.blk)) = l := by rw [List.filter_cons_of_neg (by simp)]; exact this
      rw [e]
      simp [sizes]
      omega
    · have hx : x.blk ≠ m.blk := fun e => hn.1 (List.mem_map.2 ⟨m, h, e.symm⟩)
      obtain ⟨h1, h2⟩ := ih hn.2 h
      simp only [List.filter_cons, hx, ne_eq, not_false_eq_true, decide_true, if_true, sizes, List.length_cons]
      simp only [ne_eq] at h1 h2
      constructor
      · have h3 : sizes (x :: List.filter (fun x => decide ¬x.blk = m.blk) l) = sz x + sizes (List.filter (fun x => decide ¬x.blk = m.blk) l) := rfl
        omega
      · omega

structure Good (L : Lay) : Prop where
  room : 1 ≤ L.room ∧ L.room ≤ 1099511627776
  bytes : L.bytes = sizes L.ms
  count : L.count = L.ms.length
  fits : L.bytes ≤ L.room
  touch : 0 ≤ L.touch
  touched : ∀ m ∈ L.ms, m.touched ≤ L.touch
  tnodup : (L.ms.map (·.touched)).Nodup
  used : ∀ m ∈ L.ms, 0 ≤ m.used ∧ m.used ≤ 2147483647
  vers : ∀ m ∈ L.ms, 1 ≤ m.ver ∧ m.ver ≤ 4611686018427387904
  names : ∀ m ∈ L.ms, m.name.size ≤ 32
  full : ∀ x ∈ L.inn, ∃ m ∈ L.ms, m.name = x.1
  lasts : ∀ x ∈ L.last, 1 ≤ x.2 ∧ x.2 ≤ 4611686018427387904
  lastFew : L.last.length ≤ 65536
  known : ∀ m ∈ L.ms, ∃ v, L.lastOf m.name = some v ∧ m.ver ≤ v

theorem Good.size_le {L : Lay} (g : Good L) {m : LM} (h : m ∈ L.ms) : (m.dat.length : Int) ≤ L.bytes := by
  have := sizes_mem h
  rw [g.bytes]
  exact this
theorem Good.wf {L : Lay} (g : Good L) {m : LM} (h : m ∈ L.ms) : (Lit.int .i64 m.ver).wf = true := wf_of (g.vers m h)
theorem Good.nm {L : Lay} (g : Good L) {m : LM} (h : m ∈ L.ms) : m.name.size ≤ maxLen := by have := g.names m h; unfold maxLen; omega

theorem rem1_same (L : Lay) (m : LM) : (L.rem1 m).ms = (L.drop m).ms ∧ (L.rem1 m).room = L.room ∧ (L.rem1 m).touch = L.touch ∧ (L.rem1 m).last = L.last ∧ (L.rem1 m).lk = L.lk ∧ (L.rem1 m).mm = L.mm ∧ (L.rem1 m).ml = L.ml := by
  unfold Lay.rem1
  split <;> exact ⟨rfl, rfl, rfl, rfl, rfl, rfl, rfl⟩
theorem rem_same (L : Lay) (m : LM) : (L.rem m).ms = (L.drop m).ms ∧ (L.rem m).room = L.room ∧ (L.rem m).touch = L.touch ∧ (L.rem m).last = L.last ∧ (L.rem m).lk = L.lk ∧ (L.rem m).mm = L.mm ∧ (L.rem m).ml = L.ml := rem1_same L m
theorem Good.rem {L : Lay} (g : Good L) (hb : (L.ms.map (·.blk)).Nodup) {m : LM} (hm : m ∈ L.ms) : Good (L.rem m) := by
  obtain ⟨e1, e2, e3, e4, e5, e6, e7⟩ := rem_same L m
  have hsub : ∀ {y}, y ∈ (L.rem m).ms → y ∈ L.ms := fun hy => by
    rw [e1] at hy
    exact (List.mem_filter.1 hy).1
  obtain ⟨h1, h2⟩ := sizes_drop hb hm
  refine ⟨by rw [e2]; exact g.room, ?_, ?_, ?_, by rw [e3]; exact g.touch, fun y hy => by rw [e3]; exact g.touched y (hsub hy), ?_, fun y hy => g.used y (hsub hy), fun y hy => g.vers y (hsub hy), fun y hy => g.names y (hsub hy), ?_, by rw [e4]; exact g.lasts, by rw [e4]; exact g.lastFew, fun y hy => ?_⟩
  · rw [e1]
    show L.bytes - m.dat.length = sizes (L.ms.filter fun x => decide (x.blk ≠ m.blk))
    rw [h1, g.bytes]
    rfl
  · rw [e1]
    show L.count - 1 = ((L.ms.filter fun x => decide (x.blk ≠ m.blk)).length : Int)
    rw [g.count]
    omega
  · rw [e2]
    have := g.fits
    show L.bytes - m.dat.length ≤ L.room
    omega
  · rw [e1]
    exact (List.filter_sublist.map _).nodup g.tnodup
  · intro x hx
    rw [e1]
    have hx' : x ∈ (L.rem1 m).inn := hx
    unfold Lay.rem1 at hx'
    split at hx'
    · simp at hx'
      obtain ⟨y, hy, e⟩ := g.full x hx'.1
      refine ⟨y, List.mem_filter.2 ⟨hy, ?_⟩, e⟩
      simp
      intro e2
      have := map_inj hb hy hm e2
      subst this
      exact hx'.2 e.symm
    · rename_i hn
      by_cases e : x.1 = m.name
      · have : (L.drop m).ms.filter (fun y => decide (y.name = m.name)) ≠ [] := fun h => hn (by simp [Lay.nOf, h])
        obtain ⟨y, hy⟩ := List.exists_mem_of_ne_nil _ this
        simp at hy
        exact ⟨y, hy.1, hy.2.trans e.symm⟩
      · obtain ⟨y, hy, e9⟩ := g.full x hx'
        refine ⟨y, List.mem_filter.2 ⟨hy, ?_⟩, e9⟩
        simp
        intro e3
        have e10 := map_inj hb hy hm e3
        exact e (by rw [← e9, e10])
  · simp only [Lay.lastOf]
    rw [e4]
    exact g.known y (hsub hy)

def gone (l : List LM) (m : LM) : Bool := l.any fun x => decide (x.blk = m.blk)
def keepL (L : Lay) (l : List LM) : List LM := L.ms.filter fun m => !gone l m
theorem keep_snoc (L : Lay) (l : List LM) (x : LM) : (keepL L l).filter (fun y => decide (y.blk ≠ x.blk)) = keepL L (l ++ [x]) := by
  simp only [keepL, List.filter_filter]
  refine List.filter_congr fun y _ => ?_
  have e : decide (y.blk ≠ x.blk) = !decide (x.blk = y.blk) := by
    by_cases h : y.blk = x.blk
    · simp [h]
    · have : ¬ x.blk = y.blk := fun e => h e.symm
      simp [h, this]
  simp [gone, List.any_append, e, Bool.and_comm]
theorem vcount_some {room n : Int} : ∀ {l : List Int} {b c : Int} {i : Nat}, vcount room n b c l = some i → i ≤ l.length ∧ c - i < 256 ∧ b - (l.take i).sum + n ≤ room
  | [], b, c, i, h => by
    by_cases hc : b + n ≤ room ∧ c < 256
    · rw [vcount_yes hc] at h
      cases h
      simp
      omega
    · rw [vcount_no hc] at h
      cases h
  | x :: l, b, c, i, h => by
    by_cases hc : b + n ≤ room ∧ c < 256
    · rw [vcount_yes hc] at h
      cases h
      simp
      omega
    · rw [vcount_on hc] at h
      obtain ⟨j, hj, rfl⟩ := Option.map_eq_some_iff.1 h
      obtain ⟨h1, h2, h3⟩ := vcount_some hj
      simp
      omega
theorem unused_mem {L : Lay} {x : LM} (h : x ∈ unusedL L) : x ∈ L.ms ∧ ¬ 0 < x.used := by
  have h1 := List.mem_filter.1 ((List.mergeSort_perm _ _).mem_iff.1 h)
  refine ⟨h1.1, ?_⟩
  have := h1.2
  simp [isUnused] at this
  omega
theorem unused_nodup {L : Lay} (hb : (L.ms.map (·.blk)).Nodup) : ((unusedL L).map (·.blk)).Nodup := by
  have h1 : ((L.ms.filter isUnused).map (·.blk)).Nodup := (List.filter_sublist.map _).nodup hb
  exact ((List.mergeSort_perm (L.ms.filter isUnused) _).map _).nodup_iff.2 h1
theorem not_gone {L : Lay} (hb : (L.ms.map (·.blk)).Nodup) {k : Nat} {x : LM} (hx : (unusedL L)[k]? = some x) : gone ((unusedL L).take k) x = false := by
  have hn := unused_nodup hb
  cases h : gone ((unusedL L).take k) x with
  | false => rfl
  | true =>
    obtain ⟨y, hy, e⟩ := List.any_eq_true.1 h
    simp at e
    obtain ⟨j, hj, hjy⟩ := List.mem_take_iff_getElem.1 hy
    have hx' := List.getElem?_eq_some_iff.1 hx
    obtain ⟨hk, hxe⟩ := hx'
    have hne : j ≠ k := by omega
    have h1 : ((unusedL L).map (·.blk))[j]? = ((unusedL L).map (·.blk))[k]? := by
      rw [List.getElem?_map, List.getElem?_map, hx, List.getElem?_eq_getElem (by omega), hjy]
      simp [e]
    exact absurd ((List.getElem?_inj (by simp; omega) hn).1 h1) hne
end Go.Proofs.YtancenklmfamnaaGreat.Sh
