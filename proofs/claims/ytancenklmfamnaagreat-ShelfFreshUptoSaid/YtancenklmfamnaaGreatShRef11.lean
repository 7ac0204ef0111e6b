/- The document's shelf: what place finds, names, the changes of one model. The document's shelf: Give, Drop, Take. The document's shelf: Put, Lay. The document's shelf: Put, New. The document's shelf: New. The document's shelf: List's plain part and its memory. -/
import Derived.Test.YtancenklmfamnaaGreatShRef4
import Derived.Test.YtancenklmfamnaaGreatVRef
import Derived.Deep.Upon
set_option linter.unusedVariables false
set_option linter.unusedSimpArgs false
namespace Go.Proofs.YtancenklmfamnaaGreat.Sh
open Go.RowKit Go.Maps Go.Sort Go.Shelf
open Go.Proofs Go.MuLone
open Go.Proofs.YtancenklmfamnaaGreatW.PrintWords Go.Proofs.YtancenklmfamnaaGreatW.PrintLast Go.Proofs.YtancenklmfamnaaGreatW.PrintMore
open PShelfPlays (S70 S104 S115 k70 k104 k115)

theorem named5_loop (s : ByteArray) (hs : s.size ≤ 4611686018427387904) : ∀ (d k i : Nat), s.size - i = d → i ≤ s.size → d < k → PShelfPlays.heddleref5_Named.l0 k s i = some (Nm.allFrom s d i)
  | 0, k, i, hd, hi, hk => by
    obtain ⟨k, rfl⟩ : ∃ m, k = m + 1 := ⟨k - 1, by omega⟩
    simp only [PShelfPlays.heddleref5_Named.l0]
    rw [if_neg (by omega)]
    rfl
  | d + 1, k, i, hd, hi, hk => by
    obtain ⟨k, rfl⟩ : ∃ m, k = m + 1 := ⟨k - 1, by omega⟩
    have e : wrap64 ((i : Int) + 1) = ((i + 1 : Nat) : Int) := by unfold wrap64; omega
    have ih := named5_loop s hs d k (i + 1) (by omega) (by omega) (by omega)
    simp only [PShelfPlays.heddleref5_Named.l0]
    rw [if_pos (by omega), if_pos (by omega), e, ih]
    simp only [Nm.allFrom]
    generalize Nm.allFrom s d (i + 1) = R
    generalize bt s i = c
    cases hl : Nm.letterB c with
    | true =>
      rw [Bool.true_and]
      simp [Nm.letterB] at hl
      repeat' split
      all_goals first | rfl | (exfalso; omega)
    | false =>
      rw [Bool.false_and]
      simp [Nm.letterB] at hl
      repeat' split
      all_goals first | rfl | (exfalso; omega)
theorem named5_w (s : ByteArray) (hs : s.size ≤ 4611686018427387904) (w : World) : Calls Tryz.prog 51 #[.string s] w fun e w' => e = .returned (.bool (Nm.nameOk s)) ∧ ∃ q, w' = w.drewN q := by
  refine (PShelfPlays.heddleref5_Named.calls (s.size + 2) s (Nm.nameOk s) w ?_).mono fun e w' ⟨h1, h2⟩ => ⟨h1, h2.out⟩
  unfold PShelfPlays.heddleref5_Named.f
  have hl := named5_loop s hs s.size (s.size + 1) 0 (by omega) (by omega) (by omega)
  simp only [PShelfPlays.heddleref5_Named.j0]
  by_cases h0 : s.size = 0
  · rw [if_pos (by omega)]
    simp [Nm.nameOk, h0]
  · rw [if_neg (by omega)]
    by_cases h1 : s.size ≤ 32
    · rw [if_neg (by simpa using (by omega : ¬ (32 : Int) < (s.size : Int)))]
      refine hl.trans ?_
      simp [Nm.nameOk, h0, h1]
    · rw [if_pos (by simp; omega)]
      simp [Nm.nameOk, h1]
/-! ### place and find -/
section
variable {L : Lay} {nm : ByteArray} {v : Int}
theorem mod_at {i : Nat} {x : S104} (h : (L.ms.map m104)[i]? = some x) : ∃ m, L.ms[i]? = some m ∧ x = m104 m := by
  rw [List.getElem?_map] at h
  obtain ⟨m, h1, h2⟩ := Option.map_eq_some_iff.1 h
  exact ⟨m, h1, h2.symm⟩
theorem modOf_at (hk : (L.ms.map fun m => (m.name, m.ver)).Nodup) {m : LM} (hm : m ∈ L.ms) : L.modOf m.name m.ver = some m := by
  unfold Lay.modOf
  cases hf : L.ms.find? fun y => decide (y.name = m.name) && decide (y.ver = m.ver) with
  | none =>
    have := List.find?_eq_none.1 hf m hm
    simp at this
  | some z =>
    obtain ⟨h1, h2, h3⟩ := find_key hf
    rw [map_inj hk h1 hm (by simp [h2, h3])]
theorem modOf_none (h : ∀ x ∈ L.ms.map m104, ¬ (x.f0 = nm ∧ x.f1 = v)) : L.modOf nm v = none := by
  unfold Lay.modOf
  rw [List.find?_eq_none]
  intro m hm
  simp
  exact fun h1 h2 => h (m104 m) (List.mem_map_of_mem hm) ⟨h1, h2⟩
theorem find_match (hk : (L.ms.map fun m => (m.name, m.ver)).Nodup) {r : Int} (h : FindR (L.ms.map m104) nm v r) : (r = -1 ∧ L.modOf nm v = none) ∨ ∃ i m, r = (i : Nat) ∧ L.ms[i]? = some m ∧ L.modOf nm v = some m := by
  rcases h with ⟨rfl, h⟩ | ⟨i, x, rfl, hx, h1, h2⟩
  · exact .inl ⟨rfl, modOf_none h⟩
  · obtain ⟨m, hm, rfl⟩ := mod_at hx
    have h1' : m.name = nm := h1
    have h2' : m.ver = v := h2
    subst h1' h2'
    exact .inr ⟨i, m, rfl, hm, modOf_at hk (List.mem_of_getElem? hm)⟩
theorem newest_is (g : Good L) {m : LM} (hm : m ∈ L.ms) (he : m.name = nm) (h : ∀ y ∈ L.ms, y.name = nm → y.ver ≤ m.ver) : newestOf (L.vers nm) = m.ver := by
  have h0 : ∀ x ∈ L.vers nm, 1 ≤ x := fun x hx => by
    obtain ⟨y, hy, rfl⟩ := List.mem_map.1 hx
    exact (g.vers y (List.mem_filter.1 hy).1).1
  have hmv : m.ver ∈ L.vers nm := List.mem_map.2 ⟨m, List.mem_filter.2 ⟨hm, by simpa using he⟩, rfl⟩
  have hle : ∀ x ∈ L.vers nm, x ≤ m.ver := fun x hx => by
    obtain ⟨y, hy, rfl⟩ := List.mem_map.1 hx
    obtain ⟨h1, h2⟩ := List.mem_filter.1 hy
    exact h y h1 (by simpa using h2)
  have gen : ∀ (vs : List Int) (a : Int), a ≤ m.ver → (∀ x ∈ vs, x ≤ m.ver) → (m.ver ∈ vs ∨ a = m.ver) → vs.foldl max a = m.ver := by
    intro vs
    induction vs with
    | nil =>
      intro a _ _ h
      rcases h with h | h
      · cases h
      · exact h
    | cons z vs ih =>
      intro a h1 h2 h3
      have hz := h2 z List.mem_cons_self
      refine ih (max a z) (by omega) (fun x hx => h2 x (List.mem_cons_of_mem _ hx)) ?_
      rcases h3 with h3 | h3
      · rcases List.mem_cons.1 h3 with h3 | h3
        · right; omega
        · left; exact h3
      · right; omega
  exact gen _ 0 (by have := (g.vers m hm).1; omega) hle (.inl hmv)
theorem place_match (g : Good L) (hk : (L.ms.map fun m => (m.name, m.ver)).Nodup) {nw : Bool} {r err : Int} (h : PlaceR (L.ms.map m104) nm v nw r err) : (err ≠ 0 ∧ r = -1 ∧ L.find nm v nw = (none, err)) ∨ (err = 0 ∧ ∃ i m, r = (i : Nat) ∧ L.ms[i]? = some m ∧ L.find nm v nw = (some m, 0)) := by
  have hof : ∀ {m : LM}, m ∈ L.ms → m.name = nm → L.nOf nm ≠ 0 := fun {m} hm he h0 => by
    have : m ∈ L.ms.filter fun m => decide (m.name = nm) := List.mem_filter.2 ⟨hm, by simpa using he⟩
    rw [List.eq_nil_of_length_eq_zero h0] at this
    cases this
  rcases h with ⟨rfl, rfl, hno⟩ | ⟨⟨rfl, rfl⟩, rfl, i, x, rfl, hx, hn, hall⟩ | ⟨⟨y, hy, hyn⟩, hnot, h⟩
  · left
    refine ⟨by decide, rfl, ?_⟩
    have h0 : L.nOf nm = 0 := by
      unfold Lay.nOf
      rw [List.filter_eq_nil_iff.2 fun m hm => by
        have h' : m.name ≠ nm := hno (m104 m) (List.mem_map_of_mem hm)
        simpa using h']
      rfl
    unfold Lay.find
    rw [if_pos h0]
  · obtain ⟨m, hm, rfl⟩ := mod_at hx
    have hn' : m.name = nm := hn
    have hmm := List.mem_of_getElem? hm
    right
    refine ⟨rfl, i, m, rfl, hm, ?_⟩
    unfold Lay.find Lay.which
    rw [if_neg (hof hmm hn'), if_pos ⟨rfl, rfl⟩, newest_is g hmm hn' fun y hy hyn => hall (m104 y) (List.mem_map_of_mem hy) hyn, ← hn', modOf_at hk hmm]
  · obtain ⟨z, hz, rfl⟩ := List.mem_map.1 hy
    have hw : L.which nm v nw = v := by
      unfold Lay.which
      rw [if_neg fun h => hnot ⟨h.2, h.1⟩]
    have hnz := hof hz hyn
    rcases h with ⟨rfl, rfl, hno⟩ | ⟨rfl, i, x, rfl, hx, hn, hv⟩
    · left
      refine ⟨by decide, rfl, ?_⟩
      unfold Lay.find
      rw [if_neg hnz, hw, modOf_none hno]
    · obtain ⟨m, hm, rfl⟩ := mod_at hx
      have hn' : m.name = nm := hn
      have hv' : m.ver = v := hv
      right
      refine ⟨rfl, i, m, rfl, hm, ?_⟩
      unfold Lay.find
      rw [if_neg hnz, hw, ← hn', ← hv', modOf_at hk (List.mem_of_getElem? hm)]
theorem set_blk (hb : (L.ms.map (·.blk)).Nodup) {i : Nat} {m : LM} (hm : L.ms[i]? = some m) (f : LM → LM) : L.ms.map (fun x => if x.blk = m.blk then f x else x) = L.ms.set i (f m) := by
  apply List.ext_getElem?
  intro j
  rw [List.getElem?_map, List.getElem?_set]
  have hi := (List.getElem?_eq_some_iff.1 hm).1
  by_cases e : i = j
  · subst e
    rw [hm, if_pos rfl, if_pos hi]
    simp
  · rw [if_neg e]
    cases hj : L.ms[j]? with
    | none => rfl
    | some y =>
      have : y.blk ≠ m.blk := fun h => e (by
        have hj' := (List.getElem?_eq_some_iff.1 hj).1
        have hp := List.pairwise_iff_getElem.1 hb
        simp only [List.getElem_map, List.length_map] at hp
        rcases Nat.lt_or_gt_of_ne e with h1 | h1
        · exact absurd (by rw [(List.getElem?_eq_some_iff.1 hm).2, (List.getElem?_eq_some_iff.1 hj).2, h]) (hp i j hi hj' h1)
        · exact absurd (by rw [(List.getElem?_eq_some_iff.1 hm).2, (List.getElem?_eq_some_iff.1 hj).2, h]) (hp j i hj' hi h1))
      simp [this]
theorem used_map (hb : (L.ms.map (·.blk)).Nodup) {i : Nat} {m : LM} (hm : L.ms[i]? = some m) (u : Int) : (L.ms.map (setUsed m.blk u)).map m104 = (L.ms.map m104).set i { m104 m with f3 := u } := by
  have : L.ms.map (setUsed m.blk u) = L.ms.set i { m with used := u } := set_blk hb hm fun x => { x with used := u }
  rw [this, List.map_set]
  rfl
end
end Go.Proofs.YtancenklmfamnaaGreat.Sh
namespace Go.Proofs.YtancenklmfamnaaGreat.Sh
open Go.RowKit Go.Maps Go.Sort Go.Shelf
open Go.Proofs Go.MuLone
open Go.Proofs.YtancenklmfamnaaGreatW.PrintWords (Reps OwnRow Kd ReadsRow)
open PShelfPlays (S70 S104 S115 k70 k104 k115)

/-- what the document's shelf needs of a lay -/
structure LRest (L : Lay) : Prop where
  good : Good L
  blks : (L.ms.map (·.blk)).Nodup
  keys : (L.ms.map fun m => (m.name, m.ver)).Nodup
  few : L.ms.length ≤ 256
  lnames : (L.last.map (·.1)).Nodup
/-- behind a call: the document's shelf is L' -/
def RefTo (B g : Nat) (F : Nat → Prop) (w w' : World) (L' : Lay) : Prop := ∃ F', RStep w w' F F' ∧ RefL B w' g F' L'
theorem RefTo.same {B g : Nat} {F : Nat → Prop} {w w' : World} {L : Lay} (h : RefL B w g F L) (hb : Below w.heap.size w w') : RefTo B g F w w' L := ⟨F, RStep.below hb, h.below hb⟩
section
variable {B g : Nat} {w : World} {F : Nat → Prop} {L : Lay}
set_option maxHeartbeats 4000000 in
set_option maxRecDepth 1000000 in
theorem ref_give (h : RefL B w g F L) (r : LRest L) (nm : ByteArray) (v : Int) :
    Calls Tryz.prog 31 #[.pointer (some ⟨g, 0, none⟩), .string nm, .int .i64 v] w fun e w' => e = .returned (.int .i64 (L.give nm v).2) ∧ RefTo B g F w w' (L.give nm v).1 := by
  obtain ⟨A1, n1, c1, A2, n2, c2, t⟩ := h
  have hn1 : n1 ≤ 256 := by have := t.len1.1; simp at this; have := r.few; omega
  have HP := Lib.hid (ref_place t (by omega) nm v false)
  have T := Lib.hid t
  have R := Lib.hid r
  clear t r
  go_enter Tryz.func31, Tryz.ntmps31
  go_wp2_with fail
  refine HP.out.mono ?_
  rintro e w1 ⟨q, err, rfl, hq, a, rfl⟩
  rcases place_match R.out.good R.out.keys hq with ⟨hne, rfl, hf⟩ | ⟨rfl, i, m, rfl, hm, hf⟩
  · have e1 : (err != 0) = true := by simpa using hne
    have HR : Hid (L.give nm v = (L, err)) := Lib.hid (by unfold Lay.give; rw [hf])
    clear hq hne hf
    go_wp2
    go_ret
    rw [HR.out]
    exact ⟨rfl, RefTo.same ⟨_, _, _, _, _, _, T.out⟩ (below_drewN (Below.refl _ _) _)⟩
  · have hx : (L.ms.map m104)[i]? = some (m104 m) := by rw [List.getElem?_map, hm]; rfl
    have T2 := T.out.below (below_drewN (Below.refl w.heap.size w) a)
    obtain ⟨hi, gm, rfl, hDS, y0, y1, y3, y4, fz, _⟩ := T2.mod hx
    have fz3 := fz 3
    obtain ⟨x0, x1, x2, x3, _⟩ := T2.cells
    have y3' : (w.drewN a).cell? ⟨gm, i * 5 + 3, none⟩ = some (.int .i64 m.used) := y3
    have hus := R.out.good.used m (List.mem_of_getElem? hm)
    have HS := Lib.hid (T2.modSet hx (m.used - 1)).1
    have HM := Lib.hid (And.intro hm hf)
    clear hq hf y0 y1 y4 y3 fz hx hm T2
    by_cases hu : m.used = 0
    · have HR : Hid (L.give nm v = (L, 1)) := Lib.hid (by unfold Lay.give; rw [HM.out.2]; simp [hu])
      have e1 : (m.used == 0) = true := by simpa using hu
      clear hu
      go_wp2
      go_ret
      rw [HR.out]
      exact ⟨rfl, RefTo.same ⟨_, _, _, _, _, _, T.out⟩ (below_drewN (Below.refl _ _) _)⟩
    · have HR : Hid (L.give nm v = ({ L with ms := L.ms.map (setUsed m.blk (m.used - 1)) }, 0)) := Lib.hid (by unfold Lay.give; rw [HM.out.2]; simp [hu])
      have e1 : (m.used == 0) = false := by simpa using hu
      have e3 : IntKind.i64.wrap (m.used - 1) = m.used - 1 := Go.IntWalk.i64_in _ (by omega)
      clear hu
      go_wp2
      go_ret
      rw [HR.out]
      refine ⟨rfl, F, (RStep.drewN w F a).trans ⟨Same.set _ _ _ hDS.1, fun k hk => .inl hk⟩, some ⟨gm, 0, none⟩, n1, c1, A2, n2, c2, ?_⟩
      show RefAt _ _ _ _ _ _ ((L.ms.map (setUsed m.blk (m.used - 1))).map m104) _ _ _ _ _ _ _
      rw [used_map R.out.blks HM.out.1]
      exact HS.out
theorem RefAt.newMods {n1 c1 n2 c2 n4 c4 : Nat} {room clk : Int} {ms ms' : List S104} {ls : List S115} {A1 A2 A4 : Option Addr} {w' : World} (T : RefAt B w g F room clk ms ls A1 n1 c1 A2 n2 c2) (hb : Below w.heap.size w w') (N : Kd.N k104 104 w' B (fun k => DS F g A2 k ∨ w.heap.size ≤ k) (.slice A4 n4 c4) ms') :
    RefAt B (w'.setCell ⟨g, 1, none⟩ (.slice A4 n4 c4)) g (fun k => F k ∨ (w.heap.size ≤ k ∧ k < w'.heap.size)) room clk ms' ls A4 n4 c4 A2 n2 c2 ∧ RStep w (w'.setCell ⟨g, 1, none⟩ (.slice A4 n4 c4)) F (fun k => F k ∨ (w.heap.size ≤ k ∧ k < w'.heap.size)) := by
  have T' := T.below hb
  have hgw := T.foot g T.self
  have hsz : (w'.setCell ⟨g, 1, none⟩ (.slice A4 n4 c4)).heap.size = w'.heap.size := by simp [World.setCell]
  have hs := hb.size
  refine ⟨⟨?_, ?_, ?_, .inl T.self, fun k hk => ?_⟩, ?_, fun k hk => hk.elim .inl fun h => .inr h.1⟩
  · have := YtancenklmfamnaaGreatW.PrintWords.blk_set T'.blk 1 (.slice A4 n4 c4)
    simpa using this
  · have h1 := Kd.N_far N (p := ⟨g, 1, none⟩) (fun k hk e => by
      have e' : k = g := e
      subst e'
      rcases hk with hk | hk
      · exact hk.2.1 rfl
      · omega) (.slice A4 n4 c4)
    refine Kd.N_mono (Kd.N_bound h1) fun k hk => ?_
    rcases hk.1 with h2 | h2
    · exact ⟨.inl h2.1, h2.2⟩
    · refine ⟨.inr ⟨h2, by rw [hsz] at hk; exact hk.2⟩, by omega, fun e => ?_⟩
      have h3 := T.lasts.1 k (by cases A2 <;> simp [Value.ownBlock] at e ⊢; exact e)
      have := T.foot k h3.1
      omega
  · exact Kd.N_mono (Kd.N_far T'.lasts (p := ⟨g, 1, none⟩) (fun k hk e => hk.2 e) _) fun k hk => ⟨.inl hk.1, hk.2⟩
  · rw [hsz]
    rcases hk with hk | hk
    · have := T.foot k hk
      exact ⟨this.1, by omega⟩
    · omega
  · exact (Same.below hb).trans (Same.set _ _ _ T.self)
set_option maxHeartbeats 4000000 in
set_option maxRecDepth 1000000 in
theorem ref_drop (h : RefL B w g F L) (r : LRest L) (nm : ByteArray) (v : Int) :
    Calls Tryz.prog 32 #[.pointer (some ⟨g, 0, none⟩), .string nm, .int .i64 v] w fun e w' => e = .returned (.int .i64 (L.dropM nm v).2) ∧ RefTo B g F w w' (L.dropM nm v).1 := by
  obtain ⟨A1, n1, c1, A2, n2, c2, t⟩ := h
  have hn1 : n1 ≤ 256 := by have := t.len1.1; simp at this; have := r.few; omega
  have HP := Lib.hid (ref_place t (by omega) nm v false)
  have T := Lib.hid t
  have R := Lib.hid r
  clear t r
  go_enter Tryz.func32, Tryz.ntmps32
  go_wp2_with fail
  refine HP.out.mono ?_
  rintro e w1 ⟨q, err, rfl, hq, a, rfl⟩
  rcases place_match R.out.good R.out.keys hq with ⟨hne, rfl, hf⟩ | ⟨rfl, i, m, rfl, hm, hf⟩
  · have e1 : (err != 0) = true := by simpa using hne
    have HR : Hid (L.dropM nm v = (L, err)) := Lib.hid (by unfold Lay.dropM; rw [hf])
    clear hq hne hf
    go_wp2
    go_ret
    rw [HR.out]
    exact ⟨rfl, RefTo.same ⟨_, _, _, _, _, _, T.out⟩ (below_drewN (Below.refl _ _) _)⟩
  · have hx : (L.ms.map m104)[i]? = some (m104 m) := by rw [List.getElem?_map, hm]; rfl
    have T2 := T.out.below (below_drewN (Below.refl w.heap.size w) a)
    obtain ⟨hi, gm, rfl, hDS, y0, y1, y3, y4, fz, _⟩ := T2.mod hx
    obtain ⟨x0, x1, x2, x3, _⟩ := T2.cells
    have y3' : (w.drewN a).cell? ⟨gm, i * 5 + 3, none⟩ = some (.int .i64 m.used) := y3
    have hus := R.out.good.used m (List.mem_of_getElem? hm)
    have HT2 := Lib.hid T2
    have HM := Lib.hid (And.intro hm hf)
    clear hq hf y0 y1 y4 y3 fz hx hm T2
    by_cases hu : 0 < m.used
    · have HR : Hid (L.dropM nm v = (L, 271)) := Lib.hid (by unfold Lay.dropM; rw [HM.out.2]; simp [hu])
      have e1 : decide (0 < m.used) = true := decide_eq_true hu
      clear hu
      go_wp2
      go_ret
      rw [HR.out]
      exact ⟨rfl, RefTo.same ⟨_, _, _, _, _, _, T.out⟩ (below_drewN (Below.refl _ _) _)⟩
    · have HR : Hid (L.dropM nm v = (L.rem m, 0)) := Lib.hid (by unfold Lay.dropM; rw [HM.out.2]; simp [hu])
      have e1 : decide (0 < m.used) = false := decide_eq_false hu
      clear hu
      go_wp2_with fail
      refine (without_c HT2.out.mods R.out.few (by have := HT2.out.foot g HT2.out.self; omega) i).mono ?_
      rintro e w2 ⟨A4, n4, c4, rfl, hN, hb⟩
      obtain ⟨hT4, hS4⟩ := HT2.out.newMods hb hN
      obtain ⟨z0, z1, z2, z3, fz⟩ := (HT2.out.below hb).cells
      have fz1 := fz 1
      have H4 := Lib.hid (And.intro hT4 hS4)
      clear hT4 hS4 hN hb fz
      go_wp2
      go_ret
      rw [HR.out]
      refine ⟨rfl, _, (RStep.drewN w F a).trans H4.out.2, A4, n4, c4, A2, n2, c2, ?_⟩
      have e3 : (L.rem m).ms = L.ms.eraseIdx i := by
        rw [erase_blk R.out.blks HM.out.1]
        unfold Lay.rem Lay.rem1
        split <;> rfl
      have e4 : (L.rem m).room = L.room ∧ (L.rem m).touch = L.touch ∧ (L.rem m).last = L.last := by
        unfold Lay.rem Lay.rem1
        split <;> exact ⟨rfl, rfl, rfl⟩
      show RefAt _ _ _ _ (L.rem m).room (L.rem m).touch ((L.rem m).ms.map m104) ((L.rem m).last.map l115) _ _ _ _ _ _
      rw [e3, e4.1, e4.2.1, e4.2.2]
      exact H4.out.1
theorem copy_bytes {W : World} {B0 cd : Nat} {Ad : Option Addr} {dat : List Int} (hC : Kd.C (Kd.int .u8) W Ad dat.length dat) (hle : dat.length ≤ cd) (hlen : dat.length ≤ 140737488355328) (hB : B0 ≤ W.heap.size) (ty : TypeId) :
    ∃ v1 W1, (Builtin.append_ #[25, 25] ty #[.slice none 0 0, .slice Ad dat.length cd]).run Tryz.prog W = .ok v1 W1 ∧ W1.ownsRow B0 5 1 v1 dat.length (dat.map encB) ∧ Below W.heap.size W W1 ∧ ∀ k, v1.ownBlock = some k → W.heap.size ≤ k := by
  obtain ⟨i0, hi, hz0, hz1, hz2⟩ := info_parts info5
  cases dat with
  | nil =>
    refine ⟨.slice none 0 0, W, ?_, World.ownsRow_nil _ _ _ _, Below.refl _ _, fun k hk => by simp [Value.ownBlock] at hk⟩
    cases Ad with
    | none => exact run_append_nothing W 25 25 ty 5 i0 Tryz.underlying25 hi none 0 0 (Nat.le_refl _) _ (Src.ofNil W Tryz.underlying25 cd)
    | some ad => exact run_append_nothing W 25 25 ty 5 i0 Tryz.underlying25 hi none 0 0 (Nat.le_refl _) _ (Src.ofSlice W Tryz.underlying25 ad 0 cd [] (by simp) (fun j u h => by simp at h) (fun u hu => by cases hu))
  | cons x xs =>
    obtain ⟨_, _, h3⟩ := hC
    obtain ⟨ad, rfl, h4⟩ := h3 (by simp)
    obtain ⟨v1, W1, h5, h6, h7, h8⟩ := app_bytes (B := B0) (w := W) (xs := []) (World.ownsRow_nil _ _ _ _) (bv := .slice (some ad) (x :: xs).length cd) (dat := x :: xs) (.inr ⟨ad, cd, rfl, hle, fun j y hj => by
      obtain ⟨c, hc1, hc2, hc3⟩ := h4 j y hj
      have hc4 : c = [encB y] := hc2
      subst hc4
      have := hc3 0 (encB y) rfl
      have e : j * (Kd.int .u8).sz + 0 = j := Nat.mul_one j
      rwa [e] at this⟩) (by omega) hB ty
    rw [Nat.zero_add, List.nil_append] at h6
    refine ⟨v1, W1, h5, h6, (Below.refl _ _).grown h7 (Nat.le_refl _) fun k hk => (by simp [Value.ownBlock] at hk), fun k hk => ?_⟩
    rcases h8 with h8 | h8
    · rw [h8] at hk
      simp [Value.ownBlock] at hk
    · rw [h8] at hk
      cases hk
      exact Nat.le_refl _
end
end Go.Proofs.YtancenklmfamnaaGreat.Sh
namespace Go.Proofs.YtancenklmfamnaaGreat.Sh
open Go.RowKit Go.Maps Go.Sort Go.Shelf
open Go.Proofs Go.MuLone
open Go.Proofs.YtancenklmfamnaaGreatW.PrintWords (Reps OwnRow Kd ReadsRow)
open PShelfPlays (S70 S104 S115 k70 k104 k115)

section
variable {B g : Nat} {w : World} {F : Nat → Prop} {L : Lay}
theorem rlay_match {nm : ByteArray} {ver : Int} {dat : List Int} {e : Ending} {w' : World} (h : RefL B w g F L) (hr : RLayP B g F L nm ver dat w e w') :
    ∃ err, e = .returned (.int .i64 err) ∧ ∀ L' err0, Put1 L L' nm ver dat err0 → err0 = err ∧ RefTo B g F w w' L' := by
  rcases hr with ⟨rfl, hn, hb⟩ | ⟨rfl, hn, i, F', hp, hs, hT⟩
  · refine ⟨4, rfl, fun L' err0 hP => ?_⟩
    rcases hP with ⟨rfl, _, rfl⟩ | ⟨_, h2, _⟩
    · exact ⟨rfl, RefTo.same h hb⟩
    · exact absurd hn h2
  · refine ⟨0, rfl, fun L' err0 hP => ?_⟩
    rcases hP with ⟨_, h2, _⟩ | ⟨rfl, _, j, new, hl⟩
    · exact absurd h2 hn
    · refine ⟨rfl, F', hs, ?_⟩
      have hij : j = i := by
        have := hl.pick
        rw [hp] at this
        injection this with this
        exact this.symm
      subst hij
      unfold RefL
      have e1 : m104 new = ⟨nm, ver, dat, 0, L.touch + 1⟩ := by
        show (⟨new.name, new.ver, new.dat, new.used, new.touched⟩ : S104) = _
        rw [hl.name, hl.ver_, hl.dat_, hl.used, hl.touched]
      rw [hl.room, hl.touch, hl.ms, hl.last, List.map_append, List.map_cons, List.map_nil, e1]
      exact hT
theorem RefTo.pre {w0 w' : World} {L' : Lay} {q : Nat} (h : RefTo B g F (w.drewN q) w' L') : RefTo B g F w w' L' := by
  obtain ⟨F', h1, h2⟩ := h
  exact ⟨F', (RStep.drewN w F q).trans h1, h2⟩
def RLayOut (B g : Nat) (F : Nat → Prop) (L : Lay) (nm : ByteArray) (ver : Int) (dat : List Int) (w : World) (e : Ending) (w' : World) : Prop :=
  ∃ err, e = .returned (.int .i64 err) ∧ ∀ L' err0, LayR L L' nm ver dat err0 → err0 = err ∧ RefTo B g F w w' L'
set_option maxHeartbeats 4000000 in
set_option maxRecDepth 1000000 in
theorem ref_layc (h : RefL B w g F L) (r : LRest L) (htc : L.touch < 4611686018427387904) (nm : ByteArray) (hnm : nm.size ≤ 140737488355328) (ver : Int) (Ab : Option Addr) (nb cb : Nat) (dat : List Int) (hdn : dat.length = nb) (hrow : RdA w (.slice Ab nb cb) dat) (hbo : ∀ k, Ab.map (·.block) = some k → dat ≠ [] → ¬ F k) :
    Calls Tryz.prog 29 #[.pointer (some ⟨g, 0, none⟩), .string nm, .int .i64 ver, .slice Ab nb cb] w (RLayOut B g F L nm ver dat w) := by
  obtain ⟨A1, n1, c1, A2, n2, c2, t⟩ := h
  have hn1 : n1 ≤ 256 := by have := t.len1.1; simp at this; have := r.few; omega
  have T := Lib.hid t
  have R := Lib.hid r
  have HD := Lib.hid hdn
  have HRW := Lib.hid (And.intro hrow hbo)
  clear t r hdn hrow hbo
  have HN := Lib.hid (fun w => named5_w nm (by omega) w)
  go_enter Tryz.func29, Tryz.ntmps29
  go_wp2_with fail
  refine (HN.out _).mono ?_
  rintro e w1 ⟨rfl, q, rfl⟩
  cases hok : Nm.nameOk nm with
  | false =>
    have HR : Hid (RLayOut B g F L nm ver dat w (.returned (.int .i64 50)) (w.drewN q)) := Lib.hid ⟨50, rfl, fun L' err0 hP => by
      have h0 := RefTo.same (B := B) (g := g) (F := F) (L := L) ⟨_, _, _, _, _, _, T.out⟩ (below_drewN (Below.refl w.heap.size w) q)
      rcases hP with ⟨_, rfl, rfl⟩ | ⟨h1, _⟩ | ⟨h1, _⟩ | ⟨h1, _⟩ | ⟨h1, _⟩
      · exact ⟨rfl, h0⟩
      all_goals (rw [hok] at h1; cases h1)⟩
    clear hok
    go_wp2
    go_ret
    exact HR.out
  | true =>
    have HOK := Lib.hid hok
    clear hok
    by_cases hv : 1 ≤ ver ∧ ver ≤ 4611686018427387904
    · have e1 : decide (ver < 1) = false := decide_eq_false (by omega)
      have e2 : decide (4611686018427387904 < ver) = false := decide_eq_false (by omega)
      by_cases hbig : 16777216 < nb
      · have e3 : decide ((16777216 : Int) < (nb : Int)) = true := decide_eq_true (by omega)
        have HR : Hid (∀ a, RLayOut B g F L nm ver dat w (.returned (.int .i64 2)) (w.drewN a)) := Lib.hid fun a => ⟨2, rfl, fun L' err0 hP => by
          have h0 := RefTo.same (B := B) (g := g) (F := F) (L := L) ⟨_, _, _, _, _, _, T.out⟩ (below_drewN (Below.refl w.heap.size w) a)
          have := HD.out
          rcases hP with ⟨h1, _⟩ | ⟨_, h1, _⟩ | ⟨_, _, _, rfl, rfl⟩ | ⟨_, _, h1, _⟩ | ⟨_, _, h1, _⟩
          · rw [HOK.out] at h1; cases h1
          · omega
          · exact ⟨rfl, h0⟩
          · omega
          · omega⟩
        clear hv hbig
        go_wp2
        go_ret
        exact HR.out _
      · have e3 : decide ((16777216 : Int) < (nb : Int)) = false := decide_eq_false (by omega)
        have HFI := Lib.hid (ref_find (T.out.below (below_drewN (Below.refl w.heap.size w) q)) (by omega) nm ver)
        have HV := Lib.hid (And.intro hv hbig)
        clear hv hbig
        go_wp2_with fail
        refine HFI.out.mono ?_
        rintro e w2 ⟨p, rfl, hp, a, rfl⟩
        rcases find_match R.out.keys hp with ⟨rfl, hno⟩ | ⟨i, m, rfl, hm, hmo⟩
        · have HNO := Lib.hid hno
          have T2 := T.out.below (below_drewN (Below.refl w.heap.size w) (q + a))
          have HLY := Lib.hid (ref_lay T2 R.out.good R.out.blks R.out.few R.out.lnames nm ver HV.out.1 htc Ab nb cb dat HD.out (HRW.out.1.far (S := fun _ => False) (Same.drewN w (q + a)) fun _ _ _ h => h) (by have := HV.out.2; have := HD.out; omega) HRW.out.2)
          clear hp hno T2
          go_wp2_with fail
          refine HLY.out.mono ?_
          intro e w3 hE
          obtain ⟨err, rfl, hEE⟩ := rlay_match ⟨_, _, _, _, _, _, T.out.below (below_drewN (Below.refl w.heap.size w) (q + a))⟩ hE
          have HR : Hid (RLayOut B g F L nm ver dat w (.returned (.int .i64 err)) w3) := Lib.hid ⟨err, rfl, fun L' err0 hP => by
            have := HD.out
            have := HV.out
            rcases hP with ⟨h1, _⟩ | ⟨_, h1, _⟩ | ⟨_, _, h1, _⟩ | ⟨_, _, _, h1, _⟩ | ⟨_, _, _, _, h1⟩
            · rw [HOK.out] at h1; cases h1
            · omega
            · omega
            · rw [HNO.out] at h1; cases h1
            · obtain ⟨h2, h3⟩ := hEE L' err0 h1
              exact ⟨h2, RefTo.pre (w0 := w) h3⟩⟩
          clear hE hEE
          go_wp2
          go_ret
          exact HR.out
        · have HR : Hid (∀ a, RLayOut B g F L nm ver dat w (.returned (.int .i64 5)) (w.drewN a)) := Lib.hid fun a => ⟨5, rfl, fun L' err0 hP => by
            have h0 := RefTo.same (B := B) (g := g) (F := F) (L := L) ⟨_, _, _, _, _, _, T.out⟩ (below_drewN (Below.refl w.heap.size w) a)
            have := HD.out
            have := HV.out
            rcases hP with ⟨h1, _⟩ | ⟨_, h1, _⟩ | ⟨_, _, h1, _⟩ | ⟨_, _, _, _, rfl, rfl⟩ | ⟨_, _, _, h1, _⟩
            · rw [HOK.out] at h1; cases h1
            · omega
            · omega
            · exact ⟨rfl, h0⟩
            · rw [hmo] at h1; cases h1⟩
          clear hp hm hmo
          go_wp2
          go_ret
          exact HR.out _
    · have HR : Hid (∀ a, RLayOut B g F L nm ver dat w (.returned (.int .i64 270)) (w.drewN a)) := Lib.hid fun a => ⟨270, rfl, fun L' err0 hP => by
        have h0 := RefTo.same (B := B) (g := g) (F := F) (L := L) ⟨_, _, _, _, _, _, T.out⟩ (below_drewN (Below.refl w.heap.size w) a)
        rcases hP with ⟨h1, _⟩ | ⟨_, _, rfl, rfl⟩ | ⟨_, h1, _⟩ | ⟨_, h1, _⟩ | ⟨_, h1, _⟩
        · rw [HOK.out] at h1; cases h1
        · exact ⟨rfl, h0⟩
        all_goals exact absurd h1 hv⟩
      by_cases h1 : ver < 1
      · have e1 : decide (ver < 1) = true := decide_eq_true h1
        clear hv h1
        go_wp2
        go_ret
        exact HR.out _
      · have e1 : decide (ver < 1) = false := decide_eq_false h1
        have e2 : decide (4611686018427387904 < ver) = true := decide_eq_true (by omega)
        clear hv h1
        go_wp2
        go_ret
        exact HR.out _
end
end Go.Proofs.YtancenklmfamnaaGreat.Sh
namespace Go.Proofs.YtancenklmfamnaaGreat.Sh
open Go.RowKit Go.Maps Go.Sort Go.Shelf
open Go.Proofs Go.MuLone
open Go.Proofs.YtancenklmfamnaaGreatW.PrintWords (Reps OwnRow Kd ReadsRow)
open PShelfPlays (S70 S104 S115 k70 k104 k115)

section
variable {B g : Nat} {w : World} {F : Nat → Prop} {L : Lay}
def RPutOut (B g : Nat) (F : Nat → Prop) (L : Lay) (nm : ByteArray) (dat : List Int) (w : World) (e : Ending) (w' : World) : Prop :=
  ∃ v err, e = .returned (.tuple #[.int .i64 v, .int .i64 err]) ∧ ∀ L' v0 err0, PutR L L' nm dat v0 err0 → v0 = v ∧ err0 = err ∧ RefTo B g F w w' L'
theorem put_end {nm : ByteArray} {dat : List Int} {q : Nat} {e : Ending} {w' : World} (h : RefL B w g F L) (hok : Nm.nameOk nm = true) (hd : dat.length ≤ 16777216) (hv : (L.lastOf nm).getD 0 < 4611686018427387904) (hE : RLayP B g F L nm ((L.lastOf nm).getD 0 + 1) dat (w.drewN q) e w') :
    ∃ err, e = .returned (.int .i64 err) ∧ (err = 0 ∨ err = 4) ∧ RPutOut B g F L nm dat w (.returned (.tuple #[.int .i64 (if err = 0 then (L.lastOf nm).getD 0 + 1 else 0), .int .i64 err])) w' := by
  obtain ⟨err, rfl, hEE⟩ := rlay_match (h.below (below_drewN (Below.refl w.heap.size w) q)) hE
  refine ⟨err, rfl, ?_, _, _, rfl, fun L' v0 err0 hP => ?_⟩
  · rcases hE with ⟨h1, _⟩ | ⟨h1, _⟩
    · injection h1 with h1
      injection h1 with _ h1
      exact .inr h1
    · injection h1 with h1
      injection h1 with _ h1
      exact .inl h1
  · rcases hP with ⟨h1, _⟩ | ⟨_, h1, _⟩ | ⟨_, _, h1, _⟩ | ⟨_, _, _, h1, h2⟩
    · rw [hok] at h1; cases h1
    · omega
    · omega
    · obtain ⟨rfl, h3⟩ := hEE L' err0 h2
      exact ⟨h1, rfl, RefTo.pre (w0 := w) h3⟩
set_option maxHeartbeats 4000000 in
set_option maxRecDepth 1000000 in
theorem ref_putc (h : RefL B w g F L) (r : LRest L) (htc : L.touch < 4611686018427387904) (nm : ByteArray) (hnm : nm.size ≤ 140737488355328) (Ab : Option Addr) (nb cb : Nat) (dat : List Int) (hdn : dat.length = nb) (hrow : RdA w (.slice Ab nb cb) dat) (hbo : ∀ k, Ab.map (·.block) = some k → dat ≠ [] → ¬ F k) :
    Calls Tryz.prog 28 #[.pointer (some ⟨g, 0, none⟩), .string nm, .slice Ab nb cb] w (RPutOut B g F L nm dat w) := by
  obtain ⟨A1, n1, c1, A2, n2, c2, t⟩ := h
  have hn2 : n2 ≤ 65536 := by have := t.len2.1; simp at this; have := r.good.lastFew; omega
  have T := Lib.hid t
  have R := Lib.hid r
  have HD := Lib.hid hdn
  have HRW := Lib.hid (And.intro hrow hbo)
  clear t r hdn hrow hbo
  have HN := Lib.hid (fun w => named5_w nm (by omega) w)
  go_enter Tryz.func28, Tryz.ntmps28
  go_wp2_with fail
  refine (HN.out _).mono ?_
  rintro e w1 ⟨rfl, q, rfl⟩
  cases hok : Nm.nameOk nm with
  | false =>
    have HR : Hid (RPutOut B g F L nm dat w (.returned (.tuple #[.int .i64 0, .int .i64 50])) (w.drewN q)) := Lib.hid ⟨0, 50, rfl, fun L' v0 err0 hP => by
      have h0 := RefTo.same (B := B) (g := g) (F := F) (L := L) ⟨_, _, _, _, _, _, T.out⟩ (below_drewN (Below.refl w.heap.size w) q)
      rcases hP with ⟨_, rfl, rfl, rfl⟩ | ⟨h1, _⟩ | ⟨h1, _⟩ | ⟨h1, _⟩
      · exact ⟨rfl, rfl, h0⟩
      all_goals (rw [hok] at h1; cases h1)⟩
    clear hok
    go_wp2
    go_ret2
    exact HR.out
  | true =>
    have HOK := Lib.hid hok
    clear hok
    by_cases hbig : 16777216 < nb
    · have e3 : decide ((16777216 : Int) < (nb : Int)) = true := decide_eq_true (by omega)
      have HR : Hid (∀ a, RPutOut B g F L nm dat w (.returned (.tuple #[.int .i64 0, .int .i64 2])) (w.drewN a)) := Lib.hid fun a => ⟨0, 2, rfl, fun L' v0 err0 hP => by
        have h0 := RefTo.same (B := B) (g := g) (F := F) (L := L) ⟨_, _, _, _, _, _, T.out⟩ (below_drewN (Below.refl w.heap.size w) a)
        have := HD.out
        rcases hP with ⟨h1, _⟩ | ⟨_, h1, rfl, rfl, rfl⟩ | ⟨_, h1, _⟩ | ⟨_, h1, _⟩
        · rw [HOK.out] at h1; cases h1
        · exact ⟨rfl, rfl, h0⟩
        · omega
        · omega⟩
      clear hbig
      go_wp2
      go_ret2
      exact HR.out _
    · have e3 : decide ((16777216 : Int) < (nb : Int)) = false := decide_eq_false (by omega)
      have HFI := Lib.hid (ref_last (T.out.below (below_drewN (Below.refl w.heap.size w) q)) (by omega) nm)
      have HV := Lib.hid hbig
      clear hbig
      have HLY : Hid (∀ a, (L.lastOf nm).getD 0 < 4611686018427387904 → 0 ≤ (L.lastOf nm).getD 0 → Calls Tryz.prog 53 #[.pointer (some ⟨g, 0, none⟩), .string nm, .int .i64 ((L.lastOf nm).getD 0 + 1), .slice Ab nb cb] (w.drewN a) (RLayP B g F L nm ((L.lastOf nm).getD 0 + 1) dat (w.drewN a))) := Lib.hid fun a hv h0 =>
        ref_lay (T.out.below (below_drewN (Below.refl w.heap.size w) a)) R.out.good R.out.blks R.out.few R.out.lnames nm _ (by omega) htc Ab nb cb dat HD.out (HRW.out.1.far (S := fun _ => False) (Same.drewN w a) fun _ _ _ h => h) (by have := HV.out; have := HD.out; omega) HRW.out.2
      go_wp2_with fail
      refine HFI.out.mono ?_
      rintro e w2 ⟨p, rfl, hp, a, rfl⟩
      rcases hp with ⟨rfl, hno⟩ | ⟨i, x, rfl, hx, he⟩
      · have hlo : L.lastOf nm = none := last_none hno
        have hL := HLY.out (q + a) (by rw [hlo]; decide) (by rw [hlo]; decide)
        have e9 : (L.lastOf nm).getD 0 + 1 = 1 := by rw [hlo]; rfl
        have HL := Lib.hid (And.intro hlo e9)
        rw [e9] at hL
        have HL2 := Lib.hid hL
        clear hno hL e9 hlo
        go_wp2_with fail
        refine HL2.out.mono ?_
        intro e w3 hE
        obtain ⟨err, rfl, hor, hR⟩ := put_end (dat := dat) (nm := nm) ⟨_, _, _, _, _, _, T.out⟩ HOK.out (by have := HV.out; have := HD.out; omega) (by rw [HL.out.1]; decide) (by rw [HL.out.2]; exact hE)
        rw [HL.out.2] at hR
        have HR := Lib.hid hR
        clear hE hR
        rcases hor with rfl | rfl
        · go_wp2
          go_ret2
          exact HR.out
        · go_wp2
          go_ret2
          exact HR.out
      · have hlo := last_some R.out.lnames hx he
        have hvv : 1 ≤ x.f1 ∧ x.f1 ≤ 4611686018427387904 := by
          rw [List.getElem?_map] at hx
          obtain ⟨y, hy, rfl⟩ := Option.map_eq_some_iff.1 hx
          exact R.out.good.lasts y (List.mem_of_getElem? hy)
        have T2 := T.out.below (below_drewN (Below.refl w.heap.size w) (q + a))
        obtain ⟨hi2, gl, rfl, _, _, y0, y1, fzl, _⟩ := T.out.last hx
        obtain ⟨x0, x1, x2, x3, _⟩ := T.out.cells
        have hi0 : decide ((0 : Int) ≤ (i : Int)) = true := decide_eq_true (by omega)
        by_cases hmax : x.f1 = 4611686018427387904
        · have HR : Hid (∀ a, RPutOut B g F L nm dat w (.returned (.tuple #[.int .i64 0, .int .i64 4])) (w.drewN a)) := Lib.hid fun a => ⟨0, 4, rfl, fun L' v0 err0 hP => by
            have h0 := RefTo.same (B := B) (g := g) (F := F) (L := L) ⟨_, _, _, _, _, _, T.out⟩ (below_drewN (Below.refl w.heap.size w) a)
            have := HD.out
            have := HV.out
            rcases hP with ⟨h1, _⟩ | ⟨_, h1, _⟩ | ⟨_, _, _, rfl, rfl, rfl⟩ | ⟨_, _, h1, _⟩
            · rw [HOK.out] at h1; cases h1
            · omega
            · exact ⟨rfl, rfl, h0⟩
            · rw [hlo] at h1
              simp at h1
              omega⟩
          have e1 : (x.f1 == 4611686018427387904) = true := by simpa using hmax
          clear hmax hlo hx he T2 fzl hvv
          go_wp2
          go_ret2
          exact HR.out _
        · have hL := HLY.out (q + a) (by rw [hlo]; simp; omega) (by rw [hlo]; simp; omega)
          have e9 : (L.lastOf nm).getD 0 = x.f1 := by rw [hlo]; rfl
          have HL := Lib.hid (And.intro hlo e9)
          rw [e9] at hL
          have HL2 := Lib.hid hL
          have HVV := Lib.hid (And.intro hvv hmax)
          have e1 : (x.f1 == 4611686018427387904) = false := by simpa using hmax
          have e2 : IntKind.i64.wrap (x.f1 + 1) = x.f1 + 1 := Go.IntWalk.i64_in _ (by omega)
          clear hmax hlo hx he T2 fzl hvv hL e9
          go_wp2_with fail
          refine HL2.out.mono ?_
          intro e w3 hE
          obtain ⟨err, rfl, hor, hR⟩ := put_end (dat := dat) (nm := nm) ⟨_, _, _, _, _, _, T.out⟩ HOK.out (by have := HV.out; have := HD.out; omega) (by rw [HL.out.2]; have := HVV.out; omega) (by rw [HL.out.2]; exact hE)
          rw [HL.out.2] at hR
          have HR := Lib.hid hR
          clear hE hR
          rcases hor with rfl | rfl
          · go_wp2
            go_ret2
            exact HR.out
          · go_wp2
            go_ret2
            exact HR.out
end
end Go.Proofs.YtancenklmfamnaaGreat.Sh
namespace Go.Proofs.YtancenklmfamnaaGreat.Sh
open Go.RowKit Go.Maps Go.Sort Go.Shelf
open Go.Proofs Go.MuLone
open Go.Proofs.YtancenklmfamnaaGreatW.PrintWords (Reps OwnRow Kd ReadsRow)
open PShelfPlays (S70 S104 S115 k70 k104 k115)

theorem ref_new_bad (n : Int) (w : World) (h : n < 1 ∨ 1099511627776 < n) : Calls Tryz.prog 21 #[.int .i64 n] w fun e w' => e = .returned (.tuple #[.pointer none, .int .i64 1]) ∧ w' = w := by
  rcases (show n < 1 ∨ (1 ≤ n ∧ 1099511627776 < n) by omega) with h | ⟨h1, h2⟩
  · have hd : decide (n < 1) = true := by simpa using h
    go_enter Tryz.func21, Tryz.ntmps21
    go_wp2
    go_ret2
    exact ⟨rfl, rfl⟩
  · have hd : decide (n < 1) = false := by simp; omega
    have hd2 : decide (1099511627776 < n) = true := by simp; omega
    go_enter Tryz.func21, Tryz.ntmps21
    go_wp2
    go_ret2
    exact ⟨rfl, rfl⟩
theorem ref_fresh (w : World) (n : Int) : RefIs w.heap.size (w.alloc (.cells #[.int .i64 n, .slice none 0 0, .slice none 0 0, .int .i64 0] 102)) w.heap.size (fun k => k = w.heap.size) n 0 [] [] := by
  refine ⟨none, 0, 0, none, 0, 0, alloc_is w _, ?_, ?_, rfl, fun k hk => ?_⟩
  · exact Kd.N_nil _ _ _ _ _
  · exact Kd.N_nil _ _ _ _ _
  · subst hk
    simp
theorem ref_new (n : Int) (w : World) (h1 : 1 ≤ n) (h2 : n ≤ 1099511627776) : Calls Tryz.prog 21 #[.int .i64 n] w fun e w' => ∃ g, e = .returned (.tuple #[.pointer (some ⟨g, 0, none⟩), .int .i64 0]) ∧ Below w.heap.size w w' ∧ RefIs w.heap.size w' g (fun k => k = g) n 0 [] [] := by
  have hd : decide (n < 1) = false := by simp; omega
  have hd2 : decide (1099511627776 < n) = false := by simp; omega
  go_enter Tryz.func21, Tryz.ntmps21
  go_wp2
  go_ret2
  exact ⟨_, rfl, below_alloc w _, ref_fresh w n⟩
end Go.Proofs.YtancenklmfamnaaGreat.Sh
namespace Go.Proofs.YtancenklmfamnaaGreat.Sh
open Go.RowKit Go.Maps Go.Sort Go.Shelf
open Go.Proofs Go.MuLone
open Go.Proofs.YtancenklmfamnaaGreatW.PrintWords (Reps OwnRow Kd ReadsRow)
open PShelfPlays (S70 S104 S115 k70 k104 k115)

/-! ### insertion -/
structure InS (s ys : List LM) (m : LM) (j : Nat) : Prop where
  le : j ≤ s.length
  eq : ys = s.take j ++ m :: s.drop j
  gt : ∀ y ∈ s.drop j, ltN m y
theorem InS.start (s : List LM) (m : LM) : InS s (s ++ [m]) m s.length := ⟨Nat.le_refl _, by simp, fun y hy => by simp at hy⟩
section
variable {s ys : List LM} {m : LM} {j : Nat}
theorem InS.len (h : InS s ys m j) : ys.length = s.length + 1 := by
  have := h.le
  rw [h.eq]
  simp
  omega
theorem InS.at_ (h : InS s ys m j) : ys[j]? = some m := by
  rw [h.eq, List.getElem?_append_right (by simp [h.le]), List.length_take, Nat.min_eq_left h.le, Nat.sub_self]
  rfl
theorem InS.below (h : InS s ys m (j + 1)) : ys[j]? = s[j]? ∧ j < s.length := by
  have := h.le
  refine ⟨?_, by omega⟩
  rw [h.eq, List.getElem?_append_left (by rw [List.length_take]; omega), List.getElem?_take_of_lt (by omega)]
theorem InS.next (h : InS s ys m (j + 1)) {z : LM} (hz : s[j]? = some z) (hlt : ltN m z) : InS s ((ys.set (j + 1) z).set j m) m j := by
  have hj := h.below.2
  refine ⟨by omega, ?_, fun y hy => ?_⟩
  · apply List.ext_getElem?
    intro i
    have hl := h.len
    rw [List.getElem?_set, List.length_set]
    by_cases e1 : j = i
    · subst e1
      rw [if_pos rfl, if_pos (by omega), List.getElem?_append_right (by simp; omega), List.length_take, Nat.min_eq_left (by omega), Nat.sub_self]
      rfl
    · rw [if_neg e1, List.getElem?_set]
      by_cases e2 : j + 1 = i
      · subst e2
        rw [if_pos rfl, if_pos (by omega), List.getElem?_append_right (by simp; omega), List.length_take, Nat.min_eq_left (by omega), show j + 1 - j = 1 by omega, List.getElem?_cons_succ, List.getElem?_drop]
        exact hz.symm
      · rw [if_neg e2, h.eq]
        by_cases e3 : i < j
        · rw [List.getElem?_append_left (by rw [List.length_take]; omega), List.getElem?_append_left (by rw [List.length_take]; omega), List.getElem?_take_of_lt (by omega), List.getElem?_take_of_lt e3]
        · rw [List.getElem?_append_right (by rw [List.length_take]; omega), List.getElem?_append_right (by rw [List.length_take]; omega), List.length_take, List.length_take, Nat.min_eq_left (by omega), Nat.min_eq_left (by omega)]
          obtain ⟨q, rfl⟩ : ∃ q, i = j + 2 + q := ⟨i - j - 2, by omega⟩
          rw [show j + 2 + q - (j + 1) = q + 1 by omega, show j + 2 + q - j = q + 1 + 1 by omega, List.getElem?_cons_succ, List.getElem?_cons_succ, List.getElem?_drop, List.getElem?_drop]
          congr 1
          omega
  · rw [List.drop_eq_getElem_cons hj] at hy
    rcases List.mem_cons.1 hy with rfl | hy
    · rw [(List.getElem?_eq_some_iff.1 hz).2]; exact hlt
    · exact h.gt y hy
theorem InS.stop (h : InS s ys m j) (hs : s.Pairwise ltN) (hno : ∀ y ∈ s, y.name = m.name → y.ver ≠ m.ver) (hj : j = 0 ∨ ∃ i z, j = i + 1 ∧ s[i]? = some z ∧ ¬ ltN m z) : ys.Pairwise ltN ∧ ys.Perm (m :: s) := by
  have hle := h.le
  have hall : ∀ y ∈ s.take j, ltN y m := fun y hy => by
    rcases hj with rfl | ⟨i, z, rfl, hz, hn⟩
    · simp at hy
    · have hzm : ltN z m := by
        rcases ltN_total z m with h1 | h1 | ⟨h1, h2⟩
        · exact h1
        · exact absurd h1 hn
        · exact absurd h2 (hno z (List.mem_of_getElem? hz) h1)
      obtain ⟨q, hq⟩ := List.mem_iff_getElem?.1 hy
      have hql := (List.getElem?_eq_some_iff.1 hq).1
      rw [List.length_take] at hql
      rw [List.getElem?_take_of_lt (by omega)] at hq
      by_cases e : q = i
      · subst e
        rw [hz] at hq
        cases hq
        exact hzm
      · have h3 := List.pairwise_iff_getElem.1 hs q i (List.getElem?_eq_some_iff.1 hq).1 (List.getElem?_eq_some_iff.1 hz).1 (by omega)
        rw [(List.getElem?_eq_some_iff.1 hq).2, (List.getElem?_eq_some_iff.1 hz).2] at h3
        exact ltN_trans h3 hzm
  have hsp : s = s.take j ++ s.drop j := (List.take_append_drop j s).symm
  constructor
  · rw [h.eq, List.pairwise_append]
    have h1 := hs
    rw [hsp, List.pairwise_append] at h1
    refine ⟨h1.1, List.pairwise_cons.2 ⟨h.gt, h1.2.1⟩, fun a ha b hb => ?_⟩
    rcases List.mem_cons.1 hb with rfl | hb
    · exact hall a ha
    · exact h1.2.2 a ha b hb
  · rw [h.eq]
    refine List.perm_middle.trans ?_
    rw [List.take_append_drop]
end
theorem sorted_is {L : Lay} (hk : (L.ms.map fun m => (m.name, m.ver)).Nodup) {xs : List LM} (hp : xs.Perm L.ms) (hs : xs.Pairwise ltN) : xs = sortedN L := by
  have tr : ∀ a b c : LM, (!decide (ltN b a)) = true → (!decide (ltN c b)) = true → (!decide (ltN c a)) = true := fun a b c h1 h2 => by
    simp at *
    intro h3
    rcases ltN_total a b with h | h | ⟨h, h'⟩
    · exact h2 (ltN_trans h3 h)
    · exact h1 h
    · apply h2
      rcases h3 with h3 | ⟨e, h3⟩
      · exact .inl (h ▸ h3)
      · exact .inr ⟨e.trans h, h' ▸ h3⟩
  have tot : ∀ a b : LM, ((!decide (ltN b a)) || (!decide (ltN a b))) = true := fun a b => by
    simp
    rcases ltN_total a b with h | h | ⟨h, h'⟩
    · exact .inl fun h2 => ltN_irrefl _ (ltN_trans h h2)
    · exact .inr fun h2 => ltN_irrefl _ (ltN_trans h h2)
    · left
      rintro (h2 | ⟨_, h2⟩)
      · rw [h] at h2; exact List.lt_irrefl _ h2
      · omega
  refine List.Perm.eq_of_pairwise (le := fun a b => (!decide (ltN b a)) = true) (fun a b ha hb h1 h2 => ?_) (hs.imp fun {a b} h => ?_) (List.pairwise_mergeSort tr tot _) (hp.trans (List.mergeSort_perm _ _).symm)
  · simp at h1 h2
    have ha' : a ∈ L.ms := hp.mem_iff.1 ha
    have hb' : b ∈ L.ms := (List.mergeSort_perm _ _).mem_iff.1 hb
    rcases ltN_total a b with h | h | ⟨h, h'⟩
    · exact absurd h h2
    · exact absurd h h1
    · exact map_inj hk ha' hb' (by rw [h, h'])
  · simp
    exact fun h2 => ltN_irrefl _ (ltN_trans h h2)
/-! ### the row -/
def h70 (m : LM) : S70 := ⟨m.name, m.ver, (m.dat.length : Int), m.used⟩
abbrev c70 (m : LM) : List Value := [.string m.name, .int .i64 m.ver, .int .i64 (m.dat.length : Int), .int .i64 m.used]
theorem info70 : (Tryz.prog.info? 70).map (fun i => (i.zero, i.size, i.bytes)) = some (some (.agg #[.string ByteArray.empty, .int .i64 0, .int .i64 0, .int .i64 0]), 4, 40) := by kernel_rfl
section
variable {W : World} {b n c g : Nat} {ok : Nat → Prop} {xs : List LM} {A : Option Addr}
theorem row_at (h : Kd.N k70 70 W b ok (.slice A n c) (xs.map h70)) {i : Nat} {m : LM} (hm : xs[i]? = some m) : ∃ g, A = some ⟨g, 0, none⟩ ∧ ok g ∧ i < n ∧ n = xs.length ∧
    W.cell? ⟨g, i * 4, none⟩ = some (.string m.name) ∧ W.cell? ⟨g, i * 4 + 1, none⟩ = some (.int .i64 m.ver) ∧ W.cell? ⟨g, i * 4 + 2, none⟩ = some (.int .i64 (m.dat.length : Int)) ∧ W.cell? ⟨g, i * 4 + 3, none⟩ = some (.int .i64 m.used) ∧ ∀ j, W.frozen? ⟨g, i * 4 + j, none⟩ = false := by
  have hi := (List.getElem?_eq_some_iff.1 hm).1
  have hn := (Kd.N_reads' h).1
  rw [List.length_map] at hn
  obtain ⟨g, cap, e, _, _, _⟩ := Kd.N_form h (by rw [List.length_map]; omega)
  injection e with e1 e2 e3
  subst e1
  obtain ⟨c, h1, h2, h3, h4⟩ := Kd.N_elem h PShelfPlays.z70 (i : Int) (by omega) (by omega)
  have hgd : (xs.map h70).getD i PShelfPlays.z70 = h70 m := by rw [List.getD_eq_getElem?_getD, List.getElem?_map, hm]; rfl
  rw [Int.toNat_natCast, hgd] at h2
  rw [Int.toNat_natCast] at h3 h4
  have h5 := PShelfPlays.k70_open (Kd.FK_now h2)
  subst h5
  exact ⟨g, rfl, h.1 g rfl, by omega, hn, h3 0 _ rfl, h3 1 _ rfl, h3 2 _ rfl, h3 3 _ rfl, h4⟩
theorem row_put (h : Kd.N k70 70 W b ok (.slice (some ⟨g, 0, none⟩) n c) (xs.map h70)) {i : Nat} {m : LM} (hm : xs[i]? = some m) (x : LM) :
    Kd.N k70 70 ((((W.setCell ⟨g, i * 4, none⟩ (.string x.name)).setCell ⟨g, i * 4 + 1, none⟩ (.int .i64 x.ver)).setCell ⟨g, i * 4 + 2, none⟩ (.int .i64 (x.dat.length : Int))).setCell ⟨g, i * 4 + 3, none⟩ (.int .i64 x.used)) b ok (.slice (some ⟨g, 0, none⟩) n c) ((xs.set i x).map h70) := by
  have hi := (List.getElem?_eq_some_iff.1 hm).1
  have hn := (Kd.N_reads' h).1
  rw [List.length_map] at hn
  obtain ⟨c', h1, h2, h3, h4⟩ := Kd.N_elem h PShelfPlays.z70 (i : Int) (by omega) (by omega)
  have := (Kd.N_seg h (i : Int) (by omega) (by omega) (c := c') (seg := c70 x) (j := 0) h1 h3 (by exact (by decide : 0 + 4 ≤ 4)) (x' := h70 x) (okp := fun _ => False) (by
    have e : c'.take 0 ++ c70 x ++ c'.drop (0 + (c70 x).length) = c70 x := by
      rw [List.take_zero, List.nil_append, List.drop_eq_nil_of_le (by rw [h1]; exact (by decide : 4 ≤ 0 + 4)), List.append_nil]
    rw [e]
    exact PShelfPlays.k70_mkF W _ (h70 x)) (fun k hk => hk.elim)).1
  rw [Int.toNat_natCast, ← List.map_set] at this
  exact this
end
end Go.Proofs.YtancenklmfamnaaGreat.Sh
