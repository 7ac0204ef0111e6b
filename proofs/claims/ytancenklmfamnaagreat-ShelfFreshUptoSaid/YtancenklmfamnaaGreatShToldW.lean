/- Hand.bytes, Hand.kept: the memory that the laws hand their bytes in. told. told: the walk. -/
import Derived.Test.YtancenklmfamnaaGreatShBase
import Derived.Deep.CutBlock
import Derived.Laws.ResultCell
import Derived.Deep.Onto
set_option linter.unusedVariables false
set_option linter.unusedSimpArgs false
namespace Go.Proofs.YtancenklmfamnaaGreat.Sh
open Go.RowKit Go.Maps Go.Sort Go.Shelf
open Go.Proofs Go.MuLone

/-- bytes that are read, from anywhere -/
def RdA (w : World) (sv : Value) (dat : List Int) : Prop := (sv = .slice none 0 0 ∧ dat = []) ∨ ∃ ad cap, sv = .slice (some ad) dat.length cap ∧ dat.length ≤ cap ∧ ∀ j x, dat[j]? = some x → w.cell? (ad.add j) = some (encB x)
theorem RdB.toA {w : World} {sv : Value} {dat : List Int} (h : RdB w sv dat) : RdA w sv dat := by
  rcases h with h | ⟨g, cap, e, hl, hc⟩
  · exact .inl h
  · refine .inr ⟨⟨g, 0, none⟩, cap, e, hl, fun j x hj => ?_⟩
    rw [Addr.add_lit, Nat.zero_add]
    exact hc j x hj
theorem add_block (a : Addr) (n : Nat) : (a.add n).block = a.block := by
  unfold Addr.add
  split <;> rfl
theorem RdA.far {w w1 : World} {S : Nat → Prop} {sv : Value} {dat : List Int} (h : RdA w sv dat) (hs : Same S w w1) (hb : ∀ k, sv.ownBlock = some k → dat ≠ [] → ¬ S k) : RdA w1 sv dat := by
  rcases h with h | ⟨ad, cap, rfl, hl, hc⟩
  · exact .inl h
  · refine .inr ⟨ad, cap, rfl, hl, fun j x hj => ?_⟩
    have h1 := hc j x hj
    have hlt : ad.block < w.heap.size := by
      by_cases hg : ad.block < w.heap.size
      · exact hg
      · have h2 : w.heap[ad.block]? = none := Array.getElem?_eq_none (by omega)
        simp [World.cell?, add_block, h2] at h1
    exact (World.cell?_of_block (a := ad.add j) (by rw [add_block]; exact hs.2.2.2.2 ad.block hlt (hb ad.block rfl fun e => by rw [e] at hj; simp at hj))).trans h1
theorem RdA.lt {w : World} {sv : Value} {dat : List Int} (h : RdA w sv dat) {k : Nat} (hk : sv.ownBlock = some k) (hd : dat ≠ []) : k < w.heap.size := by
  rcases h with ⟨_, h⟩ | ⟨ad, cap, rfl, hl, hc⟩
  · exact absurd h hd
  · cases hk
    obtain ⟨x, l, rfl⟩ := List.exists_cons_of_ne_nil hd
    have h1 := hc 0 x rfl
    by_cases hg : ad.block < w.heap.size
    · exact hg
    · have h2 : w.heap[ad.block]? = none := Array.getElem?_eq_none (by omega)
      simp [World.cell?, add_block, h2] at h1
def pat (j : Nat) : Int := 201 + (j : Int) % 50
def hB (dat : List Int) (j : Nat) : Int := (dat[j]?).getD (pat j)
/-- a hand at rest: its one field, and the row that lies there -/
structure HandIs (B : Nat) (w : World) (h : Nat) (A : Option Addr) (n0 : Nat) : Prop where
  blk : w.heap[h]? = some (.cells #[.slice A n0 n0] 27 (0, 0))
  row : (A = none ∧ n0 = 0) ∨ ∃ g cur, A = some ⟨g, 0, none⟩ ∧ B ≤ g ∧ w.heap[g]? = some (.cells cur 5 (0, 0)) ∧ n0 ≤ maxLen ∧ cur.size = n0
  low : B ≤ h
theorem HandIs.ne {B : Nat} {w : World} {h : Nat} {A : Option Addr} {n0 g : Nat} (hh : HandIs B w h A n0) (e : A = some ⟨g, 0, none⟩) : g ≠ h := by
  rcases hh.row with ⟨h1, _⟩ | ⟨g', cur, h1, h2, h3, _⟩
  · rw [h1] at e; cases e
  · rw [h1] at e
    cases e
    intro e2
    subst e2
    rw [hh.blk] at h3
    simp at h3
theorem hand_cut {B : Nat} {w : World} {h : Nat} {A : Option Addr} {n0 : Nat} (hh : HandIs B w h A n0) :
    (∀ W : World, (Instr.slice 25 (.slice A n0 n0) none (some (.int .i64 0)) none).run Tryz.prog W = .ok (.slice A 0 n0) W) ∧ w.ownsRow B 5 1 (.slice A 0 n0) 0 [] := by
  obtain ⟨i0, hi, hz0, hz1, hz2⟩ := info_parts info5
  refine ⟨fun W => ?_, rfl, ?_⟩
  · have h1 := YtancenklmfamnaaGreatW.PrintWords.cut_to (P := Tryz.prog) 25 5 .i64 Tryz.underlying25 hi A n0 n0 0 (by omega) (by omega) (Nat.le_refl _) W
    exact h1
  · rcases hh.row with ⟨rfl, rfl⟩ | ⟨g, cur, rfl, h2, h3, h4, h5⟩
    · exact .inl ⟨rfl, rfl⟩
    · exact .inr ⟨g, n0, cur, rfl, h2, h3, Nat.zero_le _, h4, by omega, by simp⟩
theorem app_bytes {B : Nat} {w : World} {v0 bv : Value} {n0 : Nat} {xs dat : List Int} (h : w.ownsRow B 5 1 v0 n0 (xs.map encB)) (hb : RdA w bv dat) (hlen : n0 + dat.length ≤ 140737488355328) (hB : B ≤ w.heap.size) (ty : TypeId) :
    ∃ v1 W1, (Builtin.append_ #[25, 25] ty #[v0, bv]).run Tryz.prog w = .ok v1 W1 ∧ W1.ownsRow B 5 1 v1 (n0 + dat.length) ((xs ++ dat).map encB) ∧ w.grownBy W1 v0.ownBlock ∧ (v1.ownBlock = v0.ownBlock ∨ v1.ownBlock = some w.heap.size) := by
  obtain ⟨i0, hi, hz0, hz1, hz2⟩ := info_parts info5
  rcases hb with ⟨rfl, rfl⟩ | ⟨ad, cap, rfl, hc, hcell⟩
  · have := run_append_owned_none (P := Tryz.prog) (w := w) B 25 ty 5 i0 1 Tryz.underlying25 hi v0 n0 _ h
    exact ⟨v0, w, this, by simpa using h, World.grownBy.refl _ _, .inl rfl⟩
  · obtain ⟨v1, W1, h1, h2, h3, _, h5⟩ := run_append_own_at (P := Tryz.prog) w B 25 ty 5 i0 (.int .u8 0) 1 1 Tryz.underlying25 hi hz0 hz1 hz2 rfl (by decide) v0 n0 _ h ad dat.length cap (dat.map encB) (by simp) (fun j u hj => by
      rw [List.getElem?_map] at hj
      obtain ⟨x, hx, rfl⟩ := Option.map_eq_some_iff.1 hj
      exact hcell j x hx) (fun u hu => by obtain ⟨_, _, rfl⟩ := List.mem_map.1 hu; rfl) (by unfold maxLen; omega) (by omega) hB
    exact ⟨v1, W1, h1, by rw [List.map_append]; exact h2, h3, h5⟩
/-- in the loop that fills -/
structure HFill (WL wr : World) (g n cap i : Nat) (dat : List Int) : Prop where
  blk : ∃ cur, wr.heap[g]? = some (.cells cur 5 (0, 0)) ∧ cur.size = cap ∧ ∀ j, j < i → cur[j]? = some (encB (hB dat j))
  same : Same (fun k => k = g) WL wr
theorem HFill.next {WL wr : World} {g n cap i : Nat} {dat : List Int} (h : HFill WL wr g n cap i dat) (hi : i < cap) : HFill WL (wr.setCell ⟨g, i, none⟩ (encB (hB dat i))) g n cap (i + 1) dat := by
  obtain ⟨⟨cur, h1, h2, h3⟩, hs⟩ := h
  refine ⟨⟨_, YtancenklmfamnaaGreatW.PrintWords.blk_set h1 i _, by simpa using h2, fun j hj => ?_⟩, hs.trans (Same.set _ _ _ rfl)⟩
  by_cases e : j = i
  · subst e
    simp [h2, hi]
  · rw [Array.getElem?_setIfInBounds_ne (fun e2 => e e2.symm)]
    exact h3 j (by omega)
theorem HFill.cell {WL wr : World} {g n cap i : Nat} {dat : List Int} (h : HFill WL wr g n cap i dat) {j : Nat} (hj : j < cap) : (∃ u, wr.cell? ⟨g, j, none⟩ = some u) ∧ wr.frozen? ⟨g, j, none⟩ = false := by
  obtain ⟨⟨cur, h1, h2, h3⟩, hs⟩ := h
  refine ⟨⟨cur[j]'(by omega), ?_⟩, Lib.frozen_of_heap h1 _⟩
  rw [Lib.cell_of_heap h1]
  exact Array.getElem?_eq_getElem (by omega)
theorem hB_pat {dat : List Int} {i : Nat} (h : dat.length ≤ i) : hB dat i = pat i := by
  unfold hB
  rw [List.getElem?_eq_none h]
  rfl
/-- bytes lie in the hand -/
structure Held (B : Nat) (w : World) (h g cap : Nat) (dat : List Int) : Prop where
  blk : w.heap[h]? = some (.cells #[.slice (some ⟨g, 0, none⟩) cap cap] 27 (0, 0))
  row : ∃ cur, w.heap[g]? = some (.cells cur 5 (0, 0)) ∧ cur.size = cap ∧ ∀ j, j < cap → cur[j]? = some (encB (hB dat j))
  low : B ≤ h ∧ B ≤ g
  cap : dat.length ≤ cap ∧ cap ≤ maxLen
  ne : g ≠ h
def BytesP (B h : Nat) (A : Option Addr) (n0 : Nat) (w : World) (dat : List Int) (n : Nat) (e : Ending) (w' : World) : Prop :=
  ∃ g cap, e = .returned (.slice (some ⟨g, 0, none⟩) n cap) ∧ Held B w' h g cap dat ∧ ((Value.slice A n0 n0).ownBlock = some g ∨ w.heap.size ≤ g) ∧ Same (fun k => k = h ∨ (Value.slice A n0 n0).ownBlock = some k) w w'
set_option maxHeartbeats 8000000 in
set_option maxRecDepth 1000000 in
theorem bytes_any (B h : Nat) (A : Option Addr) (n0 : Nat) (w : World) (hh : HandIs B w h A n0) (bv : Value) (dat : List Int) (n cb : Nat) (Ab : Option Addr) (hbv : bv = .slice Ab n cb) (hdn : dat.length = n) (hb : RdA w bv dat) (hbo : ∀ k, bv.ownBlock = some k → dat ≠ [] → k ≠ h ∧ (Value.slice A n0 n0).ownBlock ≠ some k) (hn : dat.length ≤ 140737488351232) :
    Calls Tryz.prog 22 #[.pointer (some ⟨h, 0, none⟩), bv] w fun e w' => BytesP B h A n0 w dat n e w' := by
  subst hbv
  have c0 : w.cell? ⟨h, 0, none⟩ = some (.slice A n0 n0) := by rw [Lib.cell_of_heap hh.blk]; rfl
  have f0 : w.frozen? ⟨h, 0, none⟩ = false := Lib.frozen_of_heap hh.blk _
  have HH := Lib.hid hh
  have HB := Lib.hid hb
  have HBO := Lib.hid hbo
  clear hh hb hbo
  go_enter Tryz.func22, Tryz.ntmps22
  go_upto_if 17 with (fail)
  go_cut [] from 18 to 20 (fun wc => ∃ A' n', Hid (HandIs B wc h A' n') ∧ Hid (Same (fun k => k = h) w wc ∧ wc.heap.size = w.heap.size) ∧ (A' = A ∨ A' = none))
  case first =>
    by_cases hc : (n : Int) + 70000 < (n0 : Int)
    · go_wp2
      go_meet
      case rel =>
        refine ⟨none, 0, Lib.hid ⟨?_, .inl ⟨rfl, rfl⟩, HH.out.low⟩, Lib.hid ⟨Same.set _ _ _ rfl, by simp [World.setCell]⟩, .inr rfl⟩
        have := YtancenklmfamnaaGreatW.PrintWords.blk_set HH.out.blk 0 (.slice none 0 0)
        simpa using this
    · go_wp2
      go_meet
      case rel => exact ⟨A, n0, HH, Lib.hid ⟨Same.refl _, rfl⟩, .inl rfl⟩
  case rest =>
  obtain ⟨A', n', H1, S1, hA'⟩ := hcut
  clear c0 f0
  have c0 : wc.cell? ⟨h, 0, none⟩ = some (.slice A' n' n') := by rw [Lib.cell_of_heap H1.out.blk]; rfl
  obtain ⟨hsl, hown⟩ := hand_cut H1.out
  have hbw : RdA wc (.slice Ab n cb) dat := HB.out.far S1.out.1 fun k hk hd e => (HBO.out k hk hd).1 e
  have hBw : B ≤ wc.heap.size := Nat.le_trans H1.out.low (Nat.le_of_lt (Array.getElem?_eq_some_iff.1 H1.out.blk).1)
  obtain ⟨v1, W1, r1, o1, g1, at1⟩ := app_bytes (xs := []) hown hbw (by omega) hBw 25
  obtain ⟨v2, W2, r2, o2, g2, at2⟩ := app_bytes (o1.alloc (.cells #[.int .u8 0, .int .u8 0, .int .u8 0] 5)) (RdB.blk (g := W1.heap.size) (dat := [0, 0, 0]) (cap := 3) (alloc_is W1 _) (by decide)).toA (by simp; omega) (by have := g1.size; simp; omega) 25
  have hl2 : n + 3 = 0 + dat.length + [(0 : Int), 0, 0].length := by simp; omega
  rcases o2.2 with ⟨_, h0⟩ | ⟨g, cap, cur, rfl, hBg, hcur, hnc, hcm, hsz, htake⟩
  · simp at h0
  rw [← hl2] at hnc htake r2
  have hal := at1
  have hgb : A'.map (·.block) = some g ∨ wc.heap.size ≤ g := by
    have e1 : ∀ (A : Option Addr) (a b : Nat), (Value.slice A a b).ownBlock = A.map (·.block) := fun A a b => by cases A <;> rfl
    rcases at2 with e | e
    · rcases at1 with e2 | e2
      · left
        rw [← e1 A' 0 n', ← e2, ← e]
        rfl
      · right
        rw [e2] at e
        cases e
        exact Nat.le_refl _
    · right
      have := g1.size
      cases e
      simp
      omega
  have hF : HFill W2 W2 g n cap n dat := by
    refine ⟨⟨cur, hcur, by omega, fun j hj => ?_⟩, Same.refl _⟩
    have h1 : (cur.toList.take ((n + 3) * 1))[j]? = (([] ++ dat ++ [0, 0, 0]).map encB)[j]? := by rw [htake]
    rw [List.getElem?_take_of_lt (by omega), Array.getElem?_toList] at h1
    rw [h1, List.getElem?_map, List.nil_append, List.getElem?_append_left (by omega)]
    unfold hB
    rw [List.getElem?_eq_getElem (by omega)]
    rfl
  have HF := Lib.hid hF
  have hcm' : cap ≤ 9223372036854775807 := by unfold maxLen at hcm; omega
  have hB0 : g ≠ h := by
    rcases hgb with e | e
    · rcases H1.out.row with ⟨e1, _⟩ | ⟨g', _, e1, _⟩
      · rw [e1] at e; cases e
      · rw [e1] at e
        cases e
        exact H1.out.ne e1
    · have := (Array.getElem?_eq_some_iff.1 H1.out.blk).1
      omega
  have hAA : ∀ k, A'.map (·.block) = some k → (Value.slice A n0 n0).ownBlock = some k := fun k e => by
    rcases hA' with rfl | rfl
    · cases A' with
      | none => cases e
      | some a => exact e
    · cases e
  have hSS : Same (fun k => k = h ∨ (Value.slice A n0 n0).ownBlock = some k) w W2 := by
    have e1 : ∀ (A : Option Addr) (a b : Nat), (Value.slice A a b).ownBlock = A.map (·.block) := fun A a b => by cases A <;> rfl
    have s0 := S1.out.1
    refine ⟨g2.os.trans (g1.os.trans s0.1), g2.tape.trans (g1.tape.trans s0.2.1), g2.output.trans (g1.output.trans s0.2.2.1), ?_, fun k hk hS => ?_⟩
    · have h1 := s0.2.2.2.1
      have h2 := g1.size
      have h3 := g2.size
      simp at h3
      omega
    · have hkA : ∀ k', A'.map (·.block) = some k' → k ≠ k' := fun k' e e2 => hS (.inr (by rw [e2]; exact hAA k' e))
      have hk1 : k < wc.heap.size := by rw [S1.out.2]; exact hk
      have hk2 : k < W1.heap.size := Nat.lt_of_lt_of_le hk1 g1.size
      have h1 : W1.heap[k]? = wc.heap[k]? := g1.block k hk1 fun e => by
        rw [e1] at e
        exact hkA k e.symm rfl
      have h2 : W2.heap[k]? = (W1.alloc (.cells #[.int .u8 0, .int .u8 0, .int .u8 0] 5)).heap[k]? := g2.block k (by simp; omega) fun e => by
        rcases at1 with e2 | e2
        · rw [e2, e1] at e
          exact hkA k e.symm rfl
        · rw [e2] at e
          cases e
          omega
      rw [h2, Below.heap_alloc W1 _ k hk2, h1]
      exact s0.2.2.2.2 k hk fun e => hS (.inl e)
  have hblk2 : W2.heap[h]? = some (.cells #[.slice A' n' n'] 27 (0, 0)) := by
    have e1 : ∀ (A : Option Addr) (a b : Nat), (Value.slice A a b).ownBlock = A.map (·.block) := fun A a b => by cases A <;> rfl
    have hh1 := (Array.getElem?_eq_some_iff.1 H1.out.blk).1
    have hkA : ∀ k', A'.map (·.block) = some k' → h ≠ k' := fun k' e e2 => by
      rcases H1.out.row with ⟨e3, _⟩ | ⟨g', _, e3, _⟩
      · rw [e3] at e; cases e
      · rw [e3] at e
        cases e
        exact H1.out.ne e3 e2.symm
    have h1 : W1.heap[h]? = wc.heap[h]? := g1.block h hh1 fun e => by
      rw [e1] at e
      exact hkA h e.symm rfl
    have h2 : W2.heap[h]? = (W1.alloc (.cells #[.int .u8 0, .int .u8 0, .int .u8 0] 5)).heap[h]? := g2.block h (by have := g1.size; simp; omega) fun e => by
      rcases at1 with e2 | e2
      · rw [e2, e1] at e
        exact hkA h e.symm rfl
      · rw [e2] at e
        cases e
        omega
    rw [h2, Below.heap_alloc W1 _ h (Nat.lt_of_lt_of_le hh1 g1.size), h1]
    exact H1.out.blk
  have HX := Lib.hid (And.intro hgb (And.intro hB0 (And.intro hAA (And.intro hSS hblk2))))
  clear hbw hF hgb hB0 hAA hSS hblk2 hal htake
  go_wp2_with (at_builtin; (first
    | refine wpList_append_run' rfl _ _ 25 rfl _ _ rfl rfl v1 W1 r1 ?_
    | refine wpList_append_run' rfl _ _ 25 rfl _ _ rfl rfl _ W2 r2 ?_))
  go_loopw [7] (fun v7 wr => ∃ i : Nat, n ≤ i ∧ i ≤ cap ∧ v7 = .int .i64 i ∧ Hid (HFill W2 wr g n cap i dat)) (fun v7 _ => cap - (intOf v7).toNat)
  case atStart => exact ⟨n, Nat.le_refl _, by omega, rfl, HF⟩
  case round =>
    obtain ⟨i, hi1, hi2, rfl, HM⟩ := hrel
    by_cases hlt : i < cap
    · obtain ⟨⟨u, hcu⟩, hfr⟩ := HM.out.cell hlt
      have hHN := HM.out.next hlt
      rw [hB_pat (dat := dat) (by omega : dat.length ≤ i)] at hHN
      have HN := Lib.hid hHN
      clear hHN
      go_wp2_with fail
      go_roundw
      case rel => exact ⟨i + 1, by omega, by omega, by go_num, HN⟩
      case measure => simp [intOf]; omega
    · obtain rfl : i = cap := by omega
      have hbr : wr.heap[h]? = some (.cells #[.slice A' n' n'] 27 (0, 0)) := HM.out.same.at HX.out.2.2.2.2 fun e => HX.out.2.1 e.symm
      have c1 : wr.cell? ⟨h, 0, none⟩ = some (.slice A' n' n') := by rw [Lib.cell_of_heap hbr]; rfl
      have f1 : wr.frozen? ⟨h, 0, none⟩ = false := Lib.frozen_of_heap hbr _
      have HBR := Lib.hid hbr
      have hni : n ≤ i := by omega
      clear hbr
      go_wp2
      go_ret
      obtain ⟨h1, h2, h3, h4, h5⟩ := HX.out
      obtain ⟨⟨cur2, k1, k2, k3⟩, ks⟩ := HM.out
      refine ⟨g, i, rfl, ⟨?_, ⟨cur2, ?_, k2, k3⟩, ⟨H1.out.low, hBg⟩, ⟨by omega, hcm⟩, h2⟩, ?_, ?_⟩
      · have := YtancenklmfamnaaGreatW.PrintWords.blk_set HBR.out 0 (.slice (some ⟨g, 0, none⟩) i i)
        simpa using this
      · rw [Below.heap_setCell wr ⟨h, 0, none⟩ _ g h2]
        exact k1
      · rcases h1 with e | e
        · exact .inl (h3 g e)
        · exact .inr (by rw [S1.out.2] at e; exact e)
      · refine ⟨ks.1.trans h4.1, ks.2.1.trans h4.2.1, ks.2.2.1.trans h4.2.2.1, ?_, fun k hk hS => ?_⟩
        · have := ks.2.2.2.1
          have := h4.2.2.2.1
          simp [World.setCell]
          omega
        · have hkg : k ≠ g := fun e => by
            subst e
            rcases h1 with e | e
            · exact hS (.inr (h3 k e))
            · rw [S1.out.2] at e
              omega
          rw [Below.heap_setCell wr ⟨h, 0, none⟩ _ k fun e => hS (.inl e), ks.2.2.2.2 k (Nat.lt_of_lt_of_le hk h4.2.2.2.1) hkg]
          exact h4.2.2.2.2 k hk hS
/-- in the loop that looks -/
structure HLook (w wr : World) (g cap i : Nat) (dat : List Int) : Prop where
  blk : ∃ cur, wr.heap[g]? = some (.cells cur 5 (0, 0)) ∧ cur.size = cap ∧ ∀ j, i ≤ j → j < cap → cur[j]? = some (encB (hB dat j))
  same : Same (fun k => k = g) w wr
theorem HLook.next {w wr : World} {g cap i : Nat} {dat : List Int} (h : HLook w wr g cap i dat) (hi : i < cap) (x : Value) : HLook w (wr.setCell ⟨g, i, none⟩ x) g cap (i + 1) dat := by
  obtain ⟨⟨cur, h1, h2, h3⟩, hs⟩ := h
  refine ⟨⟨_, YtancenklmfamnaaGreatW.PrintWords.blk_set h1 i _, by simpa using h2, fun j hj hj2 => ?_⟩, hs.trans (Same.set _ _ _ rfl)⟩
  rw [Array.getElem?_setIfInBounds_ne (by omega)]
  exact h3 j (by omega) hj2
theorem HLook.cell {w wr : World} {g cap i : Nat} {dat : List Int} (h : HLook w wr g cap i dat) (hi : i < cap) : wr.cell? ⟨g, i, none⟩ = some (encB (hB dat i)) ∧ wr.frozen? ⟨g, i, none⟩ = false := by
  obtain ⟨⟨cur, h1, h2, h3⟩, hs⟩ := h
  refine ⟨?_, Lib.frozen_of_heap h1 _⟩
  rw [Lib.cell_of_heap h1]
  exact h3 i (Nat.le_refl _) hi
theorem hB_in {dat : List Int} {i : Nat} {x : Int} (h : dat[i]? = some x) : hB dat i = x := by
  unfold hB
  rw [h]
  rfl
set_option maxHeartbeats 8000000 in
set_option maxRecDepth 1000000 in
theorem kept_any (B h g cap : Nat) (w : World) (dat : List Int) (hh : Held B w h g cap dat) (n cb : Nat) (Ab : Option Addr) (hdn : dat.length = n) (hb : RdA w (.slice Ab n cb) dat) (hbo : ∀ k, (Value.slice Ab n cb).ownBlock = some k → dat ≠ [] → k ≠ g) :
    Calls Tryz.prog 26 #[.pointer (some ⟨h, 0, none⟩), .slice Ab n cb] w fun e w' => e = .returned (.bool true) ∧ HandIs B w' h (some ⟨g, 0, none⟩) cap ∧ Same (fun k => k = g) w w' := by
  have hcm : cap ≤ 9223372036854775807 := by have := hh.cap.2; unfold maxLen at this; omega
  have HL0 : Hid (HLook w w g cap 0 dat) := Lib.hid ⟨by obtain ⟨cur, h1, h2, h3⟩ := hh.row; exact ⟨cur, h1, h2, fun j _ hj => h3 j hj⟩, Same.refl _⟩
  have HH := Lib.hid hh
  have HB := Lib.hid hb
  have HBO := Lib.hid hbo
  clear hh hb hbo
  go_enter Tryz.func26, Tryz.ntmps26
  go_wp2_with fail
  go_loopw [5, 6] (fun v5 v6 wr => ∃ i : Nat, i ≤ cap ∧ v5 = .bool true ∧ v6 = .int .i64 i ∧ Hid (HLook w wr g cap i dat)) (fun _ v6 _ => cap - (intOf v6).toNat)
  case atStart => exact ⟨0, by omega, rfl, rfl, HL0⟩
  case round =>
    obtain ⟨i, hi, rfl, rfl, HM⟩ := hrel
    have hbr : wr.heap[h]? = some (.cells #[.slice (some ⟨g, 0, none⟩) cap cap] 27 (0, 0)) := HM.out.same.at HH.out.blk fun e => HH.out.ne e.symm
    have c1 : wr.cell? ⟨h, 0, none⟩ = some (.slice (some ⟨g, 0, none⟩) cap cap) := by rw [Lib.cell_of_heap hbr]; rfl
    by_cases hlt : i < cap
    · obtain ⟨c2, f2⟩ := HM.out.cell hlt
      have HN := Lib.hid (HM.out.next hlt (.int .u8 238))
      clear hbr
      by_cases hin : i < n
      · obtain ⟨x, hx⟩ : ∃ x, dat[i]? = some x := ⟨_, List.getElem?_eq_getElem (by omega)⟩
        have hrr : RdA wr (.slice Ab n cb) dat := HB.out.far HM.out.same fun k hk hd e => HBO.out k hk hd e
        obtain ⟨ad, rfl, c3⟩ : ∃ ad : Addr, Ab = some ad ∧ wr.cell? (ad.add i) = some (encB x) := by
          rcases hrr with ⟨e1, e2⟩ | ⟨b, cap2, e1, _, hc⟩
          · rw [e2] at hx; cases hx
          · injection e1 with e1 _ _
            exact ⟨b, e1, hc i x hx⟩
        rw [hB_in hx] at c2
        clear hrr hx
        go_wp2
        go_roundw
        case rel => exact ⟨i + 1, by omega, by simp, by go_num, HN⟩
        case measure => simp [intOf]; omega
      · rw [hB_pat (by omega)] at c2
        unfold pat at c2
        go_wp2
        go_roundw
        case rel => exact ⟨i + 1, by omega, by simp, by go_num, HN⟩
        case measure => simp [intOf]; omega
    · obtain rfl : i = cap := by omega
      have HBR := Lib.hid hbr
      clear hbr
      go_wp2
      go_ret
      obtain ⟨cur, h1, h2, h3⟩ := HM.out.blk
      exact ⟨rfl, ⟨HBR.out, .inr ⟨g, cur, rfl, HH.out.low.2, h1, HH.out.cap.2, h2⟩, HH.out.low.1⟩, HM.out.same⟩
end Go.Proofs.YtancenklmfamnaaGreat.Sh
namespace Go.Proofs.YtancenklmfamnaaGreat.Sh
open Go.RowKit Go.Maps Go.Sort Go.Shelf
open Go.Proofs Go.MuLone
open Go.Proofs.YtancenklmfamnaaGreatW.PrintWords (Reps OwnRow)

/-- one model more, or no room -/
def Put1 (L L' : Lay) (nm : ByteArray) (ver : Int) (dat : List Int) (err : Int) : Prop :=
  (err = 4 ∧ NoRoom L nm dat.length ∧ L' = L) ∨ (err = 0 ∧ ¬ NoRoom L nm dat.length ∧ ∃ i new, Laid L L' nm ver dat i new)
def PutR (L L' : Lay) (nm : ByteArray) (dat : List Int) (v err : Int) : Prop :=
  (Nm.nameOk nm = false ∧ v = 0 ∧ err = 50 ∧ L' = L) ∨ (Nm.nameOk nm = true ∧ 16777216 < dat.length ∧ v = 0 ∧ err = 2 ∧ L' = L) ∨
  (Nm.nameOk nm = true ∧ dat.length ≤ 16777216 ∧ (L.lastOf nm).getD 0 = 4611686018427387904 ∧ v = 0 ∧ err = 4 ∧ L' = L) ∨
  (Nm.nameOk nm = true ∧ dat.length ≤ 16777216 ∧ (L.lastOf nm).getD 0 < 4611686018427387904 ∧ v = (if err = 0 then (L.lastOf nm).getD 0 + 1 else 0) ∧ Put1 L L' nm ((L.lastOf nm).getD 0 + 1) dat err)
def LayR (L L' : Lay) (nm : ByteArray) (ver : Int) (dat : List Int) (err : Int) : Prop :=
  (Nm.nameOk nm = false ∧ err = 50 ∧ L' = L) ∨ (Nm.nameOk nm = true ∧ (ver < 1 ∨ 4611686018427387904 < ver) ∧ err = 270 ∧ L' = L) ∨
  (Nm.nameOk nm = true ∧ (1 ≤ ver ∧ ver ≤ 4611686018427387904) ∧ 16777216 < dat.length ∧ err = 2 ∧ L' = L) ∨
  (Nm.nameOk nm = true ∧ (1 ≤ ver ∧ ver ≤ 4611686018427387904) ∧ dat.length ≤ 16777216 ∧ (L.modOf nm ver).isSome = true ∧ err = 5 ∧ L' = L) ∨
  (Nm.nameOk nm = true ∧ (1 ≤ ver ∧ ver ≤ 4611686018427387904) ∧ dat.length ≤ 16777216 ∧ L.modOf nm ver = none ∧ Put1 L L' nm ver dat err)
/-- what is told of a call: bytes, version, list, error; the shelf behind it -/
def ToldR (kind : Int) (nm : ByteArray) (ver : Int) (dat : List Int) (L L' : Lay) (tdat : List Int) (tv : Int) (tl : List LM) (te : Int) : Prop :=
  if kind = 1 then tdat = [] ∧ tl = [] ∧ PutR L L' nm dat tv te
  else if kind = 2 then tdat = [] ∧ tv = 0 ∧ tl = [] ∧ LayR L L' nm ver dat te
  else if kind = 3 then tl = [] ∧ L' = (L.take nm ver).1 ∧ te = (L.take nm ver).2.2 ∧ tdat = ((L.take nm ver).2.1.map (·.dat)).getD [] ∧ tv = ((L.take nm ver).2.1.map (·.ver)).getD 0
  else if kind = 4 then tdat = [] ∧ tv = 0 ∧ tl = [] ∧ L' = (L.give nm ver).1 ∧ te = (L.give nm ver).2
  else if kind = 5 then tdat = [] ∧ tv = 0 ∧ tl = [] ∧ L' = (L.dropM nm ver).1 ∧ te = (L.dropM nm ver).2
  else if kind = 6 then tdat = [] ∧ tv = 0 ∧ tl = sortedN L ∧ L' = L ∧ te = 0
  else tdat = [] ∧ tv = 0 ∧ tl = [] ∧ L' = L ∧ te = 0
section
variable {B p : Nat} {w : World} {L : Lay}
theorem put_R (h : Rest B w p L) (htc : L.touch < 4611686018427387904) (nm : ByteArray) (hnm : nm.size ≤ 140737488355328) (sv : Value) (dat : List Int) (hrow : RdB w sv dat) (hdl : dat.length ≤ 140737488355328) (hsv : ∀ k, sv.ownBlock = some k → ¬ Owned p L k) :
    Calls Tryz.prog 19 #[.pointer (some ⟨p, 0, none⟩), .string nm, sv] w fun e w' => ∃ v err L', e = .returned (.tuple #[.int .i64 v, .int .i64 err]) ∧ PutR L L' nm dat v err ∧ Step B w w' p L L' ∧ Rest B w' p L' := by
  refine (put_any B p L w h.is h.good h.lk htc nm hnm sv dat 0 hrow hdl hsv).mono fun e w' hP => ?_
  rcases hP with ⟨h1, he, st⟩ | ⟨h0, h1, he, st⟩ | ⟨h0, h1, h2, he, st⟩ | ⟨h0, h1, h2, err, he, hP⟩
  · exact ⟨_, _, L, he, .inl ⟨h1, rfl, rfl, rfl⟩, st, ⟨st.is, h.good, h.lk⟩⟩
  · exact ⟨_, _, L, he, .inr (.inl ⟨h0, h1, rfl, rfl, rfl⟩), st, ⟨st.is, h.good, h.lk⟩⟩
  · exact ⟨_, _, L, he, .inr (.inr (.inl ⟨h0, h1, h2, rfl, rfl, rfl⟩)), st, ⟨st.is, h.good, h.lk⟩⟩
  · rcases hP with ⟨rfl, st, hn⟩ | ⟨rfl, hn, L', i, new, st, g, h3, h4, h5, h6, h7, h8, h9, h10, h11, h12, h13⟩
    · exact ⟨_, _, L, he, .inr (.inr (.inr ⟨h0, h1, h2, rfl, .inl ⟨rfl, hn, rfl⟩⟩)), st, ⟨st.is, h.good, h.lk⟩⟩
    · exact ⟨_, _, L', he, .inr (.inr (.inr ⟨h0, h1, h2, rfl, .inr ⟨rfl, hn, i, new, ⟨h3, h4, h5, h6, h7, h8, h9, h10, h11, h12⟩⟩⟩)), st, ⟨st.is, g, h13.trans h.lk⟩⟩
theorem lay_R (h : Rest B w p L) (htc : L.touch < 4611686018427387904) (nm : ByteArray) (hnm : nm.size ≤ 140737488355328) (ver : Int) (hvw : (Lit.int .i64 ver).wf = true) (sv : Value) (dat : List Int) (hrow : RdB w sv dat) (hdl : dat.length ≤ 140737488355328) (hsv : ∀ k, sv.ownBlock = some k → ¬ Owned p L k) :
    Calls Tryz.prog 23 #[.pointer (some ⟨p, 0, none⟩), .string nm, .int .i64 ver, sv] w fun e w' => ∃ err L', e = .returned (.int .i64 err) ∧ LayR L L' nm ver dat err ∧ Step B w w' p L L' ∧ Rest B w' p L' := by
  refine (layM_any B p L w h.is h.good h.lk htc nm hnm ver hvw sv dat 0 hrow hdl hsv).mono fun e w' hP => ?_
  obtain ⟨err, he, hP⟩ := hP
  rcases hP with ⟨h1, rfl, st⟩ | ⟨h0, h1, rfl, st⟩ | ⟨h0, h1, h2, rfl, st⟩ | ⟨h0, h1, h2, h3, rfl, st⟩ | ⟨h0, h1, h2, h3, hP⟩
  · exact ⟨_, L, he, .inl ⟨h1, rfl, rfl⟩, st, ⟨st.is, h.good, h.lk⟩⟩
  · exact ⟨_, L, he, .inr (.inl ⟨h0, h1, rfl, rfl⟩), st, ⟨st.is, h.good, h.lk⟩⟩
  · exact ⟨_, L, he, .inr (.inr (.inl ⟨h0, h1, h2, rfl, rfl⟩)), st, ⟨st.is, h.good, h.lk⟩⟩
  · exact ⟨_, L, he, .inr (.inr (.inr (.inl ⟨h0, h1, h2, h3, rfl, rfl⟩))), st, ⟨st.is, h.good, h.lk⟩⟩
  · rcases hP with ⟨rfl, st, hn⟩ | ⟨rfl, hn, L', i, new, st, g, h4, h5, h6, h7, h8, h9, h10, h11, h12, h13, h14⟩
    · exact ⟨_, L, he, .inr (.inr (.inr (.inr ⟨h0, h1, h2, h3, .inl ⟨rfl, hn, rfl⟩⟩))), st, ⟨st.is, h.good, h.lk⟩⟩
    · exact ⟨_, L', he, .inr (.inr (.inr (.inr ⟨h0, h1, h2, h3, .inr ⟨rfl, hn, i, new, ⟨h4, h5, h6, h7, h8, h9, h10, h11, h12, h13⟩⟩⟩))), st, ⟨st.is, g, h14.trans h.lk⟩⟩
theorem give_R (h : Rest B w p L) (nm : ByteArray) (hnm : nm.size ≤ maxLen) (v : Int) (hv : (Lit.int .i64 v).wf = true) :
    Calls Tryz.prog 24 #[.pointer (some ⟨p, 0, none⟩), .string nm, .int .i64 v] w fun e w' => e = .returned (.int .i64 (L.give nm v).2) ∧ Step B w w' p L (L.give nm v).1 ∧ Rest B w' p (L.give nm v).1 := by
  refine (give_any B p L w h.is h.good h.lk nm hnm v hv).mono fun e w' ⟨he, st⟩ => ⟨he, st, st.is, ?_, ?_⟩
  · unfold Lay.give
    split
    · exact h.good
    · rename_i m hf
      split
      · exact h.good
      · have := h.good.used m (find_mem hf).1
        exact h.good.gave (find_mem hf).1 (by omega)
  · unfold Lay.give
    split
    · exact h.lk
    · split <;> exact h.lk
theorem drop_R (h : Rest B w p L) (nm : ByteArray) (hnm : nm.size ≤ maxLen) (v : Int) (hv : (Lit.int .i64 v).wf = true) :
    Calls Tryz.prog 25 #[.pointer (some ⟨p, 0, none⟩), .string nm, .int .i64 v] w fun e w' => e = .returned (.int .i64 (L.dropM nm v).2) ∧ Step B w w' p L (L.dropM nm v).1 ∧ Rest B w' p (L.dropM nm v).1 := by
  refine (drop_any B p L w h.is h.good h.lk nm hnm v hv).mono fun e w' ⟨he, st⟩ => ⟨he, st, st.is, ?_, ?_⟩
  · unfold Lay.dropM
    split
    · exact h.good
    · rename_i m hf
      split
      · exact h.good
      · exact h.good.rem h.is.blks (find_mem hf).1
  · unfold Lay.dropM
    split
    · exact h.lk
    · split
      · exact h.lk
      · rename_i m hf _
        exact ((rem_same L m).2.2.2.2.1).trans h.lk
theorem take_R (h : Rest B w p L) (htc : L.touch < 4611686018427387904) (nm : ByteArray) (hnm : nm.size ≤ maxLen) (v : Int) (hv : (Lit.int .i64 v).wf = true) :
    Calls Tryz.prog 20 #[.pointer (some ⟨p, 0, none⟩), .string nm, .int .i64 v] w fun e w' => ∃ v', e = .returned (.tuple #[v', .int .i64 (((L.take nm v).2.1.map (·.ver)).getD 0), .int .i64 (L.take nm v).2.2]) ∧ RdB w' v' (((L.take nm v).2.1.map (·.dat)).getD []) ∧
      (∀ k, v'.ownBlock = some k → w.heap.size ≤ k ∧ ¬ Foot p (L.take nm v).1 k ∧ k < w'.heap.size) ∧ Step B w w' p L (L.take nm v).1 ∧ Rest B w' p (L.take nm v).1 ∧ w'.ownsRow w.heap.size 5 1 v' (((L.take nm v).2.1.map (·.dat)).getD []).length ((((L.take nm v).2.1.map (·.dat)).getD []).map encB) := by
  refine (take_any B p L w h.is h.good h.lk htc nm hnm v hv).mono fun e w' hP => ?_
  unfold TakeP at hP
  cases hf : (L.find nm v true).1 with
  | none =>
    have ht : L.take nm v = (L, none, (L.find nm v true).2) := by unfold Lay.take; rw [hf]
    rw [ht] at hP ⊢
    obtain ⟨st, he⟩ := hP
    refine ⟨_, he, RdB.nil _, ?_, st, ⟨st.is, h.good, h.lk⟩, World.ownsRow_nil _ _ _ _⟩
    intro k hk
    cases hk
  | some m =>
    by_cases hu : m.used = 2147483647
    · have ht : L.take nm v = (L, none, 4) := by unfold Lay.take; rw [hf]; simp only; rw [if_pos hu]
      rw [ht] at hP ⊢
      obtain ⟨st, he⟩ := hP
      refine ⟨_, he, RdB.nil _, ?_, st, ⟨st.is, h.good, h.lk⟩, World.ownsRow_nil _ _ _ _⟩
      intro k hk
      cases hk
    · have ht : L.take nm v = (L.took m, some m, 0) := by
        unfold Lay.take
        rw [hf]
        simp only [Lay.took]
        rw [if_neg hu, takeF_eq]
      rw [ht] at hP ⊢
      obtain ⟨st, v', he, hr, hfo⟩ := hP
      have hm := (find_mem hf).1
      have := h.good.used m hm
      refine ⟨v', he, RdB.of_row hr, ?_, st, ⟨st.is, h.good.took h.is.blks hm (by omega), h.lk⟩, hr⟩
      intro k hk
      obtain ⟨h1, cur, hc⟩ := row_ty hr hk
      exact ⟨h1, hfo k hk, (Array.getElem?_eq_some_iff.1 hc).1⟩
end
end Go.Proofs.YtancenklmfamnaaGreat.Sh
namespace Go.Proofs.YtancenklmfamnaaGreat.Sh
open Go.RowKit Go.Maps Go.Sort Go.Shelf
open Go.Proofs Go.MuLone
open Go.Proofs.YtancenklmfamnaaGreatW.PrintWords (Reps OwnRow)
/-- all at rest: the shelf, the hand -/
structure At (B : Nat) (w : World) (p : Nat) (L : Lay) (h : Nat) (A : Option Addr) (n0 : Nat) : Prop where
  rest : Rest B w p L
  hand : HandIs B w h A n0
  off : ¬ Foot p L h ∧ ∀ k, A.map (·.block) = some k → ¬ Foot p L k
def Foot2 (p : Nat) (L : Lay) (h : Nat) (A : Option Addr) (k : Nat) : Prop := Foot p L k ∨ k = h ∨ A.map (·.block) = some k
/-- from world to world: what was written, and where all lies now -/
def Move (w w' : World) (p : Nat) (L L' : Lay) (h : Nat) (A A' : Option Addr) : Prop :=
  Same (fun k => Owned p L k ∨ k = h ∨ A.map (·.block) = some k) w w' ∧ ∀ k, Foot2 p L' h A' k → Foot2 p L h A k ∨ w.heap.size ≤ k
abbrev opC (kind which : Int) (nm : ByteArray) (ver : Int) (bv : Value) : Array Value := #[.int .i64 kind, .int .i64 which, .string nm, .int .i64 ver, bv]
abbrev tdC (tb : Value) (tv : Int) (tl : Value) (te : Int) : Array Value := #[tb, .int .i64 tv, tl, .int .i64 te]
theorem block_map (A : Option Addr) (a b : Nat) : (Value.slice A a b).ownBlock = A.map (·.block) := by cases A <;> rfl
theorem Rest.off {B p : Nat} {w w' : World} {L : Lay} {S : Nat → Prop} (h : Rest B w p L) (hs : Same S w w') (hf : ∀ k, Foot p L k → ¬ S k) : Rest B w' p L := ⟨h.is.aside hs hf, h.good, h.lk⟩
/-- in the midst of told -/
structure T1 (B p h : Nat) (L : Lay) (g cap : Nat) (dat : List Int) (wr : World) (k5 k6 k9 : Nat) (ov t9 : Array Value) : Prop where
  rest : Rest B wr p L
  held : Held B wr h g cap dat
  off : ¬ Foot p L h ∧ ¬ Foot p L g
  b5 : wr.heap[k5]? = some (.cells ov 39 (0, 0))
  b6 : wr.heap[k6]? = some (.cells (tdC (.slice none 0 0) 0 (.slice none 0 0) 0) 43 (0, 0))
  b9 : wr.heap[k9]? = some (.cells t9 43 (0, 0))
  far : ¬ Foot p L k5 ∧ ¬ Foot p L k6 ∧ ¬ Foot p L k9
  ne : k6 ≠ k9 ∧ k5 ≠ k6 ∧ k5 ≠ k9 ∧ k9 ≠ h ∧ k9 ≠ g
section
variable {B p h g cap k5 k6 k9 : Nat} {L L' : Lay} {dat : List Int} {wr w' : World} {ov t9 : Array Value}
theorem at_lt {w : World} {k : Nat} {o : Obj} (h : w.heap[k]? = some o) : k < w.heap.size := (Array.getElem?_eq_some_iff.1 h).1
theorem T1.step (t : T1 B p h L g cap dat wr k5 k6 k9 ov t9) (st : Step B wr w' p L L') (hr : Rest B w' p L') : T1 B p h L' g cap dat w' k5 k6 k9 ov t9 := by
  have mv : ∀ {k : Nat} {o : Obj}, ¬ Foot p L k → wr.heap[k]? = some o → w'.heap[k]? = some o := fun hk ho => st.1.at ho fun e => hk (.inl e)
  have nf : ∀ {k : Nat} {o : Obj}, ¬ Foot p L k → wr.heap[k]? = some o → ¬ Foot p L' k := fun hk ho e => by
    rcases st.2.2.2 _ e with h1 | h1
    · exact hk h1
    · have := at_lt ho
      omega
  obtain ⟨cur, r1, r2, r3⟩ := t.held.row
  exact ⟨hr, ⟨mv t.off.1 t.held.blk, ⟨cur, mv t.off.2 r1, r2, r3⟩, t.held.low, t.held.cap, t.held.ne⟩, ⟨nf t.off.1 t.held.blk, nf t.off.2 r1⟩, mv t.far.1 t.b5, mv t.far.2.1 t.b6, mv t.far.2.2 t.b9, ⟨nf t.far.1 t.b5, nf t.far.2.1 t.b6, nf t.far.2.2 t.b9⟩, t.ne⟩
theorem T1.put (t : T1 B p h L g cap dat wr k5 k6 k9 ov t9) (i : Nat) (v : Value) : T1 B p h L g cap dat (wr.setCell ⟨k9, i, none⟩ v) k5 k6 k9 ov (t9.setIfInBounds i v) := by
  have mv : ∀ {k : Nat} {o : Obj}, k ≠ k9 → wr.heap[k]? = some o → (wr.setCell ⟨k9, i, none⟩ v).heap[k]? = some o := fun hk ho => by rw [Below.heap_setCell wr ⟨k9, i, none⟩ v _ hk]; exact ho
  obtain ⟨cur, r1, r2, r3⟩ := t.held.row
  exact ⟨t.rest.off (Same.set (S := fun k => k = k9) _ _ _ rfl) fun k hk e => t.far.2.2 (e ▸ hk), ⟨mv (Ne.symm t.ne.2.2.2.1) t.held.blk, ⟨cur, mv (Ne.symm t.ne.2.2.2.2) r1, r2, r3⟩, t.held.low, t.held.cap, t.held.ne⟩, t.off, mv t.ne.2.2.1 t.b5, mv t.ne.1 t.b6, YtancenklmfamnaaGreatW.PrintWords.blk_set t.b9 i v, t.far, t.ne⟩
theorem T1.start {A : Option Addr} {n0 : Nat} {w w3 : World} {oc : Array Value} (hat : At B w p L h A n0)
    (hH : Held B w3 h g cap dat) (hg : A.map (·.block) = some g ∨ w.heap.size + 2 ≤ g)
    (hs : Same (fun k => k = h ∨ A.map (·.block) = some k) ((w.alloc (.cells oc 39)).alloc (.cells (tdC (.slice none 0 0) 0 (.slice none 0 0) 0) 43)) w3) :
    T1 B p h L g cap dat (w3.alloc (.cells (tdC (.slice none 0 0) 0 (.slice none 0 0) 0) 43)) w.heap.size (w.heap.size + 1) w3.heap.size oc (tdC (.slice none 0 0) 0 (.slice none 0 0) 0) := by
  have hh := at_lt hat.hand.blk
  have hA : ∀ k, A.map (·.block) = some k → k < w.heap.size := fun k hk => by
    rcases hat.hand.row with ⟨e1, _⟩ | ⟨g', cur, e1, _, h3, _⟩
    · rw [e1] at hk; cases hk
    · rw [e1] at hk
      cases hk
      exact at_lt h3
  have hsz : w.heap.size + 2 ≤ w3.heap.size := by have := hs.2.2.2.1; simp at this; omega
  have nS : ∀ k, w.heap.size ≤ k → ¬ (k = h ∨ A.map (·.block) = some k) := fun k hk e => by
    rcases e with e | e
    · omega
    · have := hA k e
      omega
  have hb0 : Below w.heap.size w ((w.alloc (.cells oc 39)).alloc (.cells (tdC (.slice none 0 0) 0 (.slice none 0 0) 0) 43)) := ((Below.refl _ w).alloc (Nat.le_refl _) _).alloc (by simp) _
  have hr3 : Rest B w3 p L := (hat.rest.below hb0).off hs fun k hk e => by
    rcases e with e | e
    · exact hat.off.1 (e ▸ hk)
    · exact hat.off.2 k e hk
  have mv : ∀ {k : Nat} {o : Obj}, w3.heap[k]? = some o → (w3.alloc (.cells (tdC (.slice none 0 0) 0 (.slice none 0 0) 0) 43)).heap[k]? = some o := fun ho => by rw [Below.heap_alloc w3 _ _ (at_lt ho)]; exact ho
  have lt : ∀ k, Foot p L k → k < w.heap.size := fun k hk => hat.rest.is.foot_lt hk
  obtain ⟨cur, r1, r2, r3⟩ := hH.row
  have hg3 := at_lt r1
  have hh3 := at_lt hH.blk
  refine ⟨hr3.below (below_alloc w3 _), ⟨mv hH.blk, ⟨cur, mv r1, r2, r3⟩, hH.low, hH.cap, hH.ne⟩, ⟨hat.off.1, fun e => ?_⟩, mv ?_, mv ?_, alloc_is w3 _, ⟨fun e => ?_, fun e => ?_, fun e => ?_⟩, by omega, by omega, by omega, by omega, by omega⟩
  · rcases hg with h1 | h1
    · exact hat.off.2 g h1 e
    · have := lt g e
      omega
  · refine hs.at ?_ (nS _ (Nat.le_refl _))
    rw [Below.heap_alloc _ _ _ (by simp)]
    exact alloc_is w _
  · refine hs.at ?_ (nS _ (by omega))
    have := alloc_is (w.alloc (.cells oc 39)) (.cells (tdC (.slice none 0 0) 0 (.slice none 0 0) 0) 43)
    simpa using this
  · have := lt _ e; omega
  · have := lt _ e; omega
  · have := lt _ e; omega
end
/-- what told leaves, ahead of kept -/
structure T2 (B p h : Nat) (L L' : Lay) (g cap : Nat) (dat : List Int) (w4 wr : World) (k5 k6 k9 : Nat) (ov : Array Value) (kind : Int) (nm : ByteArray) (ver : Int) (tb : Value) (tdat : List Int) (tv : Int) (tl : Value) (tls : List LM) (te : Int) : Prop where
  t1 : T1 B p h L' g cap dat wr k5 k6 k9 ov (tdC tb tv tl te)
  told : ToldR kind nm ver dat L L' tdat tv tls te
  rd : RdB wr tb tdat
  rdo : ∀ k, tb.ownBlock = some k → w4.heap.size ≤ k ∧ ¬ Foot p L' k ∧ k < wr.heap.size
  own : wr.ownsRow w4.heap.size 5 1 tb tdat.length (tdat.map encB)
  ls : OwnRow RL 70 4 wr w4.heap.size tl tls
  lso : ∀ k, tl.ownBlock = some k → ¬ Foot p L' k
  same : Same (fun k => Owned p L k ∨ k = k9) w4 wr
  foot : ∀ k, Foot p L' k → Foot p L k ∨ w4.heap.size ≤ k
theorem Held.rd {B h g cap : Nat} {w : World} {dat : List Int} (hh : Held B w h g cap dat) : RdB w (.slice (some ⟨g, 0, none⟩) dat.length cap) dat := by
  refine .inr ⟨g, cap, rfl, hh.cap.1, fun j x hj => ?_⟩
  obtain ⟨cur, h1, h2, h3⟩ := hh.row
  have hjl := (List.getElem?_eq_some_iff.1 hj).1
  rw [Lib.cell_of_heap h1, h3 j (by have := hh.cap.1; omega), hB_in hj]
section
variable {B p h g cap k5 k6 k9 : Nat} {L L' : Lay} {dat tdat : List Int} {w4 w5 wr : World} {ov : Array Value} {kind ver tv te : Int} {nm : ByteArray} {tb tl : Value} {tls : List LM}
theorem T2.all (t : T1 B p h L' g cap dat wr k5 k6 k9 ov (tdC tb tv tl te)) (st : Step B w4 w5 p L L') (hs : Same (fun k => k = k9) w5 wr) (h9 : k9 < w4.heap.size) (hR : ToldR kind nm ver dat L L' tdat tv tls te)
    (hrd : RdB w5 tb tdat) (hrdo : ∀ k, tb.ownBlock = some k → w4.heap.size ≤ k ∧ ¬ Foot p L' k ∧ k < w5.heap.size) (hown : w5.ownsRow w4.heap.size 5 1 tb tdat.length (tdat.map encB)) (hls : OwnRow RL 70 4 w5 w4.heap.size tl tls) (hlso : ∀ k, tl.ownBlock = some k → ¬ Foot p L' k) :
    T2 B p h L L' g cap dat w4 wr k5 k6 k9 ov kind nm ver tb tdat tv tl tls te := by
  refine ⟨t, hR, hrd.far hs fun k hk e => ?_, fun k hk => ?_, row_farN hown hs (fun k hk e => by have := (hrdo k hk).1; omega), ?_, hlso, (st.1.imp fun k e => .inl e).trans (hs.imp fun k e => .inr e), st.2.2.2⟩
  · have := (hrdo k hk).1
    omega
  · obtain ⟨h1, h2, h3⟩ := hrdo k hk
    exact ⟨h1, h2, Nat.lt_of_lt_of_le h3 hs.2.2.2.1⟩
  · obtain ⟨inner, h1, h2⟩ := hls
    refine ⟨inner, row_farN h1 hs fun j hj e => ?_, h2⟩
    have := (row_tyN h1 hj).1
    omega
theorem T2.plain (t : T1 B p h L' g cap dat wr k5 k6 k9 ov (tdC (.slice none 0 0) tv (.slice none 0 0) te)) (st : Step B w4 w5 p L L') (hs : Same (fun k => k = k9) w5 wr) (h9 : k9 < w4.heap.size) (hR : ToldR kind nm ver dat L L' [] tv [] te) :
    T2 B p h L L' g cap dat w4 wr k5 k6 k9 ov kind nm ver (.slice none 0 0) [] tv (.slice none 0 0) [] te :=
  T2.all t st hs h9 hR (RdB.nil _) (fun k hk => by cases hk) (World.ownsRow_nil _ _ _ _) ⟨[], World.ownsRow_nil _ _ _ _, Reps.none _ _⟩ (fun k hk => by cases hk)
theorem same9 (w : World) (k i : Nat) (v : Value) : Same (fun x => x = k) w (w.setCell ⟨k, i, none⟩ v) := Same.set _ _ _ rfl
theorem T1.c9 {t9 : Array Value} (t : T1 B p h L g cap dat wr k5 k6 k9 ov t9) (i : Nat) : wr.cell? ⟨k9, i, none⟩ = t9[i]? ∧ wr.frozen? ⟨k9, i, none⟩ = false := ⟨Lib.cell_of_heap t.b9 i, Lib.frozen_of_heap t.b9 _⟩
theorem T1.c5 {t9 : Array Value} (t : T1 B p h L g cap dat wr k5 k6 k9 ov t9) (i : Nat) : wr.cell? ⟨k5, i, none⟩ = ov[i]? := Lib.cell_of_heap t.b5 i
end
/-- what told answers, and leaves -/
def ToldP (B p h : Nat) (L : Lay) (A : Option Addr) (w : World) (kind : Int) (nm : ByteArray) (ver : Int) (dat : List Int) (e : Ending) (w' : World) : Prop :=
  ∃ L' A' n' tb tdat tv tl tls te, e = .returned (.tuple #[.agg #[tb, .int .i64 tv, tl, .int .i64 te], .bool true]) ∧ At B w' p L' h A' n' ∧ Move w w' p L L' h A A' ∧ ToldR kind nm ver dat L L' tdat tv tls te ∧
    RdB w' tb tdat ∧ (∀ k, tb.ownBlock = some k → w.heap.size ≤ k ∧ k < w'.heap.size ∧ ¬ Foot2 p L' h A' k) ∧ OwnRow RL 70 4 w' w.heap.size tl tls ∧ (∀ k, tl.ownBlock = some k → ¬ Foot2 p L' h A' k) ∧ w'.ownsRow w.heap.size 5 1 tb tdat.length (tdat.map encB)
section
variable {B p h g cap n0 : Nat} {A : Option Addr} {L L' : Lay} {dat tdat : List Int} {w w3 wc w8 : World} {ov : Array Value} {kind ver tv te : Int} {nm : ByteArray} {tb tl : Value} {tls : List LM}
theorem told_same (hs : Same (fun k => k = h ∨ A.map (·.block) = some k) ((w.alloc (.cells ov 39)).alloc (.cells (tdC (.slice none 0 0) 0 (.slice none 0 0) 0) 43)) w3)
    (h2 : T2 B p h L L' g cap dat (w3.alloc (.cells (tdC (.slice none 0 0) 0 (.slice none 0 0) 0) 43)) wc w.heap.size (w.heap.size + 1) w3.heap.size ov kind nm ver tb tdat tv tl tls te) :
    Same (fun k => Owned p L k ∨ k = h ∨ A.map (·.block) = some k) w wc := by
  have hb0 : Below w.heap.size w ((w.alloc (.cells ov 39)).alloc (.cells (tdC (.slice none 0 0) 0 (.slice none 0 0) 0) 43)) := ((Below.refl _ w).alloc (Nat.le_refl _) _).alloc (by simp) _
  have s1 : Same (fun k => k = h ∨ A.map (·.block) = some k) w w3 := (Same.below hb0).trans hs
  have s2 : Same (fun k => k = h ∨ A.map (·.block) = some k) w (w3.alloc (.cells (tdC (.slice none 0 0) 0 (.slice none 0 0) 0) 43)) := s1.trans (Same.below (below_alloc w3 _))
  have hz : w.heap.size ≤ w3.heap.size := s1.2.2.2.1
  have e := h2.same
  refine ⟨e.1.trans s2.1, e.2.1.trans s2.2.1, e.2.2.1.trans s2.2.2.1, Nat.le_trans s2.2.2.2.1 e.2.2.2.1, fun k hk hS => ?_⟩
  rw [e.2.2.2.2 k (Nat.lt_of_lt_of_le hk s2.2.2.2.1) fun h => h.elim (fun h => hS (.inl h)) fun h => by omega]
  exact s2.2.2.2.2 k hk fun h => hS (.inr h)
theorem told_end (hat : At B w p L h A n0) (hs : Same (fun k => k = h ∨ A.map (·.block) = some k) ((w.alloc (.cells ov 39)).alloc (.cells (tdC (.slice none 0 0) 0 (.slice none 0 0) 0) 43)) w3)
    (hg : A.map (·.block) = some g ∨ w.heap.size + 2 ≤ g) (hg3 : g < w3.heap.size)
    (h2 : T2 B p h L L' g cap dat (w3.alloc (.cells (tdC (.slice none 0 0) 0 (.slice none 0 0) 0) 43)) wc w.heap.size (w.heap.size + 1) w3.heap.size ov kind nm ver tb tdat tv tl tls te)
    (hH8 : HandIs B w8 h (some ⟨g, 0, none⟩) cap) (hs8 : Same (fun k => k = g) wc w8) {w9 : World} (hs9 : Same (fun k => k = w.heap.size + 1) w8 w9) :
    At B w9 p L' h (some ⟨g, 0, none⟩) cap ∧ Move w w9 p L L' h A (some ⟨g, 0, none⟩) ∧ RdB w9 tb tdat ∧ (∀ k, tb.ownBlock = some k → w.heap.size ≤ k ∧ k < w9.heap.size ∧ ¬ Foot2 p L' h (some ⟨g, 0, none⟩) k) ∧
      OwnRow RL 70 4 w9 w.heap.size tl tls ∧ (∀ k, tl.ownBlock = some k → ¬ Foot2 p L' h (some ⟨g, 0, none⟩) k) ∧ w9.ownsRow w.heap.size 5 1 tb tdat.length (tdat.map encB) := by
  have ss := told_same hs h2
  have hh := at_lt hat.hand.blk
  have hA : ∀ k, A.map (·.block) = some k → k < w.heap.size := fun k hk => by
    rcases hat.hand.row with ⟨e1, _⟩ | ⟨g', cur, e1, _, h3, _⟩
    · rw [e1] at hk; cases hk
    · rw [e1] at hk
      cases hk
      exact at_lt h3
  have hz : w.heap.size + 2 ≤ w3.heap.size := by have := hs.2.2.2.1; simp at this; omega
  have hz4 : (w3.alloc (.cells (tdC (.slice none 0 0) 0 (.slice none 0 0) 0) 43)).heap.size = w3.heap.size + 1 := by simp
  have hgk : g ≠ w.heap.size + 1 := by
    rcases hg with e | e
    · have := hA g e; omega
    · omega
  have two : Same (fun k => k = g ∨ k = w.heap.size + 1) wc w9 := (hs8.imp fun k e => .inl e).trans (hs9.imp fun k e => .inr e)
  have hlf : ∀ k, Foot p L' k → ¬ (k = g ∨ k = w.heap.size + 1) := fun k hk e => by
    rcases e with rfl | rfl
    · exact h2.t1.off.2 hk
    · exact h2.t1.far.2.1 hk
  have hb9 : w9.heap[h]? = some (.cells #[.slice (some ⟨g, 0, none⟩) cap cap] 27 (0, 0)) := hs9.at hH8.blk (by omega)
  have hf2 : ∀ k, Foot2 p L' h (some ⟨g, 0, none⟩) k ↔ Foot p L' k ∨ k = h ∨ k = g := fun k => by
    unfold Foot2
    simp [eq_comm]
  refine ⟨⟨h2.t1.rest.off two hlf, ⟨hb9, ?_, hH8.low⟩, h2.t1.off.1, fun k hk => ?_⟩, ⟨?_, fun k hk => ?_⟩, h2.rd.far two fun k hk e => ?_, fun k hk => ?_, ?_, fun k hk e => ?_, ?_⟩
  · rcases hH8.row with ⟨e, _⟩ | ⟨g', cur, e, r⟩
    · cases e
    · cases e
      exact .inr ⟨g, cur, rfl, r.1, hs9.at r.2.1 hgk, r.2.2⟩
  · cases hk
    exact h2.t1.off.2
  · refine ⟨two.1.trans ss.1, two.2.1.trans ss.2.1, two.2.2.1.trans ss.2.2.1, Nat.le_trans ss.2.2.2.1 two.2.2.2.1, fun k hk hS => ?_⟩
    rw [two.2.2.2.2 k (Nat.lt_of_lt_of_le hk ss.2.2.2.1) fun e => ?_]
    · exact ss.2.2.2.2 k hk hS
    · rcases e with rfl | rfl
      · rcases hg with e | e
        · exact hS (.inr (.inr e))
        · omega
      · omega
  · rcases (hf2 k).1 hk with e | rfl | rfl
    · rcases h2.foot k e with e | e
      · exact .inl (.inl e)
      · right; omega
    · exact .inl (.inr (.inl rfl))
    · rcases hg with e | e
      · exact .inl (.inr (.inr e))
      · right; omega
  · have := (h2.rdo k hk).1
    omega
  · obtain ⟨h3, h4, h5⟩ := h2.rdo k hk
    refine ⟨by omega, Nat.lt_of_lt_of_le h5 two.2.2.2.1, fun e => ?_⟩
    rcases (hf2 k).1 e with e | e | e
    · exact h4 e
    · omega
    · omega
  · obtain ⟨inner, o1, o2⟩ := h2.ls
    have o3 := row_farN o1 two fun j hj e => by
      have := (row_tyN o1 hj).1
      omega
    refine ⟨inner, ?_, o2⟩
    obtain ⟨q1, q2⟩ := o3
    refine ⟨q1, ?_⟩
    rcases q2 with q2 | ⟨g', c', cur', e1, e2, e3⟩
    · exact .inl q2
    · exact .inr ⟨g', c', cur', e1, by omega, e3⟩
  · rcases (hf2 k).1 e with e | e | e
    · exact h2.lso k hk e
    · obtain ⟨inner, o1, o2⟩ := h2.ls
      have := (row_tyN o1 hk).1
      omega
    · obtain ⟨inner, o1, o2⟩ := h2.ls
      have := (row_tyN o1 hk).1
      omega
  · have o3 := row_farN h2.own two fun j hj e => by
      have := (row_tyN h2.own hj).1
      omega
    exact World.ownsRow.mono o3 (by omega)
end
set_option maxHeartbeats 8000000 in
set_option maxRecDepth 1000000 in
theorem told_any (B p h : Nat) (L : Lay) (A : Option Addr) (n0 : Nat) (w : World) (hat : At B w p L h A n0) (htc : L.touch < 4611686018427387904) (kind which : Int) (nm : ByteArray) (hnm : nm.size ≤ 140737488351232) (ver : Int) (hv : (Lit.int .i64 ver).wf = true) (Ab : Option Addr) (n cb : Nat) (dat : List Int) (hdn : dat.length = n)
    (hrow : RdA w (.slice Ab n cb) dat) (hn : dat.length ≤ 140737488351232) (hbo : ∀ k, Ab.map (·.block) = some k → dat ≠ [] → ¬ Foot2 p L h A k ∧ k < w.heap.size) :
    Calls Tryz.prog 8 #[.pointer (some ⟨h, 0, none⟩), .pointer (some ⟨p, 0, none⟩), .agg (opC kind which nm ver (.slice Ab n cb))] w (ToldP B p h L A w kind nm ver dat) := by
  have hb0 : Below w.heap.size w ((w.alloc (.cells (opC kind which nm ver (.slice Ab n cb)) 39)).alloc (.cells (tdC (.slice none 0 0) 0 (.slice none 0 0) 0) 43)) := ((Below.refl _ w).alloc (Nat.le_refl _) _).alloc (by simp) _
  have hhand : HandIs B ((w.alloc (.cells (opC kind which nm ver (.slice Ab n cb)) 39)).alloc (.cells (tdC (.slice none 0 0) 0 (.slice none 0 0) 0) 43)) h A n0 := by
    refine ⟨(hb0.block _ (at_lt hat.hand.blk)).trans hat.hand.blk, ?_, hat.hand.low⟩
    rcases hat.hand.row with e | ⟨g, cur, e1, e2, e3, e4⟩
    · exact .inl e
    · exact .inr ⟨g, cur, e1, e2, (hb0.block _ (at_lt e3)).trans e3, e4⟩
  have HBY := Lib.hid (bytes_any B h A n0 _ hhand (.slice Ab n cb) dat n cb Ab rfl hdn (hrow.far (Same.below (S := fun _ => False) hb0) fun _ _ _ h => h) (fun k hk hd => by
    rw [block_map] at hk
    have := (hbo k hk hd).1
    refine ⟨fun e => this (.inr (.inl e)), fun e => this (.inr (.inr ?_))⟩
    rw [← block_map A n0 n0]
    exact e) hn)
  have HA := Lib.hid hat
  have HB := Lib.hid hrow
  have HBO := Lib.hid hbo
  clear hat hrow hbo hb0 hhand
  go_enter Tryz.func8, Tryz.ntmps8
  go_wp2_with fail
  refine HBY.out.mono ?_
  rintro e w3 ⟨g, cap, rfl, hH, hg, hs⟩
  rw [block_map] at hg hs
  have HT := Lib.hid (T1.start HA.out hH (by simpa using hg) hs)
  have HS := Lib.hid (And.intro hs (And.intro (show A.map (·.block) = some g ∨ w.heap.size + 2 ≤ g by simpa using hg) (at_lt hH.row.choose_spec.1)))
  clear hH hg hs HBY
  have c50 := HT.out.c5 0
  have c52 := HT.out.c5 2
  have c53 := HT.out.c5 3
  simp only [opC, List.getElem?_toArray, List.getElem?_cons_zero, List.getElem?_cons_succ] at c50 c52 c53
  have h9 : w3.heap.size < (w3.alloc (.cells (tdC (.slice none 0 0) 0 (.slice none 0 0) 0) 43)).heap.size := by simp
  go_upto_block 0 with (fail)
  go_cut [] from 17 to 76 (fun wc => ∃ L' tb tdat tv tl tls te, Hid (T2 B p h L L' g cap dat (w3.alloc (.cells (tdC (.slice none 0 0) 0 (.slice none 0 0) 0) 43)) wc w.heap.size (w.heap.size + 1) w3.heap.size (opC kind which nm ver (.slice Ab n cb)) kind nm ver tb tdat tv tl tls te))
  case first =>
    have hrd := HT.out.held.rd
    rw [hdn] at hrd
    by_cases k1 : kind = 1
    · subst k1
      have HP := Lib.hid (put_R HT.out.rest htc nm (by omega) (.slice (some ⟨g, 0, none⟩) n cap) dat hrd (by omega) (fun k hk e => by cases hk; exact HT.out.off.2 (.inl e)))
      clear hrd
      go_wp2_with fail
      refine HP.out.mono ?_
      rintro e w5 ⟨v, err, L', rfl, hR, st, hr⟩
      have t5 := HT.out.step st hr
      have c1 := (t5.c9 1).1
      have c2 := (t5.c9 3).1
      have f1 := (t5.c9 1).2
      have f2 := (t5.c9 3).2
      simp only [tdC, List.getElem?_toArray, List.getElem?_cons_zero, List.getElem?_cons_succ] at c1 c2
      have T5 := Lib.hid (And.intro t5 (And.intro st hR))
      clear t5 st hR hr HP
      go_wp2
      go_meet
      case rel =>
        refine ⟨L', _, _, v, _, _, err, Lib.hid (T2.plain ((T5.out.1.put 1 (.int .i64 v)).put 3 (.int .i64 err)) T5.out.2.1 ((same9 _ _ _ _).trans (same9 _ _ _ _)) h9 ?_)⟩
        unfold ToldR
        rw [if_pos rfl]
        exact ⟨rfl, rfl, T5.out.2.2⟩
    · by_cases k2 : kind = 2
      · subst k2
        have HP := Lib.hid (lay_R HT.out.rest htc nm (by omega) ver hv (.slice (some ⟨g, 0, none⟩) n cap) dat hrd (by omega) (fun k hk e => by cases hk; exact HT.out.off.2 (.inl e)))
        clear hrd
        go_wp2_with fail
        refine HP.out.mono ?_
        rintro e w5 ⟨err, L', rfl, hR, st, hr⟩
        have t5 := HT.out.step st hr
        have c2 := (t5.c9 3).1
        have f2 := (t5.c9 3).2
        simp only [tdC, List.getElem?_toArray, List.getElem?_cons_zero, List.getElem?_cons_succ] at c2
        have T5 := Lib.hid (And.intro t5 (And.intro st hR))
        clear t5 st hR hr HP
        go_wp2
        go_meet
        case rel =>
          refine ⟨L', _, _, _, _, _, err, Lib.hid (T2.plain (T5.out.1.put 3 (.int .i64 err)) T5.out.2.1 (same9 _ _ _ _) h9 ?_)⟩
          unfold ToldR
          rw [if_neg (by decide), if_pos rfl]
          exact ⟨rfl, rfl, rfl, T5.out.2.2⟩
      · by_cases k3 : kind = 3
        · subst k3
          have HP := Lib.hid (take_R HT.out.rest htc nm (by unfold maxLen; omega) ver hv)
          clear hrd
          go_wp2_with fail
          refine HP.out.mono ?_
          rintro e w5 ⟨v', rfl, hrd', hro, st, hr, hown'⟩
          obtain ⟨A6, c6, rfl⟩ := hrd'.len
          have t5 := HT.out.step st hr
          have c0 := (t5.c9 0).1
          have c1 := (t5.c9 1).1
          have c2 := (t5.c9 3).1
          have f0 := (t5.c9 0).2
          have f1 := (t5.c9 1).2
          have f2 := (t5.c9 3).2
          simp only [tdC, List.getElem?_toArray, List.getElem?_cons_zero, List.getElem?_cons_succ] at c0 c1 c2
          have T5 := Lib.hid (And.intro t5 (And.intro st (And.intro hrd' (And.intro hro hown'))))
          clear t5 st hrd' hro hr hown' HP
          go_wp2
          go_meet
          case rel =>
            refine ⟨_, _, _, _, _, _, _, Lib.hid (T2.all (tls := []) (((T5.out.1.put 0 (.slice A6 _ c6)).put 1 (.int .i64 _)).put 3 (.int .i64 _)) T5.out.2.1 (((same9 _ _ _ _).trans (same9 _ _ _ _)).trans (same9 _ _ _ _)) h9 ?_ T5.out.2.2.1 T5.out.2.2.2.1 T5.out.2.2.2.2 ⟨[], World.ownsRow_nil _ _ _ _, Reps.none _ _⟩ (fun k hk => by cases hk))⟩
            unfold ToldR
            rw [if_neg (by decide), if_neg (by decide), if_pos rfl]
            exact ⟨rfl, rfl, rfl, rfl, rfl⟩
        · by_cases k4 : kind = 4
          · subst k4
            have HP := Lib.hid (give_R HT.out.rest nm (by unfold maxLen; omega) ver hv)
            clear hrd
            go_wp2_with fail
            refine HP.out.mono ?_
            rintro e w5 ⟨rfl, st, hr⟩
            have t5 := HT.out.step st hr
            have c2 := (t5.c9 3).1
            have f2 := (t5.c9 3).2
            simp only [tdC, List.getElem?_toArray, List.getElem?_cons_zero, List.getElem?_cons_succ] at c2
            have T5 := Lib.hid (And.intro t5 st)
            clear t5 st hr HP
            go_wp2
            go_meet
            case rel =>
              refine ⟨_, _, _, _, _, _, _, Lib.hid (T2.plain (T5.out.1.put 3 (.int .i64 _)) T5.out.2 (same9 _ _ _ _) h9 ?_)⟩
              unfold ToldR
              rw [if_neg (by decide), if_neg (by decide), if_neg (by decide), if_pos rfl]
              exact ⟨rfl, rfl, rfl, rfl, rfl⟩
          · by_cases k5 : kind = 5
            · subst k5
              have HP := Lib.hid (drop_R HT.out.rest nm (by unfold maxLen; omega) ver hv)
              clear hrd
              go_wp2_with fail
              refine HP.out.mono ?_
              rintro e w5 ⟨rfl, st, hr⟩
              have t5 := HT.out.step st hr
              have c2 := (t5.c9 3).1
              have f2 := (t5.c9 3).2
              simp only [tdC, List.getElem?_toArray, List.getElem?_cons_zero, List.getElem?_cons_succ] at c2
              have T5 := Lib.hid (And.intro t5 st)
              clear t5 st hr HP
              go_wp2
              go_meet
              case rel =>
                refine ⟨_, _, _, _, _, _, _, Lib.hid (T2.plain (T5.out.1.put 3 (.int .i64 _)) T5.out.2 (same9 _ _ _ _) h9 ?_)⟩
                unfold ToldR
                rw [if_neg (by decide), if_neg (by decide), if_neg (by decide), if_neg (by decide), if_pos rfl]
                exact ⟨rfl, rfl, rfl, rfl, rfl⟩
            · by_cases k6 : kind = 6
              · subst k6
                have HP := Lib.hid (list_yes HT.out.rest)
                clear hrd
                go_wp2_with fail
                refine HP.out.mono ?_
                rintro e w5 ⟨v', rfl, hls, st, hr⟩
                obtain ⟨A6, c6, rfl, _⟩ := hls.reads
                have t5 := HT.out.step st hr
                have c2 := (t5.c9 2).1
                have f2 := (t5.c9 2).2
                simp only [tdC, List.getElem?_toArray, List.getElem?_cons_zero, List.getElem?_cons_succ] at c2
                have hlo : ∀ k, (Value.slice A6 (sortedN L).length c6).ownBlock = some k → ¬ Foot p L k := fun k hk e => by
                  obtain ⟨inner, o1, _⟩ := hls
                  have h1 := (row_tyN o1 hk).1
                  have h2 := HT.out.rest.is.foot_lt e
                  omega
                have T5 := Lib.hid (And.intro t5 (And.intro st (And.intro hls hlo)))
                clear t5 st hls hlo hr HP
                go_wp2
                go_meet
                case rel =>
                  refine ⟨_, _, _, _, _, _, _, Lib.hid (T2.all (T5.out.1.put 2 (.slice A6 _ c6)) T5.out.2.1 (same9 _ _ _ _) h9 ?_ (RdB.nil _) (fun k hk => by cases hk) (World.ownsRow_nil _ _ _ _) T5.out.2.2.1 T5.out.2.2.2)⟩
                  unfold ToldR
                  rw [if_neg (by decide), if_neg (by decide), if_neg (by decide), if_neg (by decide), if_neg (by decide), if_pos rfl]
                  exact ⟨rfl, rfl, rfl, rfl, rfl⟩
              · clear hrd
                go_wp2
                go_meet
                case rel =>
                  refine ⟨L, _, _, _, _, _, _, Lib.hid (T2.plain HT.out (Step.refl HT.out.rest.is (Below.refl _ _)) (Same.refl _) h9 ?_)⟩
                  unfold ToldR
                  rw [if_neg k1, if_neg k2, if_neg k3, if_neg k4, if_neg k5, if_neg k6]
                  exact ⟨rfl, rfl, rfl, rfl, rfl⟩
  case rest =>
  obtain ⟨L', tb, tdat, tv, tl, tls, te, HM⟩ := hcut
  clear c50 c52 c53
  have c54 := HM.out.t1.c5 4
  simp only [opC, List.getElem?_toArray, List.getElem?_cons_zero, List.getElem?_cons_succ] at c54
  have HK := Lib.hid (kept_any B h g cap wc dat HM.out.t1.held n cb Ab hdn (HB.out.far (told_same HS.out.1 HM.out) fun k hk hd e => by
      rw [block_map] at hk
      obtain ⟨h1, h2⟩ := HBO.out k hk hd
      rcases e with e | e | e
      · exact h1 (.inl (.inl e))
      · exact h1 (.inr (.inl e))
      · exact h1 (.inr (.inr e))) (fun k hk hd e => by
      rw [block_map] at hk
      obtain ⟨h1, h2⟩ := HBO.out k hk hd
      subst e
      rcases HS.out.2.1 with e | e
      · exact h1 (.inr (.inr e))
      · omega))
  go_wp2_with fail
  refine HK.out.mono ?_
  rintro e w8 ⟨rfl, hH8, hs8⟩
  have t8 : w8.heap[w3.heap.size]? = some (.cells (tdC tb tv tl te) 43 (0, 0)) := by
    refine hs8.at HM.out.t1.b9 HM.out.t1.ne.2.2.2.2
  have t6 : w8.heap[w.heap.size + 1]? = some (.cells (tdC (.slice none 0 0) 0 (.slice none 0 0) 0) 43 (0, 0)) := by
    refine hs8.at HM.out.t1.b6 fun e => ?_
    rcases HS.out.2.1 with e2 | e2
    · rcases HA.out.hand.row with ⟨e1, _⟩ | ⟨g', cur, e1, _, h3, _⟩
      · rw [e1] at e2; cases e2
      · rw [e1] at e2
        have e3 : g' = g := by simpa using e2
        have := at_lt h3
        omega
    · omega
  have HH8 := Lib.hid (And.intro hH8 hs8)
  clear hH8 hs8 HK
  obtain ⟨Ab1, nb1, cb1, rfl⟩ : ∃ A n c, tb = .slice A n c := by
    obtain ⟨A, c, e⟩ := HM.out.rd.len
    exact ⟨A, _, c, e⟩
  obtain ⟨Al1, nl1, cl1, rfl⟩ : ∃ A n c, tl = .slice A n c := by
    obtain ⟨A, c, e, _⟩ := HM.out.ls.reads
    exact ⟨A, _, c, e⟩
  have d0 : w8.cell? ⟨w3.heap.size, 0, none⟩ = some (.slice Ab1 nb1 cb1) := by rw [Lib.cell_of_heap t8]; rfl
  have d1 : w8.cell? ⟨w3.heap.size, 1, none⟩ = some (.int .i64 tv) := by rw [Lib.cell_of_heap t8]; rfl
  have d2 : w8.cell? ⟨w3.heap.size, 2, none⟩ = some (.slice Al1 nl1 cl1) := by rw [Lib.cell_of_heap t8]; rfl
  have d3 : w8.cell? ⟨w3.heap.size, 3, none⟩ = some (.int .i64 te) := by rw [Lib.cell_of_heap t8]; rfl
  have b0 : w8.cell? ⟨w.heap.size + 1, 0, none⟩ = some (.slice none 0 0) := by rw [Lib.cell_of_heap t6]; rfl
  have b1 : w8.cell? ⟨w.heap.size + 1, 1, none⟩ = some (.int .i64 0) := by rw [Lib.cell_of_heap t6]; rfl
  have b2 : w8.cell? ⟨w.heap.size + 1, 2, none⟩ = some (.slice none 0 0) := by rw [Lib.cell_of_heap t6]; rfl
  have b3 : w8.cell? ⟨w.heap.size + 1, 3, none⟩ = some (.int .i64 0) := by rw [Lib.cell_of_heap t6]; rfl
  have f6 : ∀ i, w8.frozen? ⟨w.heap.size + 1, i, none⟩ = false := fun i => Lib.frozen_of_heap t6 _
  have g0 := f6 0
  have g1 := f6 1
  have g2 := f6 2
  have g3 := f6 3
  go_wp2
  (try simp only [Exit.inBlock, Exit.then])
  have hfin := told_end HA.out HS.out.1 HS.out.2.1 HS.out.2.2 HM.out HH8.out.1 HH8.out.2 (((same9 w8 (w.heap.size + 1) 0 (.slice Ab1 nb1 cb1)).trans (same9 _ _ 1 (.int .i64 tv))).trans ((same9 _ _ 2 (.slice Al1 nl1 cl1)).trans (same9 _ _ 3 (.int .i64 te))))
  have HF := Lib.hid hfin
  clear hfin
  refine bodyPost_ret (v := .tuple #[.agg #[.slice Ab1 nb1 cb1, .int .i64 tv, .slice Al1 nl1 cl1, .int .i64 te], .bool true]) ?_ rfl ⟨L', _, _, _, tdat, tv, _, tls, te, rfl, HF.out.1, HF.out.2.1, HM.out.told, HF.out.2.2.1, HF.out.2.2.2.1, HF.out.2.2.2.2.1, HF.out.2.2.2.2.2.1, HF.out.2.2.2.2.2.2⟩
  rw [results_cell_tmp rfl]
  go_simp
end Go.Proofs.YtancenklmfamnaaGreat.Sh
