/- List. -/
import Derived.Test.YtancenklmfamnaaShNew
import Derived.Deep.AppendLies
set_option linter.unusedVariables false
set_option linter.unusedSimpArgs false
namespace Go.Proofs.Ytancenklmfamnaa.Sh
open Go.RowKit Go.Maps Go.Sort Go.Shelf
open Go.Proofs Go.MuLone
open Go.Proofs.YtancenklmfamnaaW.PrintWords (Reps OwnRow)
open Go.Proofs.Ytancenklmfamnaa.PShelfKeeps (S39 k39)

def cellsOf (m : LM) : List Value := [.string m.name, .int .i64 m.ver, .int .i64 m.dat.length, .int .i64 m.used]
def RL (m : LM) (c : List Value) : Prop := c = cellsOf m
def sortedN (L : Lay) : List LM := L.ms.mergeSort fun a b => !decide (ltN b a)
theorem byName_same {L : Lay} (hk : (L.ms.map fun m => (m.name, m.ver)).Nodup) {d : List (El L)} (hd : (d.map (·.1)).Perm L.ms) : (byName d).map (·.1) = sortedN L := by
  have e1 : (byName d).map (·.1) = (d.map (·.1)).mergeSort fun a b => !decide (ltN b a) := by
    unfold byName
    refine List.map_mergeSort fun a _ b _ => ?_
    rw [ltH]
  rw [e1]
  have tr : ∀ a b c : LM, (!decide (ltN b a)) = true → (!decide (ltN c b)) = true → (!decide (ltN c a)) = true := fun a b c h1 h2 => by
    simp at *
    intro h3
    rcases ltN_total a b with h | h | ⟨h, h'⟩
    · exact h2 (ltN_trans h3 h)
    · exact h1 h
    · apply h2
      rcases h3 with h3 | ⟨e, h3⟩
      · exact .inl (h ▸ h3)
      · exact .inr ⟨e.trans h, h' ▸ h3⟩
  have tot : ∀ a b : LM, ((!decide (ltN b a)) || (!decide (ltN a b))) = true := fun a b => by
    simp
    rcases ltN_total a b with h | h | ⟨h, h'⟩
    · exact .inl fun h2 => ltN_irrefl _ (ltN_trans h h2)
    · exact .inr fun h2 => ltN_irrefl _ (ltN_trans h h2)
    · left
      rintro (h2 | ⟨_, h2⟩)
      · rw [h] at h2; exact List.lt_irrefl _ h2
      · omega
  refine List.Perm.eq_of_pairwise (le := fun a b => (!decide (ltN b a)) = true) (fun a b ha hb h1 h2 => ?_) (List.pairwise_mergeSort tr tot _) (List.pairwise_mergeSort tr tot _) (((List.mergeSort_perm _ _).trans hd).trans (List.mergeSort_perm _ _).symm)
  simp at h1 h2
  have ha' : a ∈ L.ms := hd.mem_iff.1 ((List.mergeSort_perm _ _).mem_iff.1 ha)
  have hb' : b ∈ L.ms := (List.mergeSort_perm _ _).mem_iff.1 hb
  rcases ltN_total a b with h | h | ⟨h, h'⟩
  · exact absurd h h2
  · exact absurd h h1
  · exact map_inj hk ha' hb' (by rw [h, h'])
theorem reps_vals {L : Lay} {d : List (El L)} {cs : List Value} (h : Reps RH 4 d cs) : Reps RL 4 (d.map (·.1)) cs := by
  refine ⟨by rw [h.1]; simp, fun j m hj => ?_⟩
  rw [List.getElem?_map] at hj
  obtain ⟨x, hx, rfl⟩ := Option.map_eq_some_iff.1 hj
  exact h.2 j x hx
theorem row_farN {W W1 : World} {S : Nat → Prop} {B n k : Nat} {t : TypeId} {v : Value} {xs : List Value} (h : W.ownsRow B t k v n xs) (hs : Same S W W1) (hb : ∀ j, v.ownBlock = some j → ¬ S j) : W1.ownsRow B t k v n xs := by
  obtain ⟨h1, h2⟩ := h
  refine ⟨h1, ?_⟩
  rcases h2 with h2 | ⟨g, cap, cur, rfl, e1, e2, e3⟩
  · exact .inl h2
  · exact .inr ⟨g, cap, cur, rfl, e1, hs.at e2 (hb g rfl), e3⟩
theorem row_tyN {W : World} {B n k : Nat} {t : TypeId} {v : Value} {xs : List Value} (h : W.ownsRow B t k v n xs) {j : Nat} (hk : v.ownBlock = some j) : B ≤ j ∧ ∃ cur, W.heap[j]? = some (.cells cur t (0, 0)) := by
  rcases h.2 with ⟨rfl, _⟩ | ⟨g, cap, cur, rfl, hB, h2, _⟩
  · cases hk
  · obtain rfl := Option.some.inj hk
    exact ⟨hB, cur, h2⟩
/-- in the midst of the loop -/
structure LiMid {L : Lay} (b0 : Nat) (wL wr : World) (v1 v3 : Value) (d : List (El L)) (k : Nat) : Prop where
  row : ∃ inner, wr.ownsRow b0 39 4 v3 k inner ∧ Reps RH 4 (d.take k) inner
  ptrs : wr.ownsRow b0 72 1 v1 d.length (d.map (encM L))
  below : Below b0 wL wr
theorem LiMid.cell {L : Lay} {b0 : Nat} {wL wr : World} {A : Option Addr} {c : Nat} {v3 : Value} {d : List (El L)} {k : Nat} (h : LiMid b0 wL wr (.slice A d.length c) v3 d k) {j : Nat} {x : El L} (hx : d[j]? = some x) : ∃ g, A = some ⟨g, 0, none⟩ ∧ wr.cell? ⟨g, j, none⟩ = some (encM L x) := by
  have hj := (List.getElem?_eq_some_iff.1 hx).1
  rcases h.ptrs.2 with ⟨_, h0⟩ | ⟨g, cap, cur, he, hg, hcur, hcap, hcm, hsz, hcells⟩
  · omega
  · simp at he
    obtain ⟨rfl, rfl⟩ := he
    refine ⟨g, rfl, ?_⟩
    rw [Lib.cell_of_heap hcur]
    have h1 : (d.map (encM L))[j]? = some (encM L x) := by simp [hx]
    rw [← hcells, List.getElem?_take_of_lt (by omega)] at h1
    simpa using h1
theorem LiMid.next {L : Lay} {b0 : Nat} {wL wr w2 : World} {g c : Nat} {v3 v' : Value} {d : List (El L)} {k : Nat} (h : LiMid b0 wL wr (.slice (some ⟨g, 0, none⟩) d.length c) v3 d k) {x : El L} (hx : d[k]? = some x) {inner : List Value} (hr : Reps RH 4 (d.take k) inner) (hv3 : wr.ownsRow b0 39 4 v3 k inner) (X : Obj)
    (hown : w2.ownsRow b0 39 4 v' (k + 1) (inner ++ encH x)) (hg : ((wr.alloc X).drew).grownBy w2 v3.ownBlock) (hb : b0 ≤ wr.heap.size) : LiMid b0 wL w2 (.slice (some ⟨g, 0, none⟩) d.length c) v' d (k + 1) := by
  refine ⟨⟨inner ++ encH x, hown, ?_⟩, ?_, ?_⟩
  · rw [List.take_add_one, hx]
    exact hr.snoc (p := x) rfl rfl
  · refine (show ((wr.alloc X).drew).ownsRow b0 72 1 _ _ _ from h.ptrs.alloc X).kept hg (.inr fun e => ?_)
    obtain ⟨_, cur, hc⟩ := row_ty (h.ptrs.alloc X) (k := g) rfl
    obtain ⟨_, cur2, hc2⟩ := row_tyN (hv3.alloc X) (j := g) (by rw [← e]; rfl)
    rw [hc] at hc2
    simp at hc2
  · have h1 : Below b0 wL (wr.alloc X).drew := (h.below.alloc hb X).drew
    refine h1.grown hg (by simp; omega) fun j e => (row_tyN hv3 e).1
/-- what List answers -/
def ListP (B p : Nat) (w : World) (L : Lay) (e : Ending) (w' : World) : Prop := ∃ v, e = .returned v ∧ OwnRow RL 39 4 w' w.heap.size v (sortedN L) ∧ Step B w w' p L L

theorem sortL_any {L : Lay} (hk : (L.ms.map fun m => (m.name, m.ver)).Nodup) (wL W : World) (base : Nat) (d : List (El L)) (v : Value) (hd : (d.map (·.1)).Perm L.ms) (hlen : d.length ≤ 256) (hown : OwnRow RH 39 4 W base v d) (hb : Below base wL W) (hbw : base ≤ wL.heap.size) :
    Calls Try.prog 27 #[v, .func (.func 28) #[] #[]] W fun e w' => e = .returned (.tuple #[]) ∧ OwnRow RL 39 4 w' base v (sortedN L) ∧ Below base wL w' := by
  have hs := byName_same hk hd
  have hl : (byName d).length = d.length := List.length_mergeSort _
  by_cases hne : d = []
  · subst hne
    obtain ⟨inner, hr, hreps⟩ := hown
    have hnil : sortedN L = [] := by rw [← hs]; simp [byName]
    have hin : inner = [] := by
      have := hr.1
      simpa using this
    subst hin
    rw [hnil]
    have hf : ∃ A c, v = .slice A 0 c := by
      rcases hr.2 with ⟨rfl, _⟩ | ⟨g, cap, cur, rfl, _⟩
      · exact ⟨_, _, rfl⟩
      · exact ⟨_, _, rfl⟩
    obtain ⟨A, c, rfl⟩ := hf
    have hcon := AnyF.slices_SortFunc_none Try.sortH A c (.func (.func 28) #[] #[]) W
    change Calls Try.prog 27 _ _ _ at hcon
    exact hcon.mono fun e w' ⟨he, hw⟩ => ⟨he, by rw [hw]; exact ⟨[], hr, Reps.none _ _⟩, by rw [hw]; exact hb⟩
  · obtain ⟨inner, hr, hreps⟩ := hown
    rcases hr.2 with ⟨_, h0⟩ | ⟨g, cap, cur, rfl, hg, _⟩
    · have := List.length_pos_iff.2 hne
      omega
    · refine (sortH_row hk W base d g cap hne hlen ⟨inner, hr, hreps⟩).mono fun e w' ⟨he, hsm, inner2, hr2, hreps2⟩ => ⟨he, ⟨inner2, ?_, by rw [← hs]; exact reps_vals hreps2⟩, ?_⟩
      · have e1 : (sortedN L).length = (byName d).length := by rw [← hs]; simp
        rw [e1, ← hl]
        exact hr2
      · exact ⟨hsm.1.trans hb.os, hsm.2.1.trans hb.tape, hsm.2.2.1.trans hb.output, Nat.le_trans hb.size hsm.2.2.2.1, fun k hk2 => (hsm.2.2.2.2 k (Nat.lt_of_lt_of_le (Nat.lt_of_lt_of_le hk2 hbw) hb.size) (by omega)).trans (hb.block k hk2)⟩
theorem info39 : (Try.prog.info? 39).map (fun i => (i.zero, i.size, i.bytes)) = some (some (.agg #[.string ByteArray.empty, .int .i64 0, .int .i64 0, .int .i64 0]), 4, 40) := by kernel_rfl

set_option maxHeartbeats 8000000 in
set_option maxRecDepth 1000000 in
theorem list_any (B p : Nat) (L : Lay) (w : World) (h : ShelfIs B w p L) (hl : L.lk = 0) (hsz : ∀ m ∈ L.ms, m.dat.length ≤ 1099511627776) :
    Calls Try.prog 11 #[.pointer (some ⟨p, 0, none⟩)] w (ListP B p w L) := by
  obtain ⟨sem, hblk⟩ := h.blk
  rw [hl] at hblk
  have c0 : w.cell? ⟨p, 0, none⟩ = some (.int .i32 0) := by rw [Lib.cell_of_heap hblk]; rfl
  have f0 : w.frozen? ⟨p, 0, none⟩ = false := Lib.frozen_of_heap hblk _
  have s1 := h.setLock 1
  have S1 := Lib.hid s1
  have H := Lib.hid h
  have HL := Lib.hid hl
  have HZ := Lib.hid hsz
  obtain ⟨i0, hi, hz0, hz1, hz2⟩ := info_parts info39
  clear h hblk hl s1 hsz
  go_enter_defers Try.func11, Try.ntmps11
  go_wp2_with (go_at_call 19; refine (lock_free Try.muLib ⟨p, 0, none⟩ _ c0 f0).mono ?_; rintro e w' ⟨rfl, rfl⟩)
  refine (all_any B p _ _ S1.out.is).mono ?_
  rintro e w1 ⟨v1, bs, rfl, hp, hrow, hbl⟩
  have hz1 : (w.setCell ⟨p, 0, none⟩ (.int .i32 1)).heap.size = w.heap.size := by simp [World.setCell]
  rw [hz1] at hrow hbl
  obtain ⟨ms, hms, rfl⟩ := perm_map_inv hp L.ms rfl
  obtain ⟨d, hd⟩ := attach_map (L := L) ms fun x hx => hms.mem_iff.1 hx
  have hdp : (d.map (·.1)).Perm L.ms := by rw [hd]; exact hms
  have hbs : (ms.map LM.ptr).map encP = d.map (encM L) := by rw [← hd, List.map_map, List.map_map]; rfl
  have hl2 : (ms.map LM.ptr).length = d.length := by rw [← hd]; simp
  rw [hbs, hl2] at hrow
  obtain ⟨A, c, rfl⟩ := row_len hrow
  have hd256 : d.length ≤ 256 := by
    have := hms.length_eq
    have := H.out.few
    have : d.length = ms.length := by rw [← hd]; simp
    omega
  have HR := Lib.hid hrow
  have HB := Lib.hid hbl
  have HDP := Lib.hid hdp
  clear hp hrow hbl hms hd hdp hbs hl2 hz1
  have HM0 : Hid (LiMid w.heap.size (w.setCell ⟨p, 0, none⟩ (.int .i32 1)) w1 (.slice A d.length c) (.slice none 0 0) d 0) := Lib.hid ⟨⟨[], World.ownsRow_nil _ _ _ _, by simpa using Reps.none RH 4⟩, HR.out, HB.out⟩
  have hm1 : d.length ≤ 9223372036854775807 := by omega
  go_wp2_with fail
  go_loopw [3, 16] (fun v3 v16 wr => ∃ k : Nat, k ≤ d.length ∧ v16 = .int .i64 k ∧ Hid (LiMid w.heap.size (w.setCell ⟨p, 0, none⟩ (.int .i32 1)) wr (.slice A d.length c) v3 d k)) (fun _ v16 _ => d.length - (intOf v16).toNat)
  case atStart => exact ⟨0, Nat.zero_le _, rfl, HM0⟩
  case round =>
    obtain ⟨k, hk, rfl, HM⟩ := hrel
    obtain ⟨v3, rfl⟩ : ∃ v3 : Value, v3 = u3 := ⟨_, rfl⟩
    by_cases hlt : k < d.length
    · obtain ⟨x, hx⟩ : ∃ x, d[k]? = some x := ⟨d[k], List.getElem?_eq_getElem hlt⟩
      obtain ⟨g, rfl, hcg⟩ := HM.out.cell hx
      have hwL : (w.setCell ⟨p, 0, none⟩ (.int .i32 1)).heap.size = w.heap.size := by simp [World.setCell]
      have hmd := ((S1.out.is.below (by rw [hwL]; exact HM.out.below)).mods x.1 x.2)
      obtain ⟨hmb, hmr⟩ := hmd
      obtain ⟨A2, c2, hval⟩ := row_len hmr
      have e0 : wr.cell? ⟨x.1.blk, 0, none⟩ = some (.string x.1.name) := by rw [Lib.cell_of_heap hmb]; rfl
      have e1 : wr.cell? ⟨x.1.blk, 1, none⟩ = some (.int .i64 x.1.ver) := by rw [Lib.cell_of_heap hmb]; rfl
      have e2 : wr.cell? ⟨x.1.blk, 2, none⟩ = some (.slice A2 x.1.dat.length c2) := by rw [Lib.cell_of_heap hmb, ← hval]; rfl
      have e3 : wr.cell? ⟨x.1.blk, 3, none⟩ = some (.int .i64 x.1.used) := by rw [Lib.cell_of_heap hmb]; rfl
      have HX := Lib.hid hx
      obtain ⟨inner, hown, hreps⟩ := HM.out.row
      have hb0 : w.heap.size ≤ wr.heap.size := by have := HM.out.below.size; simpa [World.setCell] using this
      have hxw : x.1.blk < w.heap.size := mod_old H.out x.2
      have hxr : x.1.blk < wr.heap.size := by omega
      have ag : v3.ownBlock ≠ some x.1.blk := fun e => by
        have := (row_tyN hown e).1
        omega
      have HRp := Lib.hid hreps
      clear hx hwL hmb hmr hval hreps
      go_wp2_with fail
      go_region_held3 (fun w' => w'.cell? ⟨x.1.blk, 0, none⟩ = some (.string x.1.name) ∧ w'.cell? ⟨x.1.blk, 1, none⟩ = some (.int .i64 x.1.ver) ∧ w'.cell? ⟨x.1.blk, 2, none⟩ = some (.slice A2 x.1.dat.length c2) ∧ w'.cell? ⟨x.1.blk, 3, none⟩ = some (.int .i64 x.1.used))
        (first
          | go_keep
          | (go_split_ands
             refine ⟨?_, ?_, ?_, ?_⟩
             · (rw [hgrow.cell_far _ (by simp; omega) (Ne.symm ag)]; assumption)
             · (rw [hgrow.cell_far _ (by simp; omega) (Ne.symm ag)]; assumption)
             · (rw [hgrow.cell_far _ (by simp; omega) (Ne.symm ag)]; assumption)
             · (rw [hgrow.cell_far _ (by simp; omega) (Ne.symm ag)]; assumption)))
        ((refine step_append_lies _ (by rfl) _ _ _ (by rfl) w.heap.size 39 i0 _ 4 40 Try.underlying34 hi hz0 hz1 hz2 rfl (by omega) v3 k inner (by rfl) ((hown.alloc _).drew)
            ⟨wr.heap.size, 0, none⟩ 1 1 (encH x) (by rfl) (by rfl) (World.news_of_block (cs := #[.string x.1.name, .int .i64 x.1.ver, .int .i64 x.1.dat.length, .int .i64 x.1.used]) (t := 39) (fr := (0, 0)) (heap_alloc_new wr _)) (by simp [Value.oneCell'])
            (by omega) (by unfold maxLen; omega) (by omega) (by simp; omega) (wr.heap.size + 1) (by simp) ?_; intro gg cap w2 hown1 hgrow hat hlt))
      have HN := Lib.hid (HM.out.next HX.out HRp.out hown _ hown1 hgrow hb0)
      clear hown1 hgrow hown hat hlt
      go_wp2_with fail
      go_roundw
      case rel => exact ⟨k + 1, by omega, by go_num, HN⟩
      case measure => simp [intOf]; omega
    · obtain rfl : k = d.length := by omega
      have hwL : (w.setCell ⟨p, 0, none⟩ (.int .i32 1)).heap.size = w.heap.size := by simp [World.setCell]
      have HS := Lib.hid (sortL_any H.out.keys _ wr w.heap.size d v3 HDP.out hd256 (by
        obtain ⟨inner, h1, h2⟩ := HM.out.row
        rw [List.take_length] at h2
        exact ⟨inner, h1, h2⟩) HM.out.below (by rw [hwL]; exact Nat.le_refl _))
      clear hwL
      go_wp2_with fail
      refine HS.out.mono ?_
      rintro e w5 ⟨rfl, hrow5, hbl5⟩
      have HR5 := Lib.hid hrow5
      have S5 := Lib.hid (S1.out.trans (Step.refl S1.out.is (show Below (w.setCell ⟨p, 0, none⟩ (.int .i32 1)).heap.size _ _ by simpa [World.setCell] using hbl5)))
      clear hrow5 hbl5
      go_wp2
      refine leaves_cons (f := 20) (args := #[.pointer (some ⟨p, 0, none⟩)]) (by simp) (by simp [go_sem]) ?_
      refine (unlock_deferred Try.muLib ⟨p, 0, none⟩ .returning _ S5.out.is.lockCell.1 S5.out.is.lockCell.2).mono ?_
      rintro e u' w'' ⟨rfl, rfl, rfl⟩
      have hpw : p < w.heap.size := H.out.lt (.inl rfl)
      refine ⟨_, results_tmp rfl _ _ _, v3, rfl, ?_, ?_⟩
      · obtain ⟨inner, h1, h2⟩ := HR5.out
        refine ⟨inner, row_farN h1 (Same.set (S := fun k => k = p) _ _ _ rfl) fun j hj e => ?_, h2⟩
        have := (row_tyN h1 hj).1
        omega
      · have := S5.out.unlock
        rwa [show ({ ({ L with lk := 1 } : Lay) with lk := 0 } : Lay) = L from unlk HL.out] at this
end Go.Proofs.Ytancenklmfamnaa.Sh
