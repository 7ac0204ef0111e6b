/- (*Shelf).find. -/
import Derived.Test.YtancenklmfamnaaShKeys
set_option linter.unusedVariables false
set_option linter.unusedSimpArgs false
namespace Go.Proofs.Ytancenklmfamnaa.Sh
open Go.RowKit Go.Maps Go.Sort Go.Shelf
open Go.Proofs

def Lay.vers (L : Lay) (nm : ByteArray) : List Int := (L.ms.filter fun m => decide (m.name = nm)).map (·.ver)
def Lay.which (L : Lay) (nm : ByteArray) (v : Int) (newest : Bool) : Int := if v = 0 ∧ newest = true then newestOf (L.vers nm) else v
def Lay.find (L : Lay) (nm : ByteArray) (v : Int) (newest : Bool) : Option LM × Int :=
  if L.nOf nm = 0 then (none, 3) else match L.modOf nm (L.which nm v newest) with
  | some m => (some m, 0)
  | none => (none, 270)
def mptr (o : Option LM) : Value := .pointer (o.map fun m => ⟨m.blk, 0, none⟩)

theorem inner_intKeys {W : World} {n b : Nat} {D : DataW Unit} {ms : List LM} {nm : ByteArray} (hk : (ms.map fun m => (m.name, m.ver)).Nodup) (h : View D (innerF ms nm)) (hown : W.ownsMap Try.prog 2 ptrElem b n D) : (intKeys D).Perm ((ms.filter fun m => decide (m.name = nm)).map (·.ver)) := by
  have hn := inner_keys (nm := nm) hk
  obtain ⟨es, rfl, hp, hl⟩ := hown.entries K2
  have hes : (es.map (·.1)).Nodup := List.pairwise_map.2 hp
  have hperm : (es.map (·.1)).Perm ((ms.filter fun m => decide (m.name = nm)).map verK) := (List.perm_ext_iff_of_nodup hes hn).2 fun x => by
    rw [← inner_ks, ← h.has, has_eq, List.any_eq_true, List.mem_map]
    constructor
    · rintro ⟨q, hq, rfl⟩
      refine ⟨q, hq, ?_⟩
      have := hl q hq
      revert this
      cases q.1 <;> simp [WideAt.IsKeyLit, Lit.sameKey]
    · rintro ⟨q, hq, hs⟩
      exact ⟨q, hq, WideAt.sameKey_eq hs⟩
  have h2 := hperm.map Go.intOf
  rw [List.map_map, List.map_map] at h2
  exact h2

set_option maxHeartbeats 2000000 in
set_option maxRecDepth 100000 in
theorem keys42 (mb : Option Nat) (w : World) : Calls Try.prog 42 #[.map mb] w fun e w' => e = .returned (.func (.func 62) #[] #[.pointer (some ⟨w.heap.size, 0, none⟩)]) ∧ w' = w.alloc (.cells #[.map mb] 86) :=
  (callsIn_wide (n := 6)).1 (keys_in Fence.wide 6 trivial rfl _ w)

set_option maxHeartbeats 4000000 in
set_option maxRecDepth 100000 in
theorem find_any (B p : Nat) (L : Lay) (w : World) (h : ShelfIs B w p L) (g : Good L) (nm : ByteArray) (hnm : nm.size ≤ maxLen) (v : Int) (hv : (Lit.int .i64 v).wf = true) (newest : Bool) :
    Calls Try.prog 23 #[.pointer (some ⟨p, 0, none⟩), .string nm, .int .i64 v, .bool newest] w fun e w' => e = .returned (.tuple #[mptr (L.find nm v newest).1, .int .i64 (L.find nm v newest).2]) ∧ Below w.heap.size w w' := by
  obtain ⟨sem, hblk⟩ := h.blk
  have c6 : w.cell? ⟨p, 6, none⟩ = some (.map (some L.mm)) := by rw [Lib.cell_of_heap hblk]; rfl
  have hlo := h.lookOuter nm hnm
  have lenN := fun (w : World) => lenNil (W := w) 3
  have H := Lib.hid h
  have G := Lib.hid g
  clear h g hblk
  cases hin : L.innOf nm with
  | none =>
    rw [hin] at hlo
    have hn0 : L.nOf nm = 0 := (nOf_drop_iff H.out nm).2 fun x hx e => by
      obtain ⟨ib, hib⟩ := H.out.home hx
      rw [e, hin] at hib
      cases hib
    have hf : L.find nm v newest = (none, 3) := by unfold Lay.find; rw [if_pos hn0]
    rw [hf]
    clear hin hn0 hf
    go_enter Try.func23, Try.ntmps23
    go_wp2
    go_ret2
    exact ⟨rfl, Below.refl _ _⟩
  | some ib =>
    rw [hin] at hlo
    have hle := H.out.lenInner hin 3
    by_cases hn0 : L.nOf nm = 0
    · have hf : L.find nm v newest = (none, 3) := by unfold Lay.find; rw [if_pos hn0]
      rw [hf]
      rw [hn0] at hle
      clear hin hn0 hf
      go_enter Try.func23, Try.ntmps23
      go_wp2
      go_ret2
      exact ⟨rfl, Below.refl _ _⟩
    · have hle0 : ((L.nOf nm : Int) == 0) = false := by rw [beq_eq_false_iff_ne]; omega
      by_cases hw : v = 0 ∧ newest = true
      · obtain ⟨rfl, rfl⟩ := hw
        obtain ⟨nn, D, hnn, hown, hV⟩ := H.out.inner _ (H.out.inn_mem hin)
        have hkeys := inner_intKeys H.out.keys hV hown
        have hsz : Maps.size D ≤ 1000000 := by
          rw [hV.size hown K2 (inner_keys H.out.keys) (inner_ks _ _), List.length_map]
          change (L.ms.filter fun m => decide (m.name = nm)).length ≤ 1000000
          have h1 : (L.ms.filter fun m => decide (m.name = nm)).length ≤ L.ms.length := List.length_filter_le _ _
          have := H.out.few
          omega
        have hvs : ∀ x ∈ L.vers nm, 1 ≤ x := fun x hx => by
          obtain ⟨m, hm, rfl⟩ := List.mem_map.1 hx
          exact (G.out.vers m (List.mem_filter.1 hm).1).1
        have hl1 : 0 < (L.vers nm).length := by simp only [Lay.vers, List.length_map]; exact Nat.pos_of_ne_zero hn0
        have hl2 : (L.vers nm).length ≤ 256 := by
          simp only [Lay.vers, List.length_map]
          have := List.length_filter_le (fun m : LM => decide (m.name = nm)) L.ms
          have := H.out.few
          omega
        have C41 := Lib.hid (collect_any w.heap.size ib nn D (w.alloc (.cells #[.map (some ib)] 86)) (by simp) ((Lib.cell_of_heap (World.alloc_heap_new w _) 0).trans rfl) (hown.alloc _) hsz)
        have hf : L.find nm 0 true = match L.modOf nm (newestOf (L.vers nm)) with
          | some m => (some m, 0)
          | none => (none, 270) := by
          unfold Lay.find Lay.which
          rw [if_neg hn0, if_pos ⟨rfl, rfl⟩]
        rw [hf]
        clear hf
        generalize hom : L.modOf nm (newestOf (L.vers nm)) = om
        have HOM := Lib.hid hom
        clear hom
        cases om
        all_goals
          have HKS := Lib.hid hkeys
          have HVS := Lib.hid hvs
          have HIN := Lib.hid hin
          clear hown hV hkeys hvs hin
          go_enter Try.func23, Try.ntmps23
          go_wp2_with (go_at_call 42; ((refine (keys42 _ _).mono ?_); rintro e w1 ⟨rfl, rfl⟩))
          refine C41.out.mono ?_
          rintro e w2 ⟨v2, ss, rfl, ⟨ps, hps, rfl⟩, hrow, hbl⟩
          have hperm : (ps.map (·.1)).Perm (L.vers nm) := hps.1.trans HKS.out
          generalize ps.map (·.1) = ss at hrow hperm
          cases ss with
          | nil =>
            have := hperm.length_eq
            simp at this
            omega
          | cons a tl =>
            obtain ⟨hmx, hmem⟩ := newest_eq hperm rfl HVS.out
            have htl : tl.length ≤ 1000000 := by
              have := hperm.length_eq
              simp at this
              omega
            have C40 := max_any _ v2 a tl w2 hrow htl
            rw [hmx] at C40
            have hwf : (Lit.int .i64 (newestOf (L.vers nm))).wf = true := by
              obtain ⟨m, hm, e⟩ := List.mem_map.1 hmem
              rw [← e]
              exact G.out.wf (List.mem_filter.1 hm).1
            have hb2 : Below w.heap.size w w2 := ((Below.refl _ w).alloc (Nat.le_refl _) (.cells #[.map (some ib)] 86)).trans (hbl.mono (by simp))
            have hli := (H.out.below hb2).lookInner HIN.out (newestOf (L.vers nm)) hwf
            have HC40 := Lib.hid C40
            have HB2 := Lib.hid hb2
            clear hps hrow hperm hmx hmem C40 hbl hb2 hwf
            rw [HOM.out] at hli
            go_wp2_with (go_at_call 40; ((refine HC40.out.mono ?_); rintro e w3 ⟨rfl, rfl⟩))
            go_ret2
            exact ⟨rfl, HB2.out⟩
      · have hli := H.out.lookInner hin v hv
        have hf : L.find nm v newest = match L.modOf nm v with
          | some m => (some m, 0)
          | none => (none, 270) := by
          unfold Lay.find Lay.which
          rw [if_neg hn0, if_neg hw]
        rw [hf]
        clear hin hf
        generalize L.modOf nm v = om at hli
        cases newest with
        | false =>
          clear hw
          cases hv0 : (v == 0) <;> cases om
          all_goals
            go_enter Try.func23, Try.ntmps23
            go_wp2
            go_ret2
            exact ⟨rfl, Below.refl _ _⟩
        | true =>
          have hv0 : (v == 0) = false := by rw [beq_eq_false_iff_ne]; exact fun e => hw ⟨e, rfl⟩
          clear hw
          cases om
          all_goals
            go_enter Try.func23, Try.ntmps23
            go_wp2
            go_ret2
            exact ⟨rfl, Below.refl _ _⟩
end Go.Proofs.Ytancenklmfamnaa.Sh
