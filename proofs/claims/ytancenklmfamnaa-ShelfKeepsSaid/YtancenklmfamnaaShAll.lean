/- (*Shelf).all: the models, in some order. -/
import Derived.Test.YtancenklmfamnaaShDef
import Derived.Maps.RangeWalk
import Derived.Lib.Hide
import Derived.Lib.Builder
import Derived.Deep.DeepMust
set_option linter.unusedVariables false
set_option linter.unusedSimpArgs false
namespace Go.Proofs.Ytancenklmfamnaa.Sh
open Go.RowKit Go.Maps Go.Sort Go.Shelf
open Go.Proofs

theorem nodup_of_map {α β : Type} {l : List α} {f : α → β} (h : (l.map f).Nodup) : l.Nodup := (List.pairwise_map.1 h).imp (fun hne e => hne (by rw [e]))
theorem map_inj {α β : Type} {f : α → β} : ∀ {l : List α}, (l.map f).Nodup → ∀ {a b : α}, a ∈ l → b ∈ l → f a = f b → a = b
  | [], _, _, _, ha, _, _ => by cases ha
  | x :: l, h, a, b, ha, hb, e => by
    simp only [List.map_cons, List.nodup_cons] at h
    rcases List.mem_cons.1 ha with e1 | ha' <;> rcases List.mem_cons.1 hb with e2 | hb'
    · rw [e1, e2]
    · exact (h.1 (List.mem_map.2 ⟨b, hb', by rw [← e, e1]⟩)).elim
    · exact (h.1 (List.mem_map.2 ⟨a, ha', by rw [e, e2]⟩)).elim
    · exact map_inj h.2 ha' hb' e
theorem find_key {ms : List LM} {nm : ByteArray} {v : Int} {m : LM} (h : ms.find? (fun m => decide (m.name = nm) && decide (m.ver = v)) = some m) : m ∈ ms ∧ m.name = nm ∧ m.ver = v := by
  have h1 := List.find?_some h
  simp at h1
  exact ⟨List.mem_of_find?_eq_some h, h1⟩

/-- all values of an inner map: the models of that name -/
theorem vals_of_inner {ms : List LM} {nm : ByteArray} {D : DataW Unit} {ps : List (Int × Option Addr)} (hV : View D (innerF ms nm)) (hk : (ms.map fun m => (m.name, m.ver)).Nodup) (h : AllOf D ps) {n b : Nat} {W : World}
    (hown : W.ownsMap Try.prog 2 ptrElem b n D) : (ps.map (·.2)).Perm ((ms.filter fun m => decide (m.name = nm)).map LM.ptr) := by
  obtain ⟨hp, hv⟩ := h
  obtain ⟨es, rfl, hes, hkl⟩ := hown.entries (int_keyed Try.underlying2)
  have hnd : (ps.map (·.1)).Nodup := hp.nodup_iff.2 (by
    obtain ⟨es', e, hks⟩ := hown.keysOf
    cases e
    show (es.map fun p => intOf p.1).Nodup
    refine List.pairwise_map.2 (hes.imp_of_mem fun {p q} hp' hq' hne e => hne ?_)
    obtain ⟨a, ha⟩ := hks p hp'
    obtain ⟨a', ha'⟩ := hks q hq'
    obtain ⟨x, _, hx, _⟩ := Maps.keyOf_i64 Try.underlying2 ha
    obtain ⟨x', _, hx', _⟩ := Maps.keyOf_i64 Try.underlying2 ha'
    rw [hx, hx'] at e ⊢
    exact congrArg _ e)
  have hps : ps.Nodup := nodup_of_map hnd
  have hmem : ∀ x, x ∈ ps.map (·.1) ↔ has (.map es) (.int .i64 x) = true := by
    intro x
    rw [hp.mem_iff, has_eq, List.any_eq_true]
    show x ∈ es.map (fun p => intOf p.1) ↔ _
    rw [List.mem_map]
    obtain ⟨es', e, hks⟩ := hown.keysOf
    cases e
    constructor
    · rintro ⟨p, hp', rfl⟩
      obtain ⟨a, ha⟩ := hks p hp'
      obtain ⟨y, _, hy, _⟩ := Maps.keyOf_i64 Try.underlying2 ha
      exact ⟨p, hp', by rw [hy]; simp [Lit.sameKey, intOf]⟩
    · rintro ⟨p, hp', hs⟩
      exact ⟨p, hp', by rw [WideAt.sameKey_eq hs]; rfl⟩
  have hsub : (ms.filter fun m => decide (m.name = nm)).Sublist ms := List.filter_sublist
  have hq : ((ms.filter fun m => decide (m.name = nm)).map fun m => (m.ver, m.ptr)).Nodup := by
    have h1 : ((ms.filter fun m => decide (m.name = nm)).map fun m => (m.name, m.ver)).Nodup := (hsub.map _).nodup hk
    refine List.pairwise_map.2 ((List.pairwise_map.1 h1).imp_of_mem fun {a c} ha hc hne e => hne ?_)
    simp at ha hc e
    rw [ha.2, hc.2, e.1]
  have hperm : ps.Perm ((ms.filter fun m => decide (m.name = nm)).map fun m => (m.ver, m.ptr)) := by
    refine (List.perm_ext_iff_of_nodup hps hq).2 fun x => ?_
    constructor
    · intro hx
      have h1 := (hmem x.1).1 (List.mem_map_of_mem hx)
      have h2 := hv x hx (.lit (.int .i64 0))
      rw [hV.has] at h1
      rw [hV.at_] at h2
      obtain ⟨d, hd⟩ := Option.isSome_iff_exists.1 h1
      rw [hd] at h2
      unfold innerF at hd
      simp only [Option.map_eq_some_iff] at hd
      obtain ⟨m, hm, rfl⟩ := hd
      obtain ⟨m1, m2, m3⟩ := find_key hm
      refine List.mem_map.2 ⟨m, List.mem_filter.2 ⟨m1, by simpa using m2⟩, ?_⟩
      have := ptr_of_litB h2.symm
      ext1
      · exact m3
      · exact this.symm
    · intro hx
      obtain ⟨m, hm, rfl⟩ := List.mem_map.1 hx
      obtain ⟨m1, m2⟩ := List.mem_filter.1 hm
      have m2 : m.name = nm := by simpa using m2
      have hf : ms.find? (fun m' => decide (m'.name = nm) && decide (m'.ver = m.ver)) = some m := by
        cases e : ms.find? (fun m' => decide (m'.name = nm) && decide (m'.ver = m.ver)) with
        | none => exact absurd (List.find?_eq_none.1 e m m1) (by simp [m2])
        | some m' =>
          obtain ⟨a1, a2, a3⟩ := find_key e
          have := map_inj hk a1 m1 (by rw [a2, a3, m2])
          rw [this]
      have hF : innerF ms nm (.int .i64 m.ver) = some (litB m.blk) := by simp only [innerF]; rw [hf]; rfl
      have h1 : has (.map es) (.int .i64 m.ver) = true := by rw [hV.has, hF]; rfl
      obtain ⟨q, hq1, hq2⟩ := List.mem_map.1 ((hmem m.ver).2 h1)
      have h2 := hv q hq1 (.lit (.int .i64 0))
      rw [hq2, hV.at_, hF] at h2
      have := ptr_of_litB h2.symm
      have e : q = (m.ver, m.ptr) := by
        ext1
        · exact hq2
        · exact this
      rw [← e]
      exact hq1
  have := hperm.map (·.2)
  simpa [List.map_map, Function.comp_def] using this

theorem ShelfIs.below {B p : Nat} {W W1 : World} {L : Lay} (h : ShelfIs B W p L) (hb : Below W.heap.size W W1) : ShelfIs B W1 p L := by
  have mv : ∀ {k : TypeId} {R : Value → Option (DataW Unit × List MemPlace)} {b n : Nat} {D : DataW Unit}, W.ownsMap Try.prog k R b n D → W1.ownsMap Try.prog k R b n D := fun hm => by
    have hl := hm.lt
    obtain ⟨es, clock, h1, F, hs, hD⟩ := hm
    exact ⟨es, clock, (hb.block _ hl).trans h1, F, hs, hD⟩
  have bk : ∀ {k : Nat} {o : Obj}, W.heap[k]? = some o → W1.heap[k]? = some o := fun hk => (hb.block _ (Array.getElem?_eq_some_iff.1 hk).1).trans hk
  obtain ⟨sem, h1⟩ := h.blk
  obtain ⟨n1, D1, a1, a2, a3⟩ := h.outer
  obtain ⟨n2, D2, b1, b2, b3⟩ := h.names
  exact { h with
    blk := ⟨sem, bk h1⟩
    outer := ⟨n1, D1, a1, mv a2, a3⟩
    names := ⟨n2, D2, b1, mv b2, b3⟩
    inner := fun x hx => by obtain ⟨n, D, c1, c2, c3⟩ := h.inner x hx; exact ⟨n, D, c1, mv c2, c3⟩
    mods := fun m hm => by
      obtain ⟨c1, c2⟩ := h.mods m hm
      refine ⟨bk c1, c2.1, ?_⟩
      rcases c2.2 with c | ⟨g, cap, cur, e1, e2, e3, e4⟩
      · exact .inl c
      · exact .inr ⟨g, cap, cur, e1, e2, bk e3, e4⟩ }

theorem infoSl : (Try.prog.info? 79).map (fun i => (i.zero, i.size, i.bytes)) = some (some (.slice none 0 0), 1, 24) := by kernel_rfl

theorem filter_two {α : Type} (f g : α → Bool) : ∀ (l : List α), (∀ x ∈ l, f x = true → g x = false) → (l.filter fun x => f x || g x).Perm (l.filter f ++ l.filter g)
  | [], _ => .refl _
  | x :: l, h => by
    have ih := filter_two f g l (fun y hy => h y (List.mem_cons_of_mem _ hy))
    cases hf : f x with
    | true =>
      have hg := h x List.mem_cons_self hf
      simpa [List.filter_cons, hf, hg] using ih.cons x
    | false =>
      cases hg : g x with
      | true => simpa [List.filter_cons, hf, hg] using (ih.cons x).trans List.perm_middle.symm
      | false => simpa [List.filter_cons, hf, hg] using ih
theorem outer_find {inn : List (ByteArray × Nat)} {s : List UInt8} {d : DataW Unit} (h : outerF inn (.string s) = some d) : ∃ x ∈ inn, x.1.data.toList = s ∧ d = litB x.2 := by
  simp only [outerF, Option.map_eq_some_iff] at h
  obtain ⟨x, hx, rfl⟩ := h
  exact ⟨x, List.mem_of_find?_eq_some hx, by simpa using List.find?_some hx, rfl⟩
theorem outer_has {inn : List (ByteArray × Nat)} {nm : ByteArray} (h : nm ∈ inn.map (·.1)) : (outerF inn (.string nm.data.toList)).isSome = true := by
  obtain ⟨x, hx, rfl⟩ := List.mem_map.1 h
  simp only [outerF, Option.isSome_map, List.find?_isSome]
  exact ⟨x, hx, by simp⟩
theorem mapElem_litB {c : Option Nat} {b : Nat} {ps : List MemPlace} (h : mapElem (.map c) = some (litB b, ps)) : c = some b := by
  cases c with
  | none => simp [mapElem, litB] at h
  | some c => simp [mapElem, litB] at h; simp; omega
theorem toList_inj {a b : ByteArray} (h : a.data.toList = b.data.toList) : a = b := by
  cases a; cases b; simp at h; simp [h]
theorem cells_not {W : World} {b : Nat} {n : Nat} {k : TypeId} {R : Value → Option (DataW Unit × List MemPlace)} {D : DataW Unit} (h : W.ownsMap Try.prog k R b n D) : ∃ o, W.heap[b]? = some o ∧ o.isCells = false := by
  obtain ⟨es, clock, hb, _⟩ := h
  exact ⟨_, hb, rfl⟩

set_option maxHeartbeats 4000000 in
set_option maxRecDepth 1000000 in
theorem all_any (B p : Nat) (L : Lay) (w : World) (h : ShelfIs B w p L) :
    Calls Try.prog 26 #[.pointer (some ⟨p, 0, none⟩)] w fun e w' => ∃ (v : Value) (bs : List (Option Addr)), e = .returned v ∧ bs.Perm (L.ms.map LM.ptr) ∧ w'.ownsRow w.heap.size 72 1 v bs.length (bs.map encP) ∧ Below w.heap.size w w' := by
  obtain ⟨sem, hblk⟩ := h.blk
  obtain ⟨n1, D1, hn1, hown1, hv1⟩ := h.outer
  have c6 : w.cell? ⟨p, 6, none⟩ = some (.map (some L.mm)) := by rw [Lib.cell_of_heap hblk]; rfl
  have H := Lib.hid h
  have HO := Lib.hid hown1
  clear h hblk hown1
  go_enter Try.func26, Try.ntmps26
  go_wp2_with (at_range; go_must (refine wpList_range_own _ rfl _ 60 rfl 9 86 (string_keyed Try.underlying9) Try.underlying60 mapElem L.mm n1 D1 rfl HO.out ?_; intro w0 hrg0 hg0 hs0))
  have HG0 := Lib.hid hg0
  have HS0 := Lib.hid hs0
  clear hg0 hs0
  go_frame
  go_loopw [3] (fun v3 wr => ∃ (left : Lit → Bool) (cnt : Nat) (nms : List (List UInt8)) (bs : List (Option Addr)), wr.ranges Try.prog 9 mapElem L.mm w.heap.size n1 D1 left cnt ∧ Collected D1 left nms ∧ bs.Perm ((L.ms.filter fun m => decide (m.name.data.toList ∈ nms)).map LM.ptr) ∧
      wr.ownsRow w.heap.size 72 1 v3 bs.length (bs.map encP) ∧ Below w.heap.size w wr) (fun _ wr => wr.rangeLeft L.mm w.heap.size)
  case atStart =>
    exact ⟨_, _, [], [], hrg0, Collected.start D1, by simp, World.ownsRow_nil _ _ _ _, (Below.refl _ w).grown HG0.out (Nat.le_refl _) (fun j e => by cases e)⟩
  case round =>
    obtain ⟨left, cnt, nms, bs, hrg, hC, hbs, hrow, hbl⟩ := hrel
    have HRG := Lib.hid hrg
    have HC := Lib.hid hC
    have HBS := Lib.hid hbs
    have HROW := Lib.hid hrow
    have HBL := Lib.hid hbl
    clear hrg hC hbs hrow hbl hrg0
    go_wp2_with (at_next; go_must (refine wpList_next_ranges _ rfl _ rfl 9 (string_keyed Try.underlying9) mapElem encStr Value.map (fun key kl hk => by obtain ⟨x, hx, _⟩ := Maps.keyOf_str Try.underlying9 hk; exact ⟨x, hx⟩) (fun v y hv => by obtain ⟨c, hc, _⟩ := mapElem_inv hv; exact ⟨c, hc⟩) L.mm w.heap.size n1 _ _ _ rfl HRG.out ?_ ?_))
    · intro hc0 hl0
      have hbs2 : bs.Perm (L.ms.map LM.ptr) := by
        have e : (L.ms.filter fun m => decide (m.name.data.toList ∈ nms)) = L.ms := List.filter_eq_self.2 fun m hm => by
          have h1 := outer_has (H.out.homed m hm)
          rw [← hv1.has] at h1
          simpa using (HC.out.2 _).2 ⟨h1, hl0 _⟩
        have := HBS.out
        rwa [e] at this
      go_wp2
      go_ret
      exact ⟨_, bs, rfl, hbs2, HROW.out, HBL.out⟩
    · intro x c kl yd yp w2 cnt2 hkey hlk hv hat hrg2 hlt hg2 hs2 hen
      obtain ⟨x', ex, rfl, _⟩ := Maps.keyOf_str Try.underlying9 hkey
      obtain rfl : x = x' := encStr_inj ex
      have hhas : has D1 (.string x) = true := has_true_of_atKey hat
      rw [hv1.has] at hhas
      obtain ⟨d, hd⟩ := Option.isSome_iff_exists.1 hhas
      obtain ⟨⟨nm, ib⟩, hin, hx, rfl⟩ := outer_find hd
      have h1 := hat (.lit (.int .i64 0))
      rw [hv1.at_, hd] at h1
      simp only [Option.getD_some] at h1
      subst h1
      obtain rfl := mapElem_litB hv
      obtain ⟨nI, DI, hnI, hownI, hvI⟩ := H.out.inner _ hin
      have bl2 : Below w.heap.size w w2 := HBL.out.grown hg2 HBL.out.size (fun j e => by cases e; exact Nat.le_refl _)
      have hib : ib < w.heap.size := hownI.lt
      have hownI2 : w2.ownsMap Try.prog 2 ptrElem ib nI DI := by
        obtain ⟨es, clock, e1, F, e2, e3⟩ := hownI
        exact ⟨es, clock, (bl2.block _ hib).trans e1, F, e2, e3⟩
      have hrow2 := HROW.out.kept hg2 (by
        by_cases e : u3.ownBlock = none
        · exact .inl e
        · refine .inr fun e' => ?_
          obtain ⟨o, ho, hw⟩ := HRG.out.iter_walk
          exact row_not_other HROW.out ho (Obj.not_cells_of_walk hw) e'.symm)
      have HRG2 := Lib.hid hrg2
      have HROW2 := Lib.hid hrow2
      have HOWN2 := Lib.hid hownI2
      have HBL2 := Lib.hid bl2
      have HLK := Lib.hid hlk
      have HAT := Lib.hid hat
      have HLT := Lib.hid hlt
      have HVI := Lib.hid hvI
      have HX := Lib.hid hx
      clear hrg2 hrow2 hownI2 hownI bl2 hlk hat hlt hvI hs2 hg2 hv hd hkey hx
      have hBB : w.heap.size ≤ (w2.alloc (.cells #[.map (some ib)] 86)).heap.size := by have := HBL2.out.size; simp; omega
      have hNN : bs.length + size DI ≤ 17592186044416 := by
        have h1 := HBS.out.length_eq
        have h2 := List.length_filter_le (fun m : LM => decide (m.name.data.toList ∈ nms)) L.ms
        have h3 := H.out.few
        have h4 := HOWN2.out.size_le
        simp at h1
        omega
      have CV : ∀ W : World, Calls Try.prog 44 #[.map (some ib)] W fun e w' => e = .returned (.func (.func 63) #[] #[.pointer (some ⟨W.heap.size, 0, none⟩)]) ∧ w' = W.alloc (.cells #[.map (some ib)] 86) := fun W => (callsIn_wide (n := 6)).1 (values_in Fence.wide 6 trivial rfl _ W)
      go_wp2_with (first
        | (go_at_call 44; go_must (refine (CV _).mono ?_; rintro e w3 ⟨rfl, rfl⟩))
        | (go_at_call 43; go_must (refine ((callsIn_wide (n := 6)).1 (appendSeq_in Fence.wide 6 trivial rfl (by omega) 63 _ trivial (enters_of Try.func63 (by kernel_rfl) rfl) _ _ _ w.heap.size _ bs _ (HROW2.out.alloc _) hBB hNN (values_stops Fence.wide 5 trivial rfl (by omega) w2.heap.size ib nI DI _ (by simp) ((Lib.cell_of_heap (World.alloc_heap_new w2 _) 0).trans rfl) (HOWN2.out.alloc _)))).mono ?_; rintro e w4 ⟨v, ss, rfl, ⟨ps, hps, rfl⟩, hrow4, hg4, hat4⟩)))
      have hbl4 : Below w.heap.size w w4 := (HBL2.out.alloc HBL2.out.size _).grown hg4 (by have := HBL2.out.size; simp; omega) (fun j e => (HROW2.out.lt j e).1)
      have hrow2' : (w2.alloc (.cells #[.map (some ib)] 86)).ownsRow w.heap.size 72 1 u3 bs.length (bs.map encP) := HROW2.out.alloc _
      have hrg4 := (HRG2.out.alloc (.cells #[.map (some ib)] 86)).kept hg4 (by
        obtain ⟨o, ho, hc⟩ := cells_not (HRG2.out.alloc (.cells #[.map (some ib)] 86)).owns
        exact row_not_other hrow2' ho hc) (by
        obtain ⟨o, ho, hw⟩ := (HRG2.out.alloc (.cells #[.map (some ib)] 86)).iter_walk
        exact row_not_other hrow2' ho (Obj.not_cells_of_walk hw))
      have hvals := vals_of_inner HVI.out H.out.keys hps HOWN2.out
      have hnx : ¬ x ∈ nms := fun hm => by
        have h1 := ((HC.out.2 x).1 hm).2
        rw [HLK.out] at h1
        cases h1
      have hperm : (bs ++ ps.map (·.2)).Perm ((L.ms.filter fun m => decide (m.name.data.toList ∈ nms ++ [x])).map LM.ptr) := by
        have h2 := filter_two (fun m : LM => decide (m.name.data.toList ∈ nms)) (fun m : LM => decide (m.name = nm)) L.ms (fun m hm h => by
          simp at h ⊢
          rintro rfl
          exact hnx (by rw [← HX.out]; exact h))
        have e : (L.ms.filter fun m => decide (m.name.data.toList ∈ nms ++ [x])) = L.ms.filter fun m => (decide (m.name.data.toList ∈ nms) || decide (m.name = nm)) := by
          congr 1
          funext m
          have h3 : (m.name.data.toList = x) = (m.name = nm) := propext ⟨fun h => toList_inj (by rw [h, ← HX.out]), fun h => by rw [h, ← HX.out]⟩
          simp [h3]
        rw [e]
        refine ((HBS.out.append hvals).trans ?_).trans (h2.map LM.ptr).symm
        rw [List.map_append]
      go_roundw
      case rel => exact ⟨_, cnt2, nms ++ [x], bs ++ ps.map (·.2), hrg4, HC.out.step HLK.out HAT.out, hperm, by simpa using hrow4, hbl4⟩
      case measure => rw [hrg4.left_eq, HRG.out.left_eq]; exact HLT.out
end Go.Proofs.Ytancenklmfamnaa.Sh
