/- maps.Keys over the models' map, slices.AppendSeq over it, Collect, Max. Turned from ShIter. -/
import Derived.Test.YtancenklmfamnaaShLayW
set_option linter.unusedVariables false
set_option linter.unusedSimpArgs false
namespace Go.Proofs.Ytancenklmfamnaa.Sh
open Go.RowKit Go.Maps Go.Sort Go.Shelf
open Go.Proofs
attribute [local go_sem] Oper.semAt_some

set_option maxRecDepth 100000 in
set_option maxHeartbeats 1000000 in
theorem keys1S_in (F : Fence) (n : Nat) (h8 : F.fn 62) (hro : F.round = none) (hn : 1 ≤ n) (l Bm b nn : Nat) (D0 : DataW Unit) (J Jx : List Int → World → Prop)
    (hY : ∀ pre x W, J pre W → pre.length < Maps.size D0 → YieldAt F (n - 1) Try.prog l #[encZ x] W fun e W' =>
      (e = .returned (.bool true) ∧ J (pre ++ [x]) W' ∧ KeepsWalks W W') ∨ (e = .returned (.bool false) ∧ Jx (pre ++ [x]) W'))
    (W : World) (hJ : AbidesFrom W.heap.size J) (hm : W.cell? ⟨Bm, 0, none⟩ = some (.map (some b))) (hown : W.ownsMap Try.prog 2 ptrElem b nn D0) (h0 : J [] W) :
    CallsIn F n Try.prog 62 #[.func (.yield l) #[] #[], .pointer (some ⟨Bm, 0, none⟩)] W fun e W' => (∃ v, e = .returned v) ∧
      ((∃ xs, (∃ ps, AllOf D0 ps ∧ xs = ps.map (·.1)) ∧ J xs W') ∨ (∃ pre, (∃ ps, PartOf D0 ps ∧ pre = ps.map (·.1)) ∧ Jx pre W')) := by
  have K2 := int_keyed Try.underlying2
  refine callsIn_of_wp Try.func62 rfl h8 ?_ hro
  simp only [Try.ntmps62, List.size_toArray, List.length_cons, List.length_nil, Nat.reduceAdd, Nat.reduceSub, Array.replicate_succ, Array.replicate_zero, List.push_toArray, List.append_toArray, List.nil_append, List.cons_append]
  gi_wp2_with (first
    | (gi_at_range; refine wpListIn_range_own _ rfl _ 86 rfl 2 72 (int_keyed Try.underlying2) Try.underlying86 _ b nn _ rfl hown ?_; intro w0 hrg0 hg0 hs0)
    | gi_in)
  go_frame
  gi_loopw [3] (fun _ wr => ∃ (left : Lit → Bool) (cnt : Nat) (ps : List (Int × Option Addr)), wr.ranges Try.prog 2 ptrElem b W.heap.size nn D0 left cnt ∧ ps.length + cnt ≤ Maps.size D0 ∧ CollectedI D0 left (ps.map (·.1)) ∧ (∀ p ∈ ps, ValAt D0 p) ∧ J (ps.map (·.1)) wr)
    (fun _ wr => wr.rangeLeft b W.heap.size)
  case atStart =>
    exact ⟨_, _, [], hrg0, by simp, CollectedI.start D0, by simp, hJ [] W w0 none h0 hg0 (fun r e => by cases e)⟩
  case round =>
    obtain ⟨left, cnt, ps, hrg, hcs, hC, hV, hJs⟩ := hrel
    gi_wp2_with (first
      | (gi_at_next; refine wpListIn_next_ranges _ rfl _ rfl 2 (int_keyed Try.underlying2) ptrElem encZ encP (fun key kl hk => by obtain ⟨x, hx, _⟩ := Maps.keyOf_i64 Try.underlying2 hk; exact ⟨x, hx⟩) (fun v y hv => by obtain ⟨c, hc, _⟩ := ptrElem_inv hv; exact ⟨c, hc⟩) b W.heap.size nn _ _ _ rfl hrg ?_ ?_)
      | gi_in)
    · intro hc0 hl0
      gi_wp2
      go_end0
      exact ⟨⟨_, rfl⟩, .inl ⟨_, ⟨ps, ⟨hC.perm hown K2 Try.underlying2 hl0, hV⟩, rfl⟩, hJs⟩⟩
    · intro x c kl yd yp w2 cnt2 hkey hlk hv hat hrg2 hlt hg2 hs2 hen
      obtain ⟨x', ex, rfl, _⟩ := Maps.keyOf_i64 Try.underlying2 hkey
      obtain rfl : x = x' := encZ_inj ex
      obtain ⟨c', ec, ez⟩ := ptrElem_inv hv
      obtain rfl : c = c' := by simpa using ec
      obtain rfl : yd = ptrD c := (Prod.mk.inj ez).1
      have hJ2 : J (ps.map (·.1)) w2 := hJ _ wr w2 (some W.heap.size) hJs hg2 (fun r e => by cases e; exact ⟨Nat.le_refl _, hrg.iter_walk⟩)
      obtain ⟨fn, tmps, assign, body, hy, hR⟩ := hY (ps.map (·.1)) x w2 hJ2 (by simp; omega)
      clear hs2
      gi_wp2
      refine hR.mono ?_
      have hC2 : CollectedI D0 (fun z => left z && !z.sameKey (.int .i64 x)) ((ps ++ [(x, c)]).map (·.1)) := by simpa using hC.step hlk hat
      have hV2 : ∀ p ∈ ps ++ [(x, c)], ValAt D0 p := fun p hp => (List.mem_append.1 hp).elim (hV p) (fun e => by simp at e; subst e; exact hat)
      rintro e W3 (⟨rfl, hJ3, hk3⟩ | ⟨rfl, hJx3⟩)
      · gi_wp2
        have hrg3 := hrg2.of_walks hk3
        go_roundw
        case rel => exact ⟨_, cnt2, ps ++ [(x, c)], hrg3, by simp; omega, hC2, hV2, by simpa using hJ3⟩
        case measure => rw [hrg3.left_eq, hrg.left_eq]; exact hlt
      · gi_wp2
        refine bodyPost_ret (results_none rfl _ _ _) rfl ?_
        exact ⟨⟨_, rfl⟩, .inr ⟨_, ⟨ps ++ [(x, c)], hV2, by simp⟩, hJx3⟩⟩

set_option maxHeartbeats 1000000 in
theorem keys_in (F : Fence) (n : Nat) (hf : F.fn 42) (hro : F.round = none) (mb : Option Nat) (w : World) :
    CallsIn F n Try.prog 42 #[.map mb] w fun e w' => e = .returned (.func (.func 62) #[] #[.pointer (some ⟨w.heap.size, 0, none⟩)]) ∧ w' = w.alloc (.cells #[.map mb] 86) := by
  refine callsIn_of_wp Try.func42 rfl hf ?_ hro
  simp only [Try.ntmps42, List.size_toArray, List.length_cons, List.length_nil, Nat.reduceAdd, Nat.reduceSub, Array.replicate_succ, Array.replicate_zero, List.push_toArray, List.append_toArray, List.nil_append, List.cons_append]
  gi_wp2
  go_ret
  exact ⟨rfl, rfl⟩

theorem keys_stops (F : Fence) (n : Nat) (h7 : F.fn 62) (hro : F.round = none) (hn : 1 ≤ n) (Bm b nn : Nat) (D0 : DataW Unit) (w : World) (hBm : Bm < w.heap.size)
    (hm : w.cell? ⟨Bm, 0, none⟩ = some (.map (some b))) (hown : w.ownsMap Try.prog 2 ptrElem b nn D0) :
    SeqStops F n Try.prog 62 #[.pointer (some ⟨Bm, 0, none⟩)] encZ (fun xs => ∃ ps, AllOf D0 ps ∧ xs = ps.map (·.1)) (fun pre => ∃ ps, PartOf D0 ps ∧ pre = ps.map (·.1)) (Maps.size D0) w := fun l J Jx W hW hJ _ hY h0 => by
  have hown' : W.ownsMap Try.prog 2 ptrElem b nn D0 := by
    have hbl := hown.lt
    obtain ⟨es, clock, hb, Ft, hs, hD⟩ := hown
    exact ⟨es, clock, (hW.block b hbl).trans hb, Ft, hs, hD⟩
  exact keys1S_in F n h7 hro hn l Bm b nn D0 J Jx hY W hJ ((hW.cell (p := ⟨Bm, 0, none⟩) hBm).trans hm) hown' h0

theorem info2 : (Try.prog.info? 2).map (fun i => (i.zero, i.size, i.bytes)) = some (some (.int .i64 0), 1, 8) := by kernel_rfl
theorem row_not_otherI {W : World} {B k r : Nat} {v : Value} {xs : List Value} {o : Obj} (h : W.ownsRow B 2 1 v k xs) (hr : W.heap[r]? = some o) (ho : o.isCells = false) : some r ≠ v.ownBlock := by
  rcases h.2 with ⟨rfl, _⟩ | ⟨g, cap, cur, rfl, _, hg, _⟩
  · simp [Value.ownBlock]
  · intro e
    obtain rfl : r = g := by simpa [Value.ownBlock] using e
    rw [hr] at hg
    cases hg
    cases ho

set_option maxRecDepth 100000 in
set_option maxHeartbeats 2000000 in
theorem appendSeqI_in (F : Fence) (n : Nat) (h61 : F.fn 61) (hro : F.round = none) (hn : 2 ≤ n) (g : Nat) (lb : Array Value) (hFg : F.fn g) (eg : ∀ args w, (callFunc g args).run Try.prog w = .ok (.enter g args) w)
    (S Sp : List Int → Prop) (N B : Nat) (x0 : Value) (xs0 : List Int) (w : World) (hrow0 : w.ownsRow B 2 1 x0 xs0.length (xs0.map encZ)) (hB : B ≤ w.heap.size) (hN : xs0.length + N ≤ 17592186044416)
    (hseq : SeqStops F (n - 1) Try.prog g lb encZ S Sp N w) :
    CallsIn F n Try.prog 61 #[x0, .func (.func g) #[] lb] w fun e w' => ∃ (v : Value) (ss : List Int), e = .returned v ∧ S ss ∧ w'.ownsRow B 2 1 v (xs0.length + ss.length) ((xs0 ++ ss).map encZ) ∧ w.grownBy w' x0.ownBlock ∧
      (v.ownBlock = x0.ownBlock ∨ ∀ k, v.ownBlock = some k → w.heap.size ≤ k) := by
  have h1 : 1 ≤ n := by omega
  obtain ⟨i0, hi, hz0, hz1, hz2⟩ := info_parts info2
  obtain ⟨A0, c0, rfl⟩ : ∃ A0 c0, x0 = .slice A0 xs0.length c0 := by
    rcases hrow0.2 with ⟨rfl, h0⟩ | ⟨b, cp, cur, rfl, _⟩
    · exact ⟨none, 0, by rw [h0]⟩
    · exact ⟨_, _, rfl⟩
  refine callsIn_of_wp_marks Try.func61 rfl h61 ?_ hro
  simp only [Try.ntmps61, List.size_toArray, List.length_cons, List.length_nil, Nat.reduceAdd, Nat.reduceSub, Array.replicate_succ, Array.replicate_zero, List.push_toArray, List.append_toArray, List.nil_append, List.cons_append]
  gi_wp2
  refine wpIn_rangeFunc_ownF hro h1 (gf := g) (lb := lb) rfl hFg eg (encs := fun x => #[encZ x]) (Kp := KeepsWalks) (w0 := w) hseq walksK_t walksK_b ((Below.refl _ w).alloc (Nat.le_refl _) _) (fun _ => rfl)
    (fun pre W => (∃ v, Boxed W w.heap.size 28 v ∧ W.ownsRow B 2 1 v (xs0.length + pre.length) ((xs0 ++ pre).map encZ) ∧ (v.ownBlock = (Value.slice A0 xs0.length c0).ownBlock ∨ ∀ k, v.ownBlock = some k → w.heap.size ≤ k)) ∧ w.grownBy W (Value.slice A0 xs0.length c0).ownBlock)
    (fun _ _ _ => False) ?hI (fun _ _ _ _ _ hs _ _ => hs) ?h0
    (fun x => { tmps := #[.slice A0 xs0.length c0, .func (.func g) #[] lb, .pointer (some ⟨w.heap.size, 0, none⟩), undef, .slice none 0 0, encZ x, .func (.func g) #[] lb, encZ x, undef, undef, undef, undef, undef], defers := [] }) ?assign ?body ?done ?stop
  case hI =>
    rintro s W W' row ⟨⟨v, hbx, hrow, hat⟩, hgr⟩ hg hr
    refine ⟨⟨v, hbx.kept hg ?_, hrow.kept hg ?_, hat⟩, hgr.andThen hg fun j e => .inl ?_⟩
    · intro e
      obtain ⟨_, o, ho, hc⟩ := hr _ e.symm
      rw [show W.heap[w.heap.size]? = _ from hbx] at ho
      cases ho
      cases hc
    · by_cases e : v.ownBlock = none
      · exact .inl e
      · refine .inr fun e' => ?_
        obtain ⟨r, hv⟩ := Option.ne_none_iff_exists'.1 e
        obtain ⟨_, o, ho, hc⟩ := hr r (by rw [← e', hv])
        exact row_not_otherI hrow ho hc hv.symm
    · have := (hr j e).1
      simp at this
      omega
  case h0 =>
    exact ⟨⟨_, Boxed.new w 28 _, by simpa using hrow0.alloc _, .inl rfl⟩, World.grownBy_alloc w _ _⟩
  case assign =>
    intro l x W K hK
    gi_wp2
    exact hK
  case body =>
    rintro l pre x W ⟨⟨v, hbx, hrow, hat⟩, hgr⟩ hlen
    have hcv := hbx.cell
    have hsz := hgr.size
    gi_wp2_with (gi_at_builtin; refine wpListIn_append_own_at _ rfl _ _ 28 rfl B 2 i0 (.int .i64 0) 1 8 Try.underlying28 hi hz0 hz1 hz2 rfl (by decide) _ _ _ rfl (hrow.alloc _) ⟨W.heap.size, 0, none⟩ 1 1 [encZ x] rfl rfl (cell_one_new _ _ _) (by simp [Value.oneCell']) (by unfold maxLen; omega) (by omega) (by simp; omega) ?_; intro v' w1 hown' hgrow _ hat'; obtain ⟨g', cap', rfl⟩ := ownsRow_succ hown'; obtain ⟨hv1, hv2, hr2, hk2, hb2⟩ := hbx.appended (by decide) hrow (by omega) hB hown' hgrow; have hc1 := hv1.cell; have hf1 := hv1.frozen)
    have hkw : KeepsWalks W (w1.setCell ⟨w.heap.size, 0, none⟩ (.slice (some ⟨g', 0, none⟩) (xs0.length + pre.length + 1) cap')) := ((KeepsWalks.alloc _ _).trans (KeepsWalks.of_grownBy hgrow fun j o ej hj => by
      cases hw : o.isWalk with
      | false => rfl
      | true => exact absurd ej.symm (row_not_otherI (hrow.alloc _) hj (Obj.not_cells_of_walk hw)))).trans (KeepsWalks.setCell _ _ _)
    have hat2 : (Value.slice (some ⟨g', 0, none⟩) (xs0.length + pre.length + 1) cap').ownBlock = v.ownBlock ∨ (Value.slice (some ⟨g', 0, none⟩) (xs0.length + pre.length + 1) cap').ownBlock = some (W.alloc (.cells #[encZ x] 2)).heap.size := hat'
    refine ⟨hk2, hkw, ⟨⟨_, hv2, by simpa [Nat.add_assoc] using hr2, ?_⟩, ?_⟩⟩
    · rcases hat2 with e | e
      · rcases hat with e2 | e2
        · exact .inl (e.trans e2)
        · exact .inr fun k hk => e2 k (e.symm.trans hk)
      · refine .inr fun k hk => ?_
        rw [e] at hk
        simp at hk
        omega
    · refine ((hgr.andThen (World.grownBy_alloc W _ none) (fun j e => by cases e)).andThen hgrow (fun j e => ?_)).andThen (grownBy_setCell' _ _ _) (fun j e => .inl (by cases e; exact Nat.le_refl _))
      rcases hat with e2 | e2
      · exact .inr (by rw [← e2]; exact e)
      · exact .inl (e2 j e)
  case done =>
    rintro D ss W hD hS ⟨⟨v, hbx, hrow, hat⟩, hgr⟩ hK
    have hcv := hbx.cell
    gi_wp2
    refine ⟨by simp, .inl ⟨_, _, rfl, run_takeDeferred hK, ?_⟩⟩
    exact ⟨_, results_tmp rfl _ _ _, v, ss, rfl, hS, ownsRow_putObj hrow _ hK rfl, hgr.andThen (grownBy_putObj' _ _ _) (fun j e => .inl (by cases e; simp at hD; omega)), hat⟩
  case stop =>
    rintro D c pre W _ _ h _
    exact h.elim

set_option maxHeartbeats 2000000 in
set_option maxRecDepth 100000 in
theorem collect_any (Bm b nn : Nat) (D0 : DataW Unit) (w : World) (hBm : Bm < w.heap.size) (hm : w.cell? ⟨Bm, 0, none⟩ = some (.map (some b))) (hown : w.ownsMap Try.prog 2 ptrElem b nn D0) (hn : Maps.size D0 ≤ 1000000) :
    Calls Try.prog 41 #[.func (.func 62) #[] #[.pointer (some ⟨Bm, 0, none⟩)]] w fun e w' => ∃ (v : Value) (ss : List Int), e = .returned v ∧ (∃ ps, AllOf D0 ps ∧ ss = ps.map (·.1)) ∧ w'.ownsRow w.heap.size 2 1 v ss.length (ss.map encZ) ∧ Below w.heap.size w w' := by
  have CA := (callsIn_wide (n := 6)).1 (appendSeqI_in Fence.wide 6 trivial rfl (by omega) 62 #[.pointer (some ⟨Bm, 0, none⟩)] trivial (enters_of Try.func62 (by kernel_rfl) rfl) _ _ _ w.heap.size (.slice none 0 0) [] w (World.ownsRow_nil _ _ _ _) (Nat.le_refl _) (by simp; omega) (keys_stops Fence.wide 5 trivial rfl (by omega) Bm b nn D0 w hBm hm hown))
  have HCA := Lib.hid CA
  clear CA hm hown
  go_enter Try.func41, Try.ntmps41
  go_wp2_with (go_at_call 61; ((refine HCA.out.mono ?_); rintro e w1 ⟨v, ss, rfl, hps, hrow, hg, _⟩; have HP := Lib.hid hps; have HR := Lib.hid hrow; have HG := Lib.hid hg; clear hps hrow hg))
  go_ret
  exact ⟨_, ss, rfl, HP.out, by simpa using HR.out, (Below.refl _ w).grown HG.out (Nat.le_refl _) (fun k hk => by cases hk)⟩

theorem foldl_max (l : List Int) : ∀ a : Int, a ≤ l.foldl max a ∧ (∀ x ∈ l, x ≤ l.foldl max a) ∧ (l.foldl max a = a ∨ l.foldl max a ∈ l) := by
  induction l with
  | nil => intro a; simp
  | cons y l ih =>
    intro a
    obtain ⟨h1, h2, h3⟩ := ih (max a y)
    simp only [List.foldl_cons]
    refine ⟨by omega, fun x hx => ?_, ?_⟩
    · rcases List.mem_cons.1 hx with rfl | hx
      · omega
      · exact h2 x hx
    · rcases h3 with h3 | h3
      · rw [h3]
        by_cases e : a ≤ y
        · right; rw [Int.max_eq_right e]; exact List.mem_cons_self
        · left; omega
      · right; exact List.mem_cons_of_mem _ h3
/-- the greatest version -/
def newestOf (vs : List Int) : Int := vs.foldl max 0
theorem newest_eq {ss vs : List Int} {a : Int} {tl : List Int} (hp : ss.Perm vs) (he : ss = a :: tl) (h1 : ∀ x ∈ vs, 1 ≤ x) : tl.foldl max a = newestOf vs ∧ newestOf vs ∈ vs := by
  obtain ⟨a1, a2, a3⟩ := foldl_max tl a
  obtain ⟨b1, b2, b3⟩ := foldl_max vs 0
  have hmem : tl.foldl max a ∈ vs := hp.mem_iff.1 (by
    rw [he]
    rcases a3 with h | h
    · rw [h]; exact List.mem_cons_self
    · exact List.mem_cons_of_mem _ h)
  have hle : ∀ x ∈ vs, x ≤ tl.foldl max a := fun x hx => by
    have := hp.mem_iff.2 hx
    rw [he] at this
    rcases List.mem_cons.1 this with rfl | h
    · exact a1
    · exact a2 x h
  have hm2 : vs.foldl max 0 ∈ vs := by
    rcases b3 with h | h
    · have := h1 _ hmem
      have := b2 _ hmem
      omega
    · exact h
  have := hle _ hm2
  have := b2 _ hmem
  have e : tl.foldl max a = newestOf vs := by unfold newestOf; omega
  exact ⟨e, hm2⟩

set_option maxHeartbeats 2000000 in
set_option maxRecDepth 100000 in
theorem max_any (B0 : Nat) (v : Value) (a : Int) (tl : List Int) (w : World) (hrow : w.ownsRow B0 2 1 v (a :: tl).length ((a :: tl).map encZ)) (hlen : tl.length ≤ 1000000) :
    Calls Try.prog 40 #[v] w fun e w' => e = .returned (.int .i64 (tl.foldl max a)) ∧ w' = w := by
  rcases hrow.2 with ⟨_, h0⟩ | ⟨g, cap, cur, rfl, hg, hcur, hcap, hcm, hsz, hcells⟩
  · simp at h0
  have hc : ∀ j, j < tl.length + 1 → w.cell? ⟨g, j, none⟩ = some (.int .i64 ((a :: tl).getD j 0)) := fun j hj => by
    rw [Lib.cell_of_heap hcur]
    have h1 : ((a :: tl).map encZ)[j]? = some (encZ ((a :: tl).getD j 0)) := by
      have : j < (a :: tl).length := by simpa using hj
      rw [List.getElem?_map, List.getD, List.getElem?_eq_getElem this]
      rfl
    rw [← hcells, List.getElem?_take_of_lt (by simp; omega)] at h1
    simpa using h1
  have h0 : w.cell? ⟨g, 0, none⟩ = some (.int .i64 a) := by simpa using hc 0 (by omega)
  have HC := Lib.hid hc
  clear hc hrow hcur hcells
  simp only [List.length_cons]
  go_enter Try.func40, Try.ntmps40
  go_wp2
  go_loop [3, 4] (fun v3 v4 => ∃ k : Nat, k ≤ tl.length ∧ v4 = .int .i64 (k + 1 : Nat) ∧ v3 = .int .i64 ((tl.take k).foldl max a)) (fun _ v4 => tl.length + 1 - (intOf v4).toNat)
  case atStart => exact ⟨0, Nat.zero_le _, rfl, rfl⟩
  case round =>
    obtain ⟨k, hk, rfl, rfl⟩ := hrel
    by_cases hlt : k < tl.length
    · have hck := HC.out (k + 1) (by omega)
      have hs : (tl.take (k + 1)).foldl max a = max ((tl.take k).foldl max a) ((a :: tl).getD (k + 1) 0) := by
        rw [List.take_add_one, List.getElem?_eq_getElem hlt, List.foldl_append]
        simp [List.getD, hlt]
      generalize (a :: tl).getD (k + 1) 0 = y at hck hs
      generalize (tl.take k).foldl max a = z at hs
      have HS := Lib.hid hs
      clear hs
      go_wp2
      go_round
      case rel => exact ⟨k + 1, by omega, by go_num, by rw [HS.out]⟩
      case measure => simp [intOf]; omega
    · obtain rfl : k = tl.length := by omega
      go_wp2
      go_ret
      exact ⟨rfl, rfl⟩
end Go.Proofs.Ytancenklmfamnaa.Sh
