/- (*Shelf).lay. maps.Keys over the models' map, slices.AppendSeq over it, Collect, Max. Turned from ShIter. (*Shelf).find. -/
import Derived.Test.YtancenklmfamnaaGreatShGood
import Derived.Deep.DeepCutAuto
import Derived.Deep.Cut
set_option linter.unusedVariables false
set_option linter.unusedSimpArgs false
namespace Go.Proofs.YtancenklmfamnaaGreat.Sh
open Go.RowKit Go.Maps Go.Sort Go.Shelf
open Go.Proofs

/-- no room for it -/
def NoRoom (L : Lay) (nm : ByteArray) (n : Nat) : Prop := (L.lastOf nm = none ∧ 65536 ≤ L.last.length) ∨ L.room < n ∨ pickL L n = none
def LayP (B p : Nat) (w : World) (L : Lay) (nm : ByteArray) (ver : Int) (dat : List Int) (e : Ending) (w' : World) : Prop :=
  (e = .returned (.int .i64 4) ∧ Step B w w' p L L ∧ NoRoom L nm dat.length) ∨
  (e = .returned (.int .i64 0) ∧ ¬ NoRoom L nm dat.length ∧ ∃ (L' : Lay) (i : Nat) (new : LM), Step B w w' p L L' ∧ Good L' ∧ pickL L dat.length = some i ∧ new.name = nm ∧ new.ver = ver ∧ new.dat = dat ∧ new.used = 0 ∧ new.touched = L.touch + 1 ∧
    L'.ms = keepL L ((unusedL L).take i) ++ [new] ∧ L'.room = L.room ∧ L'.touch = L.touch + 1 ∧ L'.last = setLast L.last nm (max ((L.lastOf nm).getD 0) ver) ∧ L'.lk = L.lk)

set_option maxHeartbeats 2000000 in
set_option maxRecDepth 1000000 in
theorem wanted_step {B p : Nat} {L : Lay} {w : World} (h : ShelfIs B w p L) {m : LM} (hm : m ∈ L.ms) (ht : 0 ≤ L.touch ∧ L.touch < 4611686018427387904) :
    Calls Tryz.prog 48 #[.pointer (some ⟨p, 0, none⟩), .pointer (some ⟨m.blk, 0, none⟩)] w fun e w' => e = .returned (.tuple #[]) ∧ Step B w w' p L { L with touch := L.touch + 1, ms := L.ms.map (setTouched m.blk (L.touch + 1)) } := by
  obtain ⟨sem, hblk⟩ := h.blk
  obtain ⟨hmd, _⟩ := h.mods m hm
  refine (wanted_any p m.blk (.int .i64 0) (.int .i64 m.touched) L.touch w (by rw [Lib.cell_of_heap hblk]; rfl) (Lib.frozen_of_heap hblk _) (by rw [Lib.cell_of_heap hmd]; rfl) (Lib.frozen_of_heap hmd _) (h.model_block hm).symm rfl).mono ?_
  rintro e w' ⟨he, rfl⟩
  have ew : wrap64 (L.touch + 1) = L.touch + 1 := by unfold wrap64; omega
  rw [ew]
  have s1 := h.setTouch (L.touch + 1)
  exact ⟨he, s1.trans (s1.is.putTouched (m := m) hm (L.touch + 1))⟩

/-- k of those that go have gone -/
def RemS (B p : Nat) (w1 wr : World) (L : Lay) (k : Nat) (Lk : Lay) : Prop := Step B w1 wr p L Lk ∧ Good Lk ∧ Lk.ms = keepL L ((unusedL L).take k) ∧ Lk.room = L.room ∧ Lk.touch = L.touch ∧ Lk.last = L.last ∧ Lk.lk = L.lk ∧ Lk.mm = L.mm ∧ Lk.ml = L.ml ∧ Lk.count = L.count - k ∧ Lk.bytes = L.bytes - (((unusedL L).map sz).take k).sum
theorem keepL_nil (L : Lay) : keepL L [] = L.ms := by simp [keepL, gone]
theorem RemS.start {B p : Nat} {w1 : World} {L : Lay} (h : ShelfIs B w1 p L) (g : Good L) : RemS B p w1 w1 L 0 L := ⟨Step.refl h (Below.refl _ _), g, by simp [keepL_nil], rfl, rfl, rfl, rfl, rfl, rfl, by simp, by simp⟩
theorem RemS.next {B p : Nat} {w1 wr w2 : World} {L Lk : Lay} {k : Nat} (h : RemS B p w1 wr L k Lk) {x : LM} (hx : (unusedL L)[k]? = some x) (hm : x ∈ Lk.ms) (st : Step B wr w2 p Lk (Lk.rem x)) : RemS B p w1 w2 L (k + 1) (Lk.rem x) := by
  obtain ⟨h1, h2, h3, h4, h5, h6, h7, h8, h9, h10, h11⟩ := h
  obtain ⟨e1, e2, e3, e4, e5, e6, e7⟩ := rem_same Lk x
  refine ⟨h1.trans st, h2.rem h1.is.blks hm, ?_, e2.trans h4, e3.trans h5, e4.trans h6, e5.trans h7, e6.trans h8, e7.trans h9, ?_, ?_⟩
  · rw [e1]
    show Lk.ms.filter (fun y => decide (y.blk ≠ x.blk)) = _
    rw [h3, keep_snoc, List.take_add_one, hx]
    rfl
  · show Lk.count - 1 = _
    rw [h10]
    omega
  · show Lk.bytes - x.dat.length = _
    have e : ((unusedL L).map sz)[k]? = some (sz x) := by simp [hx]
    rw [h11, List.take_add_one, e]
    simp [sz]
    omega
theorem cell_lt {w : World} {a : Addr} {v : Value} (h : w.cell? a = some v) : a.block < w.heap.size := by
  by_cases hb : a.block < w.heap.size
  · exact hb
  · rw [World.cell?, Array.getElem?_eq_none (by omega)] at h
    cases h
/-- all that the rest of lay asks -/
structure TailPre (B p : Nat) (wc wr : World) (L L2 : Lay) (nm : ByteArray) (ver : Int) (dat : List Int) (i : Nat) : Prop where
  st : Step B wc wr p L L2
  gd : Good L2
  ms : L2.ms = keepL L ((unusedL L).take i)
  room : L2.room = L.room
  touch : L2.touch = L.touch
  last : L2.last = L.last
  lk : L2.lk = L.lk
  new : L2.modOf nm ver = none
  few : L2.ms.length < 256
  fits : L2.bytes + dat.length ≤ L2.room
theorem RemS.pre {B p : Nat} {wc w1 wr : World} {L L2 : Lay} {nm : ByteArray} {ver : Int} {dat : List Int} {i : Nat} (h : ShelfIs B wc p L) (hb : Below wc.heap.size wc w1) (hr : RemS B p w1 wr L i L2) (hp : pickL L dat.length = some i) (hn : L.modOf nm ver = none) : TailPre B p wc wr L L2 nm ver dat i := by
  obtain ⟨st, gd, hms, hrm, htc2, hla, hlk2, hmm2, hml2, hcn2, hby2⟩ := hr
  obtain ⟨hvs1, hvs2, hvs3⟩ := vcount_some hp
  refine ⟨(Step.refl h hb).trans st, gd, hms, hrm, htc2, hla, hlk2, ?_, ?_, ?_⟩
  · refine List.find?_eq_none.2 fun x hx => List.find?_eq_none.1 hn x ?_
    rw [hms] at hx
    exact (List.mem_filter.1 hx).1
  · have := gd.count
    omega
  · rw [hby2, hrm]
    exact hvs3
theorem nodup_len {α : Type} : ∀ {a b : List α}, a.Nodup → (∀ x ∈ a, x ∈ b) → a.length ≤ b.length
  | [], _, _, _ => Nat.zero_le _
  | x :: a, b, h, hs => by
    obtain ⟨u, v, rfl⟩ := List.append_of_mem (hs x List.mem_cons_self)
    simp only [List.nodup_cons] at h
    have := nodup_len (a := a) (b := u ++ v) h.2 fun y hy => by
      have h1 := hs y (List.mem_cons_of_mem _ hy)
      simp only [List.mem_append, List.mem_cons] at h1 ⊢
      rcases h1 with h1 | h1 | h1
      · exact .inl h1
      · exact absurd (h1 ▸ hy) h.1
      · exact .inr h1
    simp at this ⊢
    omega
theorem Good.inn_few {B p : Nat} {w : World} {L : Lay} (g : Good L) (h : ShelfIs B w p L) : L.inn.length ≤ 256 := by
  have h1 := nodup_len (a := L.inn.map (·.1)) (b := L.ms.map (·.name)) h.innNames fun x hx => by
    obtain ⟨y, hy, rfl⟩ := List.mem_map.1 hx
    obtain ⟨m, hm, e⟩ := g.full y hy
    exact List.mem_map.2 ⟨m, hm, e⟩
  simp at h1
  have := h.few
  omega
theorem lastOf_mem {L : Lay} {nm : ByteArray} {v : Int} (h : L.lastOf nm = some v) : (nm, v) ∈ L.last := by
  simp only [Lay.lastOf, Option.map_eq_some_iff] at h
  obtain ⟨x, hx, rfl⟩ := h
  have h1 := List.find?_some hx
  simp at h1
  rw [← h1]
  exact List.mem_of_find?_eq_some hx
theorem setLast_mem {l : List (ByteArray × Int)} {nm : ByteArray} {v : Int} {x : ByteArray × Int} (h : x ∈ setLast l nm v) : x ∈ l ∨ x = (nm, v) := by
  unfold setLast at h
  split at h
  · obtain ⟨y, hy, rfl⟩ := List.mem_map.1 h
    unfold putAt
    split
    · exact .inr rfl
    · exact .inl hy
  · rcases List.mem_append.1 h with h | h
    · exact .inl h
    · simp at h
      exact .inr h
theorem lastOf_none_iff (L : Lay) (nm : ByteArray) : L.lastOf nm = none ↔ knownIn L.last nm = false := by
  simp only [Lay.lastOf, Option.map_eq_none_iff, List.find?_eq_none, decide_eq_true_eq, knownIn]
  rw [← Bool.not_eq_true, List.any_eq_true]
  simp
  constructor
  · intro h x hx
    exact h nm x hx rfl
  · intro h a b hab e
    subst e
    exact h b hab
theorem Good.laid {L2 L' : Lay} {new : LM} (g : Good L2) (hms : L'.ms = L2.ms ++ [new]) (hrm : L'.room = L2.room) (hby : L'.bytes = L2.bytes + new.dat.length) (hcn : L'.count = L2.count + 1) (hto : L'.touch = L2.touch + 1)
    (hla : L'.last = setLast L2.last new.name (max ((L2.lastOf new.name).getD 0) new.ver)) (ht : new.touched = L2.touch + 1) (hu : new.used = 0) (hv : 1 ≤ new.ver ∧ new.ver ≤ 4611686018427387904) (hnm : new.name.size ≤ 32) (hfit : L2.bytes + new.dat.length ≤ L2.room)
    (hfull : ∀ x ∈ L'.inn, x.1 = new.name ∨ ∃ m ∈ L2.ms, m.name = x.1) (hfew : L2.lastOf new.name = none → L2.last.length < 65536) : Good L' := by
  have hmax : 1 ≤ max ((L2.lastOf new.name).getD 0) new.ver ∧ max ((L2.lastOf new.name).getD 0) new.ver ≤ 4611686018427387904 := by
    cases e : L2.lastOf new.name with
    | none => simp; omega
    | some v =>
      have := g.lasts _ (lastOf_mem e)
      simp at this ⊢
      omega
  have hlo : ∀ nm, L'.lastOf nm = if nm = new.name then some (max ((L2.lastOf new.name).getD 0) new.ver) else L2.lastOf nm := fun nm => by
    simp only [Lay.lastOf]
    rw [hla, find_set]
    split
    · simp [Lay.lastOf]
    · rfl
  refine ⟨by rw [hrm]; exact g.room, ?_, ?_, by rw [hrm, hby]; exact hfit, by rw [hto]; have := g.touch; omega, fun m hm => ?_, ?_, fun m hm => ?_, fun m hm => ?_, fun m hm => ?_, fun x hx => ?_, fun x hx => ?_, ?_, fun m hm => ?_⟩
  · rw [hms, hby, sizes_append, g.bytes]
    simp [sizes, sz]
  · rw [hms, hcn, g.count]
    simp
  · rw [hms] at hm
    rw [hto]
    rcases List.mem_append.1 hm with hm | hm
    · have := g.touched m hm; omega
    · simp at hm
      subst hm
      omega
  · rw [hms, List.map_append]
    refine List.nodup_append.2 ⟨g.tnodup, by simp, fun a ha b hb => ?_⟩
    simp at hb
    subst hb
    obtain ⟨m, hm, rfl⟩ := List.mem_map.1 ha
    have := g.touched m hm
    omega
  · rw [hms] at hm
    rcases List.mem_append.1 hm with hm | hm
    · exact g.used m hm
    · simp at hm
      subst hm
      omega
  · rw [hms] at hm
    rcases List.mem_append.1 hm with hm | hm
    · exact g.vers m hm
    · simp at hm
      subst hm
      exact hv
  · rw [hms] at hm
    rcases List.mem_append.1 hm with hm | hm
    · exact g.names m hm
    · simp at hm
      subst hm
      exact hnm
  · rw [hms]
    rcases hfull x hx with h | ⟨m, hm, e⟩
    · exact ⟨new, by simp, h.symm⟩
    · exact ⟨m, List.mem_append_left _ hm, e⟩
  · rw [hla] at hx
    rcases setLast_mem hx with h | rfl
    · exact g.lasts x h
    · exact hmax
  · rw [hla]
    unfold setLast
    split
    · simpa using g.lastFew
    · rename_i hk
      have := hfew ((lastOf_none_iff L2 new.name).2 (by simpa using hk))
      simp
      omega
  · rw [hlo]
    rw [hms] at hm
    split
    · refine ⟨_, rfl, ?_⟩
      rcases List.mem_append.1 hm with hm | hm
      · obtain ⟨v, h1, h2⟩ := g.known m hm
        rename_i e
        rw [e] at h1
        rw [h1]
        simp
        omega
      · simp at hm
        subst hm
        omega
    · rcases List.mem_append.1 hm with hm | hm
      · exact g.known m hm
      · simp at hm
        subst hm
        rename_i e
        exact absurd rfl e
theorem touched_last {l : List LM} {new : LM} {t : Int} (h : ((l ++ [new]).map (·.blk)).Nodup) : (l ++ [new]).map (setTouched new.blk t) = l ++ [{ new with touched := t }] := by
  rw [List.map_append] at h ⊢
  have h2 := (List.nodup_append.1 h).2.2
  congr 1
  · rw [List.map_congr_left (g := id) fun x hx => ?_, List.map_id]
    have h3 := h2 x.blk (List.mem_map_of_mem hx) new.blk (by simp)
    simp [setTouched, h3]
  · simp [setTouched]
/-- the name has its map -/
def AtCut (B p : Nat) (wr wx : World) (nm : ByteArray) (L2 : Lay) : Prop := ∃ (L3 : Lay) (ib : Nat), Step B wr wx p L2 L3 ∧ L3.innOf nm = some ib ∧ L3 = { L2 with inn := L3.inn } ∧ ∀ x ∈ L3.inn, x.1 = nm ∨ ∃ m ∈ L2.ms, m.name = x.1
def badB (L : Lay) (lo : Option Int) (n : Nat) : Bool := (lo.isNone && decide (65536 ≤ (L.last.length : Int))) || decide (L.room < n)
set_option maxHeartbeats 8000000 in
set_option maxRecDepth 1000000 in
theorem lay_any (B p : Nat) (L : Lay) (w : World) (h : ShelfIs B w p L) (g : Good L) (nm : ByteArray) (ver : Int) (sv : Value) (dat : List Int) (B0 : Nat) (hrow : RdB w sv dat) (hdl : dat.length ≤ 16777216)
    (hnm : nm.size ≤ 32) (hver : 1 ≤ ver ∧ ver ≤ 4611686018427387904) (hnew : L.modOf nm ver = none) (htc : L.touch < 4611686018427387904) (hsv : ∀ k, sv.ownBlock = some k → ¬ Owned p L k) :
    Calls Tryz.prog 46 #[.pointer (some ⟨p, 0, none⟩), .string nm, .int .i64 ver, sv] w (LayP B p w L nm ver dat) := by
  have hnx : nm.size ≤ maxLen := by unfold maxLen; omega
  obtain ⟨sem, hblk⟩ := h.blk
  obtain ⟨A0, cap0, rfl⟩ := RdB.len hrow
  have hlk := h.lookLast nm hnx
  have hll := h.lenLast 3
  have hlk1 := hlk.2
  have c1 : w.cell? ⟨p, 2, none⟩ = some (.int .i64 L.room) := by rw [Lib.cell_of_heap hblk]; rfl
  have c7 : w.cell? ⟨p, 7, none⟩ = some (.map (some L.ml)) := by rw [Lib.cell_of_heap hblk]; rfl
  obtain ⟨hv1, hv2⟩ := hver
  have hg1 := g.room
  obtain ⟨hr1, hr2⟩ := hg1
  have hlf := g.lastFew
  have H := Lib.hid h
  have G := Lib.hid g
  have HR := Lib.hid hrow
  have HN := Lib.hid hnew
  have HS := Lib.hid hsv
  clear h g hrow hnew hsv hblk hlk
  generalize hlo : L.lastOf nm = lo at hlk1
  have HL := Lib.hid hlo
  clear hlo
  go_enter Tryz.func46, Tryz.ntmps46
  go_upto_region 2 with fail
  go_cut [43] (fun c wx => c = .bool (badB L lo dat.length) ∧ wx = w)
  case first =>
    have hx : ∀ a b : Bool, decide (65536 ≤ (L.last.length : Int)) = a → decide (L.room < (dat.length : Int)) = b → badB L none dat.length = (a || b) := fun a b ha hb => by
      subst ha hb
      simp [badB]
    have hy : ∀ (v : Int) (b : Bool), decide (L.room < (dat.length : Int)) = b → badB L (some v) dat.length = b := fun v b hb => by
      subst hb
      simp [badB]
    have HX := Lib.hid hx
    have HY := Lib.hid hy
    clear hx hy
    rcases lo with _ | v
    · by_cases h65 : decide (65536 ≤ (L.last.length : Int)) = true
      · go_wp2
        go_meet
        refine ⟨?_, rfl⟩
        rw [HX.out _ _ h65 rfl]
        rfl
      · rw [Bool.not_eq_true] at h65
        by_cases hroom : decide (L.room < (dat.length : Int)) = true
        · go_wp2
          go_meet
          refine ⟨?_, rfl⟩
          rw [HX.out _ _ h65 hroom]
          rfl
        · rw [Bool.not_eq_true] at hroom
          go_wp2
          go_meet
          refine ⟨?_, rfl⟩
          rw [HX.out _ _ h65 hroom]
          rfl
    · by_cases hroom : decide (L.room < (dat.length : Int)) = true
      · go_wp2
        go_meet
        refine ⟨?_, rfl⟩
        rw [HY.out _ _ hroom]
      · rw [Bool.not_eq_true] at hroom
        go_wp2
        go_meet
        refine ⟨?_, rfl⟩
        rw [HY.out _ _ hroom]
  case rest =>
    obtain ⟨rfl, rfl⟩ := hcut
    generalize hbb : badB L lo dat.length = bb
    have HBB := Lib.hid hbb
    clear hbb
    cases bb
    rotate_left
    · go_wp2
      go_ret
      have hbad := HBB.out
      refine .inl ⟨rfl, Step.refl H.out (Below.refl _ _), ?_⟩
      simp only [badB, Bool.or_eq_true, Bool.and_eq_true, decide_eq_true_eq, Option.isNone_iff_eq_none] at hbad
      rcases hbad with ⟨h1, h2⟩ | h1
      · exact .inl ⟨HL.out.trans h1, by omega⟩
      · exact .inr (.inl h1)
    · have hlr : (dat.length : Int) ≤ L.room := by
        have hbad := HBB.out
        simp only [badB, Bool.or_eq_false_iff, decide_eq_false_iff_not] at hbad
        omega
      have hbn := sizes_nonneg L.ms
      rw [← G.out.bytes] at hbn
      have hfit := G.out.fits
      have hcl := G.out.count
      have hfw := H.out.few
      have HCL := Lib.hid hcl
      have hc0 : 0 ≤ L.count := by omega
      have hc256 : L.count ≤ 256 := by omega
      clear hcl
      go_wp2_with fail
      refine (victims_any B p L _ H.out G.out.tnodup dat.length (by omega) (by omega) hbn (by omega) hc0 hc256 (fun m hm => by have := G.out.size_le hm; omega)).mono ?_
      rintro e w1 ⟨hb, ⟨hnone, rfl⟩ | ⟨i, A, cap, hsome, hile, rfl, hrow⟩⟩
      · have HNO := Lib.hid hnone
        have HB := Lib.hid hb
        clear hnone hb
        go_wp2
        go_ret
        exact .inl ⟨rfl, Step.refl H.out HB.out, .inr (.inr HNO.out)⟩
      · have HSO := Lib.hid hsome
        have HB := Lib.hid hb
        have HRO := Lib.hid hrow
        have hi256 : i ≤ 256 := by
          have h2 := List.length_filter_le isUnused L.ms
          have h3 : (unusedL L).length = (L.ms.filter isUnused).length := by unfold unusedL; exact List.length_mergeSort _
          omega
        clear hsome hb hrow
        go_wp2_with fail
        go_loopw [55] (fun v55 wr => ∃ (k : Nat) (Lk : Lay), v55 = .int .i64 k ∧ k ≤ i ∧ Hid (RemS B p w1 wr L k Lk)) (fun v55 wr => i - (intOf v55).toNat)
        case atStart => exact ⟨0, L, rfl, Nat.zero_le _, Lib.hid (RemS.start (H.out.below HB.out) G.out)⟩
        case round =>
          obtain ⟨k, Lk, rfl, hki, HK⟩ := hrel
          by_cases hlt : k < i
          · obtain ⟨x, hx⟩ : ∃ x, (unusedL L)[k]? = some x := ⟨(unusedL L)[k], List.getElem?_eq_getElem (by omega)⟩
            obtain ⟨g, rfl, hg, hcg⟩ := HRO.out k x hx
            obtain ⟨st, gd, hms, hrm, _⟩ := HK.out
            have hxm : x ∈ Lk.ms := by
              rw [hms]
              exact List.mem_filter.2 ⟨(unused_mem (List.mem_of_getElem? hx)).1, by rw [not_gone H.out.blks hx]; rfl⟩
            have hcr : wr.cell? ⟨g, k, none⟩ = some (.pointer (some ⟨x.blk, 0, none⟩)) := by
              refine (World.cell?_of_block (a := ⟨g, k, none⟩) (st.1.2.2.2.2 g ?_ fun ho => ?_)).trans hcg
              · exact cell_lt hcg
              · have := H.out.lt ho
                omega
            have hrem := remove_any B p Lk wr st.is x hxm (gd.nm hxm) (gd.wf hxm) ⟨gd.size_le hxm, by have := gd.fits; have := gd.room; omega⟩ (by
              have h1 := gd.count
              have h2 := st.is.few
              have h3 := List.length_pos_of_mem hxm
              omega)
            have HX := Lib.hid hx
            have HXM := Lib.hid hxm
            have HREM := Lib.hid hrem
            clear hx hcg st gd hms hrm hxm hrem
            go_wp2_with (go_at_call 50; ((refine HREM.out.mono ?_); rintro e w2 ⟨rfl, hst⟩; have HST := Lib.hid hst; clear hst))
            go_roundw
            case rel => exact ⟨k + 1, Lk.rem x, by go_num, by omega, Lib.hid (HK.out.next HX.out HXM.out HST.out)⟩
            case measure => simp [intOf]; omega
          · obtain rfl : k = i := by omega
            have T := Lib.hid (HK.out.pre H.out HB.out HSO.out HN.out)
            clear HK HRO HCL
            have h2 := T.out.st.is
            obtain ⟨sem2, hblk2⟩ := h2.blk
            have c6 : wr.cell? ⟨p, 6, none⟩ = some (.map (some Lk.mm)) := by rw [Lib.cell_of_heap hblk2]; rfl
            have hlo2 := h2.lookOuter nm hnx
            have q86 : ∀ (w : World) (r : Option Nat), (binOp .eql 112 (.map r) (.map none)).run Tryz.prog w = .ok (.bool r.isNone) w := fun w r => run_eql_map_nil w _ _ _ r Tryz.underlying112
            have H2 := Lib.hid h2
            clear h2 hblk2 c1 c7 hll hlk1
            generalize hin : Lk.innOf nm = oi at hlo2
            have HIN := Lib.hid hin
            clear hin
            go_upto_if 69 with (fail)
            go_cut [8] (fun v8 wx => v8 = .int .i64 0 ∧ Hid (AtCut B p wr wx nm Lk))
            case first =>
              have hmk := @run_makeMap Tryz.prog
              cases oi with
              | some ib =>
                go_wp2
                go_meet
                exact ⟨rfl, Lib.hid ⟨Lk, ib, Step.refl H2.out (Below.refl _ _), HIN.out, rfl, fun x hx => .inr (T.out.gd.full x hx)⟩⟩
              | none =>
                obtain ⟨W1, hput, st3⟩ := H2.out.putInn ((Below.refl _ wr).alloc (Nat.le_refl _) (.map #[] 0)) hnx HIN.out (by have := T.out.gd.inn_few H2.out; omega) (World.alloc_heap_new wr _) (Nat.le_refl _)
                have ST3 := Lib.hid st3
                clear st3
                go_wp2
                go_meet
                refine ⟨rfl, Lib.hid ⟨_, wr.heap.size, ST3.out, ?_, rfl, fun x hx => ?_⟩⟩
                · exact (ST3.out.is.inn_of (x := (nm, wr.heap.size)) (by simp))
                · rcases List.mem_append.1 hx with hx | hx
                  · exact .inr (T.out.gd.full x hx)
                  · simp at hx
                    exact .inl (by rw [hx])
            case rest =>
              obtain ⟨rfl, HCUT⟩ := hcut
              obtain ⟨L3, ib, st3, hin3, heq3, hfull3⟩ := HCUT.out
              have hrow3 : RdB wc (.slice A0 dat.length cap0) dat := RdB.far HR.out (T.out.st.trans st3).1 HS.out
              have CL := Lib.hid (clone_any B0 _ dat wc hrow3 (by omega))
              have ST3 := Lib.hid st3
              have HI3 := Lib.hid hin3
              have HE3 := Lib.hid heq3
              have HF3 := Lib.hid hfull3
              clear st3 hin3 heq3 hfull3 hrow3 c6 hlo2
              go_wp2_with fail
              refine CL.out.mono ?_
              rintro e w4 ⟨v', rfl, hrow4, hb4⟩
              obtain ⟨A5, c5, rfl⟩ := row_len hrow4
              have HR4 := Lib.hid hrow4
              have HB4 := Lib.hid hb4
              have hs5 : ShelfIs B w4 p L3 := ST3.out.is.below hb4
              clear hrow4 hb4
              let new : LM := ⟨nm, ver, .slice A5 dat.length c5, dat, 0, 0, w4.heap.size⟩
              have hwc : wc.heap.size ≤ w4.heap.size := HB4.out.size
              have hb5 : Below wc.heap.size wc (w4.alloc (.cells #[.string nm, .int .i64 ver, .slice A5 dat.length c5, .int .i64 0, .int .i64 0] 93)) := HB4.out.alloc hwc _
              have hs6 : ShelfIs B (w4.alloc (.cells #[.string nm, .int .i64 ver, .slice A5 dat.length c5, .int .i64 0, .int .i64 0] 93)) p L3 := ST3.out.is.below hb5
              have hlo6 := hs6.lookOuter nm hnx
              rw [HI3.out] at hlo6
              obtain ⟨sem6, hblk6⟩ := hs6.blk
              have c66 : (w4.alloc (.cells #[.string nm, .int .i64 ver, .slice A5 dat.length c5, .int .i64 0, .int .i64 0] 93)).cell? ⟨p, 6, none⟩ = some (.map (some L3.mm)) := by rw [Lib.cell_of_heap hblk6]; rfl
              obtain ⟨W7, hput7, st7⟩ := ST3.out.is.putMod hb5 new HI3.out (by rw [HE3.out]; exact T.out.new) (by rw [HE3.out]; exact T.out.few) (wf_of ⟨hv1, hv2⟩) (World.alloc_heap_new w4 _) (HR4.out.alloc _) hwc
              change (Instr.mapUpdate 112 (.map (some ib)) (.int .i64 ver) (.pointer (some ⟨w4.heap.size, 0, none⟩))).run Tryz.prog (w4.alloc (.cells #[.string nm, .int .i64 ver, .slice A5 dat.length c5, .int .i64 0, .int .i64 0] 93)) = _ at hput7
              have H6 := Lib.hid hs6
              have ST7 := Lib.hid st7
              obtain ⟨sem7, hblk7⟩ := st7.is.blk
              have c73 : W7.cell? ⟨p, 3, none⟩ = some (.int .i64 L3.bytes) := by rw [Lib.cell_of_heap hblk7]; rfl
              have c74 : W7.cell? ⟨p, 4, none⟩ = some (.int .i64 L3.count) := by rw [Lib.cell_of_heap hblk7]; rfl
              have c77 : W7.cell? ⟨p, 7, none⟩ = some (.map (some L3.ml)) := by rw [Lib.cell_of_heap hblk7]; rfl
              have f73 : W7.frozen? ⟨p, 3, none⟩ = false := Lib.frozen_of_heap hblk7 _
              have f74 : W7.frozen? ⟨p, 4, none⟩ = false := Lib.frozen_of_heap hblk7 _
              have eb3 : L3.bytes = Lk.bytes := by rw [HE3.out]
              have ec3 : L3.count = Lk.count := by rw [HE3.out]
              have hbb1 : 0 ≤ L3.bytes := by rw [eb3, T.out.gd.bytes]; exact sizes_nonneg _
              have hbb2 : L3.bytes ≤ 1099511627776 := by rw [eb3]; have := T.out.gd.fits; have := T.out.gd.room; omega
              have hcc1 : 0 ≤ L3.count := by rw [ec3, T.out.gd.count]; omega
              have hcc2 : L3.count ≤ 256 := by rw [ec3, T.out.gd.count]; have := T.out.few; omega
              clear eb3 ec3
              have hmx : (Lit.int .i64 (max (lo.getD 0) ver)).wf = true := wf_of (by
                have hlo := HL.out
                cases lo with
                | none => simp; omega
                | some v =>
                  have := G.out.lasts _ (lastOf_mem hlo)
                  simp at this ⊢
                  omega)
              have st8 := st7.is.setBytes (L3.bytes + dat.length)
              have st9 := st8.is.setCount (L3.count + 1)
              have hl3 : L3.last = L.last := by rw [HE3.out]; exact T.out.last
              obtain ⟨W10, hput10, st10⟩ := st9.is.putLast hnx (by show L3.last.length ≤ 1000000; rw [hl3]; omega) (max (lo.getD 0) ver) hmx
              change (Instr.mapUpdate 86 (.map (some L3.ml)) (.string nm) (.int .i64 (max (lo.getD 0) ver))).run Tryz.prog ((W7.setCell ⟨p, 3, none⟩ (.int .i64 (L3.bytes + dat.length))).setCell ⟨p, 4, none⟩ (.int .i64 (L3.count + 1))) = _ at hput10
              have ht3 : L3.touch = L.touch := by rw [HE3.out]; exact T.out.touch
              have hw := wanted_step st10.is (m := new) (List.mem_append_right _ List.mem_cons_self) (by show 0 ≤ L3.touch ∧ L3.touch < _; rw [ht3]; exact ⟨G.out.touch, htc⟩)
              have HW := Lib.hid hw
              have ST10 := Lib.hid ((T.out.st.trans (ST3.out.trans st7)).trans (st8.trans (st9.trans st10)))
              clear hs5 hs6 hb5 hblk6 st7 hblk7 st8 st9 st10 hw hmx hl3 ht3
              go_wp2_with (go_at_call 48; ((refine HW.out.mono ?_); rintro e w11 ⟨rfl, st11⟩; have ST11 := Lib.hid st11; clear st11))
              go_ret
              have hbad := HBB.out
              simp only [badB, Bool.or_eq_false_iff, Bool.and_eq_false_iff, decide_eq_false_iff_not] at hbad
              have hno : ¬ NoRoom L nm dat.length := by
                rintro (⟨h1, h2⟩ | h1 | h1)
                · rcases hbad.1 with h3 | h3
                  · rw [HL.out] at h1
                    rw [h1] at h3
                    cases h3
                  · omega
                · exact hbad.2 h1
                · rw [HSO.out] at h1
                  cases h1
              have e3 := HE3.out
              have ht3 : L3.touch = L.touch := by rw [e3]; exact T.out.touch
              have hl3 : L3.last = L.last := by rw [e3]; exact T.out.last
              have hm3 : L3.ms = Lk.ms := by rw [e3]
              have hlo2 : Lk.lastOf nm = lo := by simp only [Lay.lastOf]; rw [T.out.last]; exact HL.out
              have hms := touched_last (l := L3.ms) (new := new) (t := L3.touch + 1) ST10.out.is.blks
              refine .inr ⟨rfl, hno, _, k, { new with touched := L3.touch + 1 }, ST10.out.trans ST11.out, ?_, HSO.out, rfl, rfl, rfl, rfl, by rw [← ht3], ?_, ?_, ?_, ?_, ?_⟩
              · refine T.out.gd.laid (new := { new with touched := L3.touch + 1 }) (hms.trans (by rw [hm3])) (by rw [e3]) ?_ ?_ ?_ ?_ ?_ rfl ⟨hv1, hv2⟩ hnm T.out.fits ?_ ?_
                · show L3.bytes + dat.length = _
                  rw [e3]
                · show L3.count + 1 = _
                  rw [e3]
                · show L3.touch + 1 = _
                  rw [ht3, T.out.touch]
                · show setLast L3.last nm (max (lo.getD 0) ver) = setLast Lk.last nm (max ((Lk.lastOf nm).getD 0) ver)
                  rw [hlo2, hl3, T.out.last]
                · show L3.touch + 1 = _
                  rw [ht3, T.out.touch]
                · intro x hx
                  exact HF3.out x hx
                · intro h1
                  rw [hlo2] at h1
                  rw [T.out.last]
                  rcases hbad.1 with h3 | h3
                  · rw [h1] at h3
                    cases h3
                  · omega
              · rw [← T.out.ms]
                exact hms.trans (by rw [hm3])
              · show L3.room = _
                rw [e3]
                exact T.out.room
              · show L3.touch + 1 = _
                rw [ht3]
              · show setLast L3.last nm (max (lo.getD 0) ver) = _
                rw [hl3, HL.out]
              · show L3.lk = _
                rw [e3]
                exact T.out.lk
end Go.Proofs.YtancenklmfamnaaGreat.Sh
namespace Go.Proofs.YtancenklmfamnaaGreat.Sh
open Go.RowKit Go.Maps Go.Sort Go.Shelf
open Go.Proofs
attribute [local go_sem] Oper.semAt_some

set_option maxRecDepth 100000 in
set_option maxHeartbeats 1000000 in
theorem keys1S_in (F : Fence) (n : Nat) (h8 : F.fn 97) (hro : F.round = none) (hn : 1 ≤ n) (l Bm b nn : Nat) (D0 : DataW Unit) (J Jx : List Int → World → Prop)
    (hY : ∀ pre x W, J pre W → pre.length < Maps.size D0 → YieldAt F (n - 1) Tryz.prog l #[encZ x] W fun e W' =>
      (e = .returned (.bool true) ∧ J (pre ++ [x]) W' ∧ KeepsWalks W W') ∨ (e = .returned (.bool false) ∧ Jx (pre ++ [x]) W'))
    (W : World) (hJ : AbidesFrom W.heap.size J) (hm : W.cell? ⟨Bm, 0, none⟩ = some (.map (some b))) (hown : W.ownsMap Tryz.prog 2 ptrElem b nn D0) (h0 : J [] W) :
    CallsIn F n Tryz.prog 97 #[.func (.yield l) #[] #[], .pointer (some ⟨Bm, 0, none⟩)] W fun e W' => (∃ v, e = .returned v) ∧
      ((∃ xs, (∃ ps, AllOf D0 ps ∧ xs = ps.map (·.1)) ∧ J xs W') ∨ (∃ pre, (∃ ps, PartOf D0 ps ∧ pre = ps.map (·.1)) ∧ Jx pre W')) := by
  have K2 := int_keyed Tryz.underlying2
  refine callsIn_of_wp Tryz.func97 rfl h8 ?_ hro
  simp only [Tryz.ntmps97, List.size_toArray, List.length_cons, List.length_nil, Nat.reduceAdd, Nat.reduceSub, Array.replicate_succ, Array.replicate_zero, List.push_toArray, List.append_toArray, List.nil_append, List.cons_append]
  gi_wp2_with (first
    | (gi_at_range; refine wpListIn_range_own _ rfl _ 112 rfl 2 91 (int_keyed Tryz.underlying2) Tryz.underlying112 _ b nn _ rfl hown ?_; intro w0 hrg0 hg0 hs0)
    | gi_in)
  go_frame
  gi_loopw [3] (fun _ wr => ∃ (left : Lit → Bool) (cnt : Nat) (ps : List (Int × Option Addr)), wr.ranges Tryz.prog 2 ptrElem b W.heap.size nn D0 left cnt ∧ ps.length + cnt ≤ Maps.size D0 ∧ CollectedI D0 left (ps.map (·.1)) ∧ (∀ p ∈ ps, ValAt D0 p) ∧ J (ps.map (·.1)) wr)
    (fun _ wr => wr.rangeLeft b W.heap.size)
  case atStart =>
    exact ⟨_, _, [], hrg0, by simp, CollectedI.start D0, by simp, hJ [] W w0 none h0 hg0 (fun r e => by cases e)⟩
  case round =>
    obtain ⟨left, cnt, ps, hrg, hcs, hC, hV, hJs⟩ := hrel
    gi_wp2_with (first
      | (gi_at_next; refine wpListIn_next_ranges _ rfl _ rfl 2 (int_keyed Tryz.underlying2) ptrElem encZ encP (fun key kl hk => by obtain ⟨x, hx, _⟩ := Maps.keyOf_i64 Tryz.underlying2 hk; exact ⟨x, hx⟩) (fun v y hv => by obtain ⟨c, hc, _⟩ := ptrElem_inv hv; exact ⟨c, hc⟩) b W.heap.size nn _ _ _ rfl hrg ?_ ?_)
      | gi_in)
    · intro hc0 hl0
      gi_wp2
      go_end0
      exact ⟨⟨_, rfl⟩, .inl ⟨_, ⟨ps, ⟨hC.perm hown K2 Tryz.underlying2 hl0, hV⟩, rfl⟩, hJs⟩⟩
    · intro x c kl yd yp w2 cnt2 hkey hlk hv hat hrg2 hlt hg2 hs2 hen
      obtain ⟨x', ex, rfl, _⟩ := Maps.keyOf_i64 Tryz.underlying2 hkey
      obtain rfl : x = x' := encZ_inj ex
      obtain ⟨c', ec, ez⟩ := ptrElem_inv hv
      obtain rfl : c = c' := by simpa using ec
      obtain rfl : yd = ptrD c := (Prod.mk.inj ez).1
      have hJ2 : J (ps.map (·.1)) w2 := hJ _ wr w2 (some W.heap.size) hJs hg2 (fun r e => by cases e; exact ⟨Nat.le_refl _, hrg.iter_walk⟩)
      obtain ⟨fn, tmps, assign, body, hy, hR⟩ := hY (ps.map (·.1)) x w2 hJ2 (by simp; omega)
      clear hs2
      gi_wp2
      refine hR.mono ?_
      have hC2 : CollectedI D0 (fun z => left z && !z.sameKey (.int .i64 x)) ((ps ++ [(x, c)]).map (·.1)) := by simpa using hC.step hlk hat
      have hV2 : ∀ p ∈ ps ++ [(x, c)], ValAt D0 p := fun p hp => (List.mem_append.1 hp).elim (hV p) (fun e => by simp at e; subst e; exact hat)
      rintro e W3 (⟨rfl, hJ3, hk3⟩ | ⟨rfl, hJx3⟩)
      · gi_wp2
        have hrg3 := hrg2.of_walks hk3
        go_roundw
        case rel => exact ⟨_, cnt2, ps ++ [(x, c)], hrg3, by simp; omega, hC2, hV2, by simpa using hJ3⟩
        case measure => rw [hrg3.left_eq, hrg.left_eq]; exact hlt
      · gi_wp2
        refine bodyPost_ret (results_none rfl _ _ _) rfl ?_
        exact ⟨⟨_, rfl⟩, .inr ⟨_, ⟨ps ++ [(x, c)], hV2, by simp⟩, hJx3⟩⟩

set_option maxHeartbeats 1000000 in
theorem keys_in (F : Fence) (n : Nat) (hf : F.fn 69) (hro : F.round = none) (mb : Option Nat) (w : World) :
    CallsIn F n Tryz.prog 69 #[.map mb] w fun e w' => e = .returned (.func (.func 97) #[] #[.pointer (some ⟨w.heap.size, 0, none⟩)]) ∧ w' = w.alloc (.cells #[.map mb] 112) := by
  refine callsIn_of_wp Tryz.func69 rfl hf ?_ hro
  simp only [Tryz.ntmps69, List.size_toArray, List.length_cons, List.length_nil, Nat.reduceAdd, Nat.reduceSub, Array.replicate_succ, Array.replicate_zero, List.push_toArray, List.append_toArray, List.nil_append, List.cons_append]
  gi_wp2
  go_ret
  exact ⟨rfl, rfl⟩

theorem keys_stops (F : Fence) (n : Nat) (h7 : F.fn 97) (hro : F.round = none) (hn : 1 ≤ n) (Bm b nn : Nat) (D0 : DataW Unit) (w : World) (hBm : Bm < w.heap.size)
    (hm : w.cell? ⟨Bm, 0, none⟩ = some (.map (some b))) (hown : w.ownsMap Tryz.prog 2 ptrElem b nn D0) :
    SeqStops F n Tryz.prog 97 #[.pointer (some ⟨Bm, 0, none⟩)] encZ (fun xs => ∃ ps, AllOf D0 ps ∧ xs = ps.map (·.1)) (fun pre => ∃ ps, PartOf D0 ps ∧ pre = ps.map (·.1)) (Maps.size D0) w := fun l J Jx W hW hJ _ hY h0 => by
  have hown' : W.ownsMap Tryz.prog 2 ptrElem b nn D0 := by
    have hbl := hown.lt
    obtain ⟨es, clock, hb, Ft, hs, hD⟩ := hown
    exact ⟨es, clock, (hW.block b hbl).trans hb, Ft, hs, hD⟩
  exact keys1S_in F n h7 hro hn l Bm b nn D0 J Jx hY W hJ ((hW.cell (p := ⟨Bm, 0, none⟩) hBm).trans hm) hown' h0

theorem info2 : (Tryz.prog.info? 2).map (fun i => (i.zero, i.size, i.bytes)) = some (some (.int .i64 0), 1, 8) := by kernel_rfl
theorem row_not_otherI {W : World} {B k r : Nat} {v : Value} {xs : List Value} {o : Obj} (h : W.ownsRow B 2 1 v k xs) (hr : W.heap[r]? = some o) (ho : o.isCells = false) : some r ≠ v.ownBlock := by
  rcases h.2 with ⟨rfl, _⟩ | ⟨g, cap, cur, rfl, _, hg, _⟩
  · simp [Value.ownBlock]
  · intro e
    obtain rfl : r = g := by simpa [Value.ownBlock] using e
    rw [hr] at hg
    cases hg
    cases ho

set_option maxRecDepth 100000 in
set_option maxHeartbeats 2000000 in
theorem appendSeqI_in (F : Fence) (n : Nat) (h61 : F.fn 96) (hro : F.round = none) (hn : 2 ≤ n) (g : Nat) (lb : Array Value) (hFg : F.fn g) (eg : ∀ args w, (callFunc g args).run Tryz.prog w = .ok (.enter g args) w)
    (S Sp : List Int → Prop) (N B : Nat) (x0 : Value) (xs0 : List Int) (w : World) (hrow0 : w.ownsRow B 2 1 x0 xs0.length (xs0.map encZ)) (hB : B ≤ w.heap.size) (hN : xs0.length + N ≤ 17592186044416)
    (hseq : SeqStops F (n - 1) Tryz.prog g lb encZ S Sp N w) :
    CallsIn F n Tryz.prog 96 #[x0, .func (.func g) #[] lb] w fun e w' => ∃ (v : Value) (ss : List Int), e = .returned v ∧ S ss ∧ w'.ownsRow B 2 1 v (xs0.length + ss.length) ((xs0 ++ ss).map encZ) ∧ w.grownBy w' x0.ownBlock ∧
      (v.ownBlock = x0.ownBlock ∨ ∀ k, v.ownBlock = some k → w.heap.size ≤ k) := by
  have h1 : 1 ≤ n := by omega
  obtain ⟨i0, hi, hz0, hz1, hz2⟩ := info_parts info2
  obtain ⟨A0, c0, rfl⟩ : ∃ A0 c0, x0 = .slice A0 xs0.length c0 := by
    rcases hrow0.2 with ⟨rfl, h0⟩ | ⟨b, cp, cur, rfl, _⟩
    · exact ⟨none, 0, by rw [h0]⟩
    · exact ⟨_, _, rfl⟩
  refine callsIn_of_wp_marks Tryz.func96 rfl h61 ?_ hro
  simp only [Tryz.ntmps96, List.size_toArray, List.length_cons, List.length_nil, Nat.reduceAdd, Nat.reduceSub, Array.replicate_succ, Array.replicate_zero, List.push_toArray, List.append_toArray, List.nil_append, List.cons_append]
  gi_wp2
  refine wpIn_rangeFunc_ownF hro h1 (gf := g) (lb := lb) rfl hFg eg (encs := fun x => #[encZ x]) (Kp := KeepsWalks) (w0 := w) hseq walksK_t walksK_b ((Below.refl _ w).alloc (Nat.le_refl _) _) (fun _ => rfl)
    (fun pre W => (∃ v, Boxed W w.heap.size 135 v ∧ W.ownsRow B 2 1 v (xs0.length + pre.length) ((xs0 ++ pre).map encZ) ∧ (v.ownBlock = (Value.slice A0 xs0.length c0).ownBlock ∨ ∀ k, v.ownBlock = some k → w.heap.size ≤ k)) ∧ w.grownBy W (Value.slice A0 xs0.length c0).ownBlock)
    (fun _ _ _ => False) ?hI (fun _ _ _ _ _ hs _ _ => hs) ?h0
    (fun x => { tmps := #[.slice A0 xs0.length c0, .func (.func g) #[] lb, .pointer (some ⟨w.heap.size, 0, none⟩), undef, .slice none 0 0, encZ x, .func (.func g) #[] lb, encZ x, undef, undef, undef, undef, undef], defers := [] }) ?assign ?body ?done ?stop
  case hI =>
    rintro s W W' row ⟨⟨v, hbx, hrow, hat⟩, hgr⟩ hg hr
    refine ⟨⟨v, hbx.kept hg ?_, hrow.kept hg ?_, hat⟩, hgr.andThen hg fun j e => .inl ?_⟩
    · intro e
      obtain ⟨_, o, ho, hc⟩ := hr _ e.symm
      rw [show W.heap[w.heap.size]? = _ from hbx] at ho
      cases ho
      cases hc
    · by_cases e : v.ownBlock = none
      · exact .inl e
      · refine .inr fun e' => ?_
        obtain ⟨r, hv⟩ := Option.ne_none_iff_exists'.1 e
        obtain ⟨_, o, ho, hc⟩ := hr r (by rw [← e', hv])
        exact row_not_otherI hrow ho hc hv.symm
    · have := (hr j e).1
      simp at this
      omega
  case h0 =>
    exact ⟨⟨_, Boxed.new w 135 _, by simpa using hrow0.alloc _, .inl rfl⟩, World.grownBy_alloc w _ _⟩
  case assign =>
    intro l x W K hK
    gi_wp2
    exact hK
  case body =>
    rintro l pre x W ⟨⟨v, hbx, hrow, hat⟩, hgr⟩ hlen
    have hcv := hbx.cell
    have hsz := hgr.size
    gi_wp2_with (gi_at_builtin; refine wpListIn_append_own_at _ rfl _ _ 135 rfl B 2 i0 (.int .i64 0) 1 8 Tryz.underlying135 hi hz0 hz1 hz2 rfl (by decide) _ _ _ rfl (hrow.alloc _) ⟨W.heap.size, 0, none⟩ 1 1 [encZ x] rfl rfl (cell_one_new _ _ _) (by simp [Value.oneCell']) (by unfold maxLen; omega) (by omega) (by simp; omega) ?_; intro v' w1 hown' hgrow _ hat'; obtain ⟨g', cap', rfl⟩ := ownsRow_succ hown'; obtain ⟨hv1, hv2, hr2, hk2, hb2⟩ := hbx.appended (by decide) hrow (by omega) hB hown' hgrow; have hc1 := hv1.cell; have hf1 := hv1.frozen)
    have hkw : KeepsWalks W (w1.setCell ⟨w.heap.size, 0, none⟩ (.slice (some ⟨g', 0, none⟩) (xs0.length + pre.length + 1) cap')) := ((KeepsWalks.alloc _ _).trans (KeepsWalks.of_grownBy hgrow fun j o ej hj => by
      cases hw : o.isWalk with
      | false => rfl
      | true => exact absurd ej.symm (row_not_otherI (hrow.alloc _) hj (Obj.not_cells_of_walk hw)))).trans (KeepsWalks.setCell _ _ _)
    have hat2 : (Value.slice (some ⟨g', 0, none⟩) (xs0.length + pre.length + 1) cap').ownBlock = v.ownBlock ∨ (Value.slice (some ⟨g', 0, none⟩) (xs0.length + pre.length + 1) cap').ownBlock = some (W.alloc (.cells #[encZ x] 2)).heap.size := hat'
    refine ⟨hk2, hkw, ⟨⟨_, hv2, by simpa [Nat.add_assoc] using hr2, ?_⟩, ?_⟩⟩
    · rcases hat2 with e | e
      · rcases hat with e2 | e2
        · exact .inl (e.trans e2)
        · exact .inr fun k hk => e2 k (e.symm.trans hk)
      · refine .inr fun k hk => ?_
        rw [e] at hk
        simp at hk
        omega
    · refine ((hgr.andThen (World.grownBy_alloc W _ none) (fun j e => by cases e)).andThen hgrow (fun j e => ?_)).andThen (grownBy_setCell' _ _ _) (fun j e => .inl (by cases e; exact Nat.le_refl _))
      rcases hat with e2 | e2
      · exact .inr (by rw [← e2]; exact e)
      · exact .inl (e2 j e)
  case done =>
    rintro D ss W hD hS ⟨⟨v, hbx, hrow, hat⟩, hgr⟩ hK
    have hcv := hbx.cell
    gi_wp2
    refine ⟨by simp, .inl ⟨_, _, rfl, run_takeDeferred hK, ?_⟩⟩
    exact ⟨_, results_tmp rfl _ _ _, v, ss, rfl, hS, ownsRow_putObj hrow _ hK rfl, hgr.andThen (grownBy_putObj' _ _ _) (fun j e => .inl (by cases e; simp at hD; omega)), hat⟩
  case stop =>
    rintro D c pre W _ _ h _
    exact h.elim

set_option maxHeartbeats 2000000 in
set_option maxRecDepth 100000 in
theorem collect_any (Bm b nn : Nat) (D0 : DataW Unit) (w : World) (hBm : Bm < w.heap.size) (hm : w.cell? ⟨Bm, 0, none⟩ = some (.map (some b))) (hown : w.ownsMap Tryz.prog 2 ptrElem b nn D0) (hn : Maps.size D0 ≤ 1000000) :
    Calls Tryz.prog 68 #[.func (.func 97) #[] #[.pointer (some ⟨Bm, 0, none⟩)]] w fun e w' => ∃ (v : Value) (ss : List Int), e = .returned v ∧ (∃ ps, AllOf D0 ps ∧ ss = ps.map (·.1)) ∧ w'.ownsRow w.heap.size 2 1 v ss.length (ss.map encZ) ∧ Below w.heap.size w w' := by
  have CA := (callsIn_wide (n := 6)).1 (appendSeqI_in Fence.wide 6 trivial rfl (by omega) 97 #[.pointer (some ⟨Bm, 0, none⟩)] trivial (enters_of Tryz.func97 (by kernel_rfl) rfl) _ _ _ w.heap.size (.slice none 0 0) [] w (World.ownsRow_nil _ _ _ _) (Nat.le_refl _) (by simp; omega) (keys_stops Fence.wide 5 trivial rfl (by omega) Bm b nn D0 w hBm hm hown))
  have HCA := Lib.hid CA
  clear CA hm hown
  go_enter Tryz.func68, Tryz.ntmps68
  go_wp2_with (go_at_call 96; ((refine HCA.out.mono ?_); rintro e w1 ⟨v, ss, rfl, hps, hrow, hg, _⟩; have HP := Lib.hid hps; have HR := Lib.hid hrow; have HG := Lib.hid hg; clear hps hrow hg))
  go_ret
  exact ⟨_, ss, rfl, HP.out, by simpa using HR.out, (Below.refl _ w).grown HG.out (Nat.le_refl _) (fun k hk => by cases hk)⟩

theorem foldl_max (l : List Int) : ∀ a : Int, a ≤ l.foldl max a ∧ (∀ x ∈ l, x ≤ l.foldl max a) ∧ (l.foldl max a = a ∨ l.foldl max a ∈ l) := by
  induction l with
  | nil => intro a; simp
  | cons y l ih =>
    intro a
    obtain ⟨h1, h2, h3⟩ := ih (max a y)
    simp only [List.foldl_cons]
    refine ⟨by omega, fun x hx => ?_, ?_⟩
    · rcases List.mem_cons.1 hx with rfl | hx
      · omega
      · exact h2 x hx
    · rcases h3 with h3 | h3
      · rw [h3]
        by_cases e : a ≤ y
        · right; rw [Int.max_eq_right e]; exact List.mem_cons_self
        · left; omega
      · right; exact List.mem_cons_of_mem _ h3
/-- the greatest version -/
def newestOf (vs : List Int) : Int := vs.foldl max 0
theorem newest_eq {ss vs : List Int} {a : Int} {tl : List Int} (hp : ss.Perm vs) (he : ss = a :: tl) (h1 : ∀ x ∈ vs, 1 ≤ x) : tl.foldl max a = newestOf vs ∧ newestOf vs ∈ vs := by
  obtain ⟨a1, a2, a3⟩ := foldl_max tl a
  obtain ⟨b1, b2, b3⟩ := foldl_max vs 0
  have hmem : tl.foldl max a ∈ vs := hp.mem_iff.1 (by
    rw [he]
    rcases a3 with h | h
    · rw [h]; exact List.mem_cons_self
    · exact List.mem_cons_of_mem _ h)
  have hle : ∀ x ∈ vs, x ≤ tl.foldl max a := fun x hx => by
    have := hp.mem_iff.2 hx
    rw [he] at this
    rcases List.mem_cons.1 this with rfl | h
    · exact a1
    · exact a2 x h
  have hm2 : vs.foldl max 0 ∈ vs := by
    rcases b3 with h | h
    · have := h1 _ hmem
      have := b2 _ hmem
      omega
    · exact h
  have := hle _ hm2
  have := b2 _ hmem
  have e : tl.foldl max a = newestOf vs := by unfold newestOf; omega
  exact ⟨e, hm2⟩

set_option maxHeartbeats 2000000 in
set_option maxRecDepth 100000 in
theorem max_any (B0 : Nat) (v : Value) (a : Int) (tl : List Int) (w : World) (hrow : w.ownsRow B0 2 1 v (a :: tl).length ((a :: tl).map encZ)) (hlen : tl.length ≤ 1000000) :
    Calls Tryz.prog 67 #[v] w fun e w' => e = .returned (.int .i64 (tl.foldl max a)) ∧ w' = w := by
  rcases hrow.2 with ⟨_, h0⟩ | ⟨g, cap, cur, rfl, hg, hcur, hcap, hcm, hsz, hcells⟩
  · simp at h0
  have hc : ∀ j, j < tl.length + 1 → w.cell? ⟨g, j, none⟩ = some (.int .i64 ((a :: tl).getD j 0)) := fun j hj => by
    rw [Lib.cell_of_heap hcur]
    have h1 : ((a :: tl).map encZ)[j]? = some (encZ ((a :: tl).getD j 0)) := by
      have : j < (a :: tl).length := by simpa using hj
      rw [List.getElem?_map, List.getD, List.getElem?_eq_getElem this]
      rfl
    rw [← hcells, List.getElem?_take_of_lt (by simp; omega)] at h1
    simpa using h1
  have h0 : w.cell? ⟨g, 0, none⟩ = some (.int .i64 a) := by simpa using hc 0 (by omega)
  have HC := Lib.hid hc
  clear hc hrow hcur hcells
  simp only [List.length_cons]
  go_enter Tryz.func67, Tryz.ntmps67
  go_wp2
  go_loop [3, 4] (fun v3 v4 => ∃ k : Nat, k ≤ tl.length ∧ v4 = .int .i64 (k + 1 : Nat) ∧ v3 = .int .i64 ((tl.take k).foldl max a)) (fun _ v4 => tl.length + 1 - (intOf v4).toNat)
  case atStart => exact ⟨0, Nat.zero_le _, rfl, rfl⟩
  case round =>
    obtain ⟨k, hk, rfl, rfl⟩ := hrel
    by_cases hlt : k < tl.length
    · have hck := HC.out (k + 1) (by omega)
      have hs : (tl.take (k + 1)).foldl max a = max ((tl.take k).foldl max a) ((a :: tl).getD (k + 1) 0) := by
        rw [List.take_add_one, List.getElem?_eq_getElem hlt, List.foldl_append]
        simp [List.getD, hlt]
      generalize (a :: tl).getD (k + 1) 0 = y at hck hs
      generalize (tl.take k).foldl max a = z at hs
      have HS := Lib.hid hs
      clear hs
      go_wp2
      go_round
      case rel => exact ⟨k + 1, by omega, by go_num, by rw [HS.out]⟩
      case measure => simp [intOf]; omega
    · obtain rfl : k = tl.length := by omega
      go_wp2
      go_ret
      exact ⟨rfl, rfl⟩
end Go.Proofs.YtancenklmfamnaaGreat.Sh
namespace Go.Proofs.YtancenklmfamnaaGreat.Sh
open Go.RowKit Go.Maps Go.Sort Go.Shelf
open Go.Proofs

def Lay.vers (L : Lay) (nm : ByteArray) : List Int := (L.ms.filter fun m => decide (m.name = nm)).map (·.ver)
def Lay.which (L : Lay) (nm : ByteArray) (v : Int) (newest : Bool) : Int := if v = 0 ∧ newest = true then newestOf (L.vers nm) else v
def Lay.find (L : Lay) (nm : ByteArray) (v : Int) (newest : Bool) : Option LM × Int :=
  if L.nOf nm = 0 then (none, 3) else match L.modOf nm (L.which nm v newest) with
  | some m => (some m, 0)
  | none => (none, 270)
def mptr (o : Option LM) : Value := .pointer (o.map fun m => ⟨m.blk, 0, none⟩)

theorem inner_intKeys {W : World} {n b : Nat} {D : DataW Unit} {ms : List LM} {nm : ByteArray} (hk : (ms.map fun m => (m.name, m.ver)).Nodup) (h : View D (innerF ms nm)) (hown : W.ownsMap Tryz.prog 2 ptrElem b n D) : (intKeys D).Perm ((ms.filter fun m => decide (m.name = nm)).map (·.ver)) := by
  have hn := inner_keys (nm := nm) hk
  obtain ⟨es, rfl, hp, hl⟩ := hown.entries K2
  have hes : (es.map (·.1)).Nodup := List.pairwise_map.2 hp
  have hperm : (es.map (·.1)).Perm ((ms.filter fun m => decide (m.name = nm)).map verK) := (List.perm_ext_iff_of_nodup hes hn).2 fun x => by
    rw [← inner_ks, ← h.has, has_eq, List.any_eq_true, List.mem_map]
    constructor
    · rintro ⟨q, hq, rfl⟩
      refine ⟨q, hq, ?_⟩
      have := hl q hq
      revert this
      cases q.1 <;> simp [WideAt.IsKeyLit, Lit.sameKey]
    · rintro ⟨q, hq, hs⟩
      exact ⟨q, hq, WideAt.sameKey_eq hs⟩
  have h2 := hperm.map Go.intOf
  rw [List.map_map, List.map_map] at h2
  exact h2

set_option maxHeartbeats 2000000 in
set_option maxRecDepth 100000 in
theorem keys42 (mb : Option Nat) (w : World) : Calls Tryz.prog 69 #[.map mb] w fun e w' => e = .returned (.func (.func 97) #[] #[.pointer (some ⟨w.heap.size, 0, none⟩)]) ∧ w' = w.alloc (.cells #[.map mb] 112) :=
  (callsIn_wide (n := 6)).1 (keys_in Fence.wide 6 trivial rfl _ w)

set_option maxHeartbeats 4000000 in
set_option maxRecDepth 100000 in
theorem find_any (B p : Nat) (L : Lay) (w : World) (h : ShelfIs B w p L) (g : Good L) (nm : ByteArray) (hnm : nm.size ≤ maxLen) (v : Int) (hv : (Lit.int .i64 v).wf = true) (newest : Bool) :
    Calls Tryz.prog 47 #[.pointer (some ⟨p, 0, none⟩), .string nm, .int .i64 v, .bool newest] w fun e w' => e = .returned (.tuple #[mptr (L.find nm v newest).1, .int .i64 (L.find nm v newest).2]) ∧ Below w.heap.size w w' := by
  obtain ⟨sem, hblk⟩ := h.blk
  have c6 : w.cell? ⟨p, 6, none⟩ = some (.map (some L.mm)) := by rw [Lib.cell_of_heap hblk]; rfl
  have hlo := h.lookOuter nm hnm
  have lenN := fun (w : World) => lenNil (W := w) 3
  have H := Lib.hid h
  have G := Lib.hid g
  clear h g hblk
  cases hin : L.innOf nm with
  | none =>
    rw [hin] at hlo
    have hn0 : L.nOf nm = 0 := (nOf_drop_iff H.out nm).2 fun x hx e => by
      obtain ⟨ib, hib⟩ := H.out.home hx
      rw [e, hin] at hib
      cases hib
    have hf : L.find nm v newest = (none, 3) := by unfold Lay.find; rw [if_pos hn0]
    rw [hf]
    clear hin hn0 hf
    go_enter Tryz.func47, Tryz.ntmps47
    go_wp2
    go_ret2
    exact ⟨rfl, Below.refl _ _⟩
  | some ib =>
    rw [hin] at hlo
    have hle := H.out.lenInner hin 3
    by_cases hn0 : L.nOf nm = 0
    · have hf : L.find nm v newest = (none, 3) := by unfold Lay.find; rw [if_pos hn0]
      rw [hf]
      rw [hn0] at hle
      clear hin hn0 hf
      go_enter Tryz.func47, Tryz.ntmps47
      go_wp2
      go_ret2
      exact ⟨rfl, Below.refl _ _⟩
    · have hle0 : ((L.nOf nm : Int) == 0) = false := by rw [beq_eq_false_iff_ne]; omega
      by_cases hw : v = 0 ∧ newest = true
      · obtain ⟨rfl, rfl⟩ := hw
        obtain ⟨nn, D, hnn, hown, hV⟩ := H.out.inner _ (H.out.inn_mem hin)
        have hkeys := inner_intKeys H.out.keys hV hown
        have hsz : Maps.size D ≤ 1000000 := by
          rw [hV.size hown K2 (inner_keys H.out.keys) (inner_ks _ _), List.length_map]
          change (L.ms.filter fun m => decide (m.name = nm)).length ≤ 1000000
          have h1 : (L.ms.filter fun m => decide (m.name = nm)).length ≤ L.ms.length := List.length_filter_le _ _
          have := H.out.few
          omega
        have hvs : ∀ x ∈ L.vers nm, 1 ≤ x := fun x hx => by
          obtain ⟨m, hm, rfl⟩ := List.mem_map.1 hx
          exact (G.out.vers m (List.mem_filter.1 hm).1).1
        have hl1 : 0 < (L.vers nm).length := by simp only [Lay.vers, List.length_map]; exact Nat.pos_of_ne_zero hn0
        have hl2 : (L.vers nm).length ≤ 256 := by
          simp only [Lay.vers, List.length_map]
          have := List.length_filter_le (fun m : LM => decide (m.name = nm)) L.ms
          have := H.out.few
          omega
        have C41 := Lib.hid (collect_any w.heap.size ib nn D (w.alloc (.cells #[.map (some ib)] 112)) (by simp) ((Lib.cell_of_heap (World.alloc_heap_new w _) 0).trans rfl) (hown.alloc _) hsz)
        have hf : L.find nm 0 true = match L.modOf nm (newestOf (L.vers nm)) with
          | some m => (some m, 0)
          | none => (none, 270) := by
          unfold Lay.find Lay.which
          rw [if_neg hn0, if_pos ⟨rfl, rfl⟩]
        rw [hf]
        clear hf
        generalize hom : L.modOf nm (newestOf (L.vers nm)) = om
        have HOM := Lib.hid hom
        clear hom
        cases om
        all_goals
          have HKS := Lib.hid hkeys
          have HVS := Lib.hid hvs
          have HIN := Lib.hid hin
          clear hown hV hkeys hvs hin
          go_enter Tryz.func47, Tryz.ntmps47
          go_wp2_with (go_at_call 69; ((refine (keys42 _ _).mono ?_); rintro e w1 ⟨rfl, rfl⟩))
          refine C41.out.mono ?_
          rintro e w2 ⟨v2, ss, rfl, ⟨ps, hps, rfl⟩, hrow, hbl⟩
          have hperm : (ps.map (·.1)).Perm (L.vers nm) := hps.1.trans HKS.out
          generalize ps.map (·.1) = ss at hrow hperm
          cases ss with
          | nil =>
            have := hperm.length_eq
            simp at this
            omega
          | cons a tl =>
            obtain ⟨hmx, hmem⟩ := newest_eq hperm rfl HVS.out
            have htl : tl.length ≤ 1000000 := by
              have := hperm.length_eq
              simp at this
              omega
            have C40 := max_any _ v2 a tl w2 hrow htl
            rw [hmx] at C40
            have hwf : (Lit.int .i64 (newestOf (L.vers nm))).wf = true := by
              obtain ⟨m, hm, e⟩ := List.mem_map.1 hmem
              rw [← e]
              exact G.out.wf (List.mem_filter.1 hm).1
            have hb2 : Below w.heap.size w w2 := ((Below.refl _ w).alloc (Nat.le_refl _) (.cells #[.map (some ib)] 112)).trans (hbl.mono (by simp))
            have hli := (H.out.below hb2).lookInner HIN.out (newestOf (L.vers nm)) hwf
            have HC40 := Lib.hid C40
            have HB2 := Lib.hid hb2
            clear hps hrow hperm hmx hmem C40 hbl hb2 hwf
            rw [HOM.out] at hli
            go_wp2_with (go_at_call 67; ((refine HC40.out.mono ?_); rintro e w3 ⟨rfl, rfl⟩))
            go_ret2
            exact ⟨rfl, HB2.out⟩
      · have hli := H.out.lookInner hin v hv
        have hf : L.find nm v newest = match L.modOf nm v with
          | some m => (some m, 0)
          | none => (none, 270) := by
          unfold Lay.find Lay.which
          rw [if_neg hn0, if_neg hw]
        rw [hf]
        clear hin hf
        generalize L.modOf nm v = om at hli
        cases newest with
        | false =>
          clear hw
          cases hv0 : (v == 0) <;> cases om
          all_goals
            go_enter Tryz.func47, Tryz.ntmps47
            go_wp2
            go_ret2
            exact ⟨rfl, Below.refl _ _⟩
        | true =>
          have hv0 : (v == 0) = false := by rw [beq_eq_false_iff_ne]; exact fun e => hw ⟨e, rfl⟩
          clear hw
          cases om
          all_goals
            go_enter Tryz.func47, Tryz.ntmps47
            go_wp2
            go_ret2
            exact ⟨rfl, Below.refl _ _⟩
end Go.Proofs.YtancenklmfamnaaGreat.Sh
