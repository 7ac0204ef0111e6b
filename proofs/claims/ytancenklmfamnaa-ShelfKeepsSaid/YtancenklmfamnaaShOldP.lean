/- begun. ShelfMany: the plain law. ShelfOldest: the plain law. -/
import Derived.Test.YtancenklmfamnaaShLaws
import Derived.Test.YtancenklmfamnaaPShelfKeepsx3
import Derived.Lib.SlBytesConst
set_option linter.unusedVariables false
set_option linter.unusedSimpArgs false
namespace Go.Proofs.Ytancenklmfamnaa.Sh
open Go.RowKit Go.Maps Go.Sort Go.Shelf
open Go.Proofs Go.MuLone
open Go.Proofs.YtancenklmfamnaaW.PrintWords (Reps OwnRow)

theorem pick_zero {L : Lay} {n : Int} (h : L.bytes + n ≤ L.room ∧ L.count < 256) : pickL L n = some 0 := vcount_yes h
theorem Laid.plain {L L' : Lay} {nm : ByteArray} {ver : Int} {dat : List Int} {i : Nat} {new : LM} (h : Laid L L' nm ver dat i new) (hz : L.bytes + dat.length ≤ L.room ∧ L.count < 256) : L'.ms = L.ms ++ [new] := by
  have h1 := h.pick
  rw [pick_zero hz] at h1
  cases h1
  rw [h.ms]
  simp [keepL_nil]
theorem noRoom_not {L : Lay} {nm : ByteArray} {n : Nat} (h1 : L.last.length < 65536) (h2 : n ≤ L.room) (h3 : L.bytes + n ≤ L.room ∧ L.count < 256) : ¬ NoRoom L nm n := by
  rintro (⟨_, h⟩ | h | h)
  · omega
  · omega
  · rw [pick_zero h3] at h; cases h

theorem RdB.blk {W : World} {g : Nat} {t : TypeId} {fr : Nat × Nat} {dat : List Int} {cap : Nat} (h : W.heap[g]? = some (.cells (dat.map encB).toArray t fr)) (hc : dat.length ≤ cap) : RdB W (.slice (some ⟨g, 0, none⟩) dat.length cap) dat := by
  refine .inr ⟨g, cap, rfl, hc, fun j x hj => ?_⟩
  have : W.cell? ⟨g, j, none⟩ = (dat.map encB).toArray[j]? := by simp [World.cell?, h]
  rw [this]
  simp [hj]
theorem Rest.fresh {B p : Nat} {w : World} {L : Lay} (h : Rest B w p L) {g : Nat} (hg : w.heap.size ≤ g) : ¬ Owned p L g := fun e => by have := h.is.lt e; omega
/-- bytes beside the shelf -/
structure Apart (w : World) (p : Nat) (L : Lay) (v : Value) (dat : List Int) : Prop where
  rd : RdB w v dat
  off : ∀ k, v.ownBlock = some k → ¬ Owned p L k ∧ k < w.heap.size
theorem Apart.step {B p : Nat} {w w' : World} {L L' : Lay} {v : Value} {dat : List Int} (h : Apart w p L v dat) (st : Step B w w' p L L') : Apart w' p L' v dat :=
  ⟨h.rd.far st.1 fun k hk => (h.off k hk).1, fun k hk => ⟨fun ho => by
    rcases st.2.2.1 k ho with h1 | h1
    · exact (h.off k hk).1 h1
    · have := (h.off k hk).2
      omega, Nat.lt_of_lt_of_le (h.off k hk).2 st.size⟩⟩
theorem Apart.below {p : Nat} {w w' : World} {L : Lay} {v : Value} {dat : List Int} (h : Apart w p L v dat) (hb : Below w.heap.size w w') : Apart w' p L v dat :=
  ⟨h.rd.far (Same.below (S := fun _ => False) hb) fun _ _ h => h, fun k hk => ⟨(h.off k hk).1, Nat.lt_of_lt_of_le (h.off k hk).2 hb.size⟩⟩
theorem RdB.C {w : World} {v : Value} {dat : List Int} (h : RdB w v dat) (hl : dat.length ≤ 9223372036854775807) : ∃ A c, v = .slice A dat.length c ∧ dat.length ≤ c ∧ (YtancenklmfamnaaW.PrintWords.Kd.int .u8).C w A dat.length dat := by
  rcases h with ⟨rfl, rfl⟩ | ⟨g, cap, rfl, hc, hcell⟩
  · exact ⟨none, 0, rfl, Nat.le_refl _, rfl, hl, fun h => absurd h (Nat.lt_irrefl 0)⟩
  · refine ⟨_, cap, rfl, hc, rfl, hl, fun _ => ⟨_, rfl, fun j x hj => ⟨[encB x], rfl, rfl, fun i u hi => ?_⟩⟩⟩
    have hi0 : i = 0 := by
      have := (List.getElem?_eq_some_iff.1 hi).1
      simpa using this
    subst hi0
    simp at hi
    subst hi
    have := hcell j x hj
    show w.cell? ((⟨g, 0, none⟩ : Addr).add (j * 1 + 0)) = some (encB x)
    rw [Addr.add_lit]
    simpa using this
def heldOf (m : LM) : PShelfKeeps.S39 := ⟨m.name, m.ver, m.dat.length, m.used⟩
theorem held_C {w : World} {base : Nat} {v : Value} {ps : List LM} (h : OwnRow RL 39 4 w base v ps) : ∃ A c, v = .slice A ps.length c ∧ ps.length ≤ c ∧ YtancenklmfamnaaW.PrintWords.Kd.C PShelfKeeps.k39 w A (ps.map heldOf).length (ps.map heldOf) := by
  obtain ⟨A, c, hv, hc, h1, h2, h3⟩ := h.reads
  refine ⟨A, c, hv, hc, rfl, by simpa using h2, fun hn => ?_⟩
  obtain ⟨ad, hA, hc⟩ := h3 (by simpa using hn)
  refine ⟨ad, hA, fun j q hj => ?_⟩
  rw [List.getElem?_map] at hj
  obtain ⟨m, hm, rfl⟩ := Option.map_eq_some_iff.1 hj
  obtain ⟨cs, e1, e2, e3⟩ := hc j m hm
  exact ⟨cs, e1, by rw [show cs = cellsOf m from e2]; exact PShelfKeeps.k39_mk w (heldOf m), e3⟩
theorem two_C {W : World} {g : Nat} {t : TypeId} {x y : PShelfKeeps.S39} (h : W.heap[g]? = some (.cells #[.string x.f0, .int .i64 x.f1, .int .i64 x.f2, .int .i64 x.f3, .string y.f0, .int .i64 y.f1, .int .i64 y.f2, .int .i64 y.f3] t (0, 0))) :
    YtancenklmfamnaaW.PrintWords.Kd.C PShelfKeeps.k39 W (some ⟨g, 0, none⟩) 2 [x, y] := by
  refine ⟨rfl, by decide, fun _ => ⟨_, rfl, fun j q hj => ?_⟩⟩
  match j, hj with
  | 0, hj =>
    simp at hj
    subst hj
    refine ⟨_, rfl, PShelfKeeps.k39_mk W x, fun i u hi => ?_⟩
    show W.cell? ((⟨g, 0, none⟩ : Addr).add (0 * 4 + i)) = some u
    rw [Addr.add_lit, Lib.cell_of_heap h]
    match i, hi with
    | 0, hi => simpa using hi
    | 1, hi => simpa using hi
    | 2, hi => simpa using hi
    | 3, hi => simpa using hi
    | i + 4, hi => simp at hi
  | 1, hj =>
    simp at hj
    subst hj
    refine ⟨_, rfl, PShelfKeeps.k39_mk W y, fun i u hi => ?_⟩
    show W.cell? ((⟨g, 0, none⟩ : Addr).add (1 * 4 + i)) = some u
    rw [Addr.add_lit, Lib.cell_of_heap h]
    match i, hi with
    | 0, hi => simpa using hi
    | 1, hi => simpa using hi
    | 2, hi => simpa using hi
    | 3, hi => simpa using hi
    | i + 4, hi => simp at hi
  | j + 2, hj => simp at hj
theorem Eq_loop (l : List PShelfKeeps.S39) (hl : l.length ≤ 1000000) : ∀ (d k i : Nat), l.length - i = d → i ≤ l.length → d < k → PShelfKeeps.heddlelaw27_Eq.l0 k l l i = some true
  | 0, k, i, hd, hi, hk => by
    obtain ⟨k, rfl⟩ : ∃ m, k = m + 1 := ⟨k - 1, by omega⟩
    simp only [PShelfKeeps.heddlelaw27_Eq.l0]
    rw [if_neg (by omega)]
  | d + 1, k, i, hd, hi, hk => by
    obtain ⟨k, rfl⟩ : ∃ m, k = m + 1 := ⟨k - 1, by omega⟩
    simp only [PShelfKeeps.heddlelaw27_Eq.l0]
    rw [if_pos (by omega), if_pos (by omega), if_pos (by omega), if_neg (by simp)]
    have e : wrap64 ((i : Int) + 1) = ((i + 1 : Nat) : Int) := by unfold wrap64; omega
    rw [e]
    exact Eq_loop l hl d k (i + 1) (by omega) (by omega) (by omega)
theorem Eq_self (l : List PShelfKeeps.S39) (hl : l.length ≤ 1000000) : PShelfKeeps.heddlelaw27_Eq.f (l.length + 1) l l = some true := by
  unfold PShelfKeeps.heddlelaw27_Eq.f
  rw [if_pos rfl]
  exact Eq_loop l hl l.length (l.length + 1) 0 (by omega) (by omega) (by omega)
def bA : ByteArray := ⟨#[97]⟩
def bB : ByteArray := ⟨#[98]⟩
theorem okA : Nm.nameOk bA = true := by decide +kernel
theorem okB : Nm.nameOk bB = true := by decide +kernel
theorem bA_ne : bA ≠ bB := by decide +kernel
theorem alloc_is (w : World) (o : Obj) : (w.alloc o).heap[w.heap.size]? = some o := World.alloc_heap_new w o
theorem below_alloc (w : World) (o : Obj) : Below w.heap.size w (w.alloc o) := (Below.refl _ w).alloc (Nat.le_refl _) o
set_option maxHeartbeats 4000000 in
set_option maxRecDepth 1000000 in
theorem begun_any (w : World) : Calls Try.prog 6 #[] w fun e w' => e = .returned (.bool true) ∧ Below w.heap.size w w' := by
  have kc := fun (w : World) (C : Array Value) (n c : Nat) => Lib.run_convert_bytes_const (P := Try.prog) w 22 5 C n c Try.underlying22 Try.underlying5
  go_enter Try.func6, Try.ntmps6
  go_wp2_with fail
  refine (new_yes 10 _ (by omega) (by omega)).mono ?_
  rintro e w1 ⟨p, mm, ml, rfl, hb1, hr1⟩
  have R1 := Lib.hid hr1
  have B1 := Lib.hid hb1
  clear hr1 hb1
  go_wp2_with fail
  refine (new_bad 0 _ (.inl (by omega))).mono ?_
  rintro e w1' ⟨rfl, rfl⟩
  go_wp2_with fail
  have hbl : ∀ o, Below w1'.heap.size w1' (w1'.alloc o) := below_alloc w1'
  -- Put a abcd
  refine (put_ver (R1.out.below (hbl _)) (by show (0 : Int) < _; omega) bA okA _ [97, 98, 99, 100] 1 rfl (by omega) (RdB.blk (dat := [97, 98, 99, 100]) (alloc_is w1' _) (by decide)) (by decide) (fun k hk => by cases hk; exact R1.out.fresh (Nat.le_refl _)) (noRoom_not (by show (0 : Nat) < _; omega) (by show ((4 : Nat) : Int) ≤ 10; omega) ⟨by show (0 : Int) + ((4 : Nat) : Int) ≤ 10; omega, by show (0 : Int) < 256; omega⟩)).mono ?_
  rintro e w2 ⟨rfl, L1, i1, m1, ld1, st1, hr2⟩
  have hm1 : L1.ms = [m1] := ld1.plain ⟨by show (0 : Int) + ((4 : Nat) : Int) ≤ 10; omega, by show (0 : Int) < 256; omega⟩
  have hb1 : L1.bytes = 4 := by rw [hr2.good.bytes, hm1]; simp [sizes, sz, ld1.dat_]
  have hc1 : L1.count = 1 := by rw [hr2.good.count, hm1]; rfl
  have hl1 : L1.last = [(bA, 1)] := ld1.last
  have hrm1 : L1.room = 10 := ld1.room
  have ht1 : L1.touch = 1 := ld1.touch
  have hlo1 : L1.lastOf bA = some 1 := by simp [Lay.lastOf, hl1]
  have Q1 := Lib.hid (And.intro hm1 (And.intro hb1 (And.intro hc1 (And.intro hl1 (And.intro hrm1 (And.intro ht1 hlo1))))))
  have B2 := Lib.hid (st1.base (R1.out.below (hbl _)) (B1.out.alloc B1.out.size _) (Nat.le_refl _) (Nat.le_refl _))
  have R2 := Lib.hid hr2
  have D1 := Lib.hid ld1
  clear hm1 hb1 hc1 hl1 hrm1 ht1 hlo1 ld1 st1 hr2 hbl R1 B1
  go_wp2_with fail
  -- Put a efgh
  have hbl : ∀ o, Below w2.heap.size w2 (w2.alloc o) := below_alloc w2
  obtain ⟨hm1, hb1, hc1, hl1, hrm1, ht1, hlo1⟩ := Q1.out
  refine (put_ver (R2.out.below (hbl _)) (by rw [ht1]; omega) bA okA _ [101, 102, 103, 104] 2 (by rw [hlo1]; rfl) (by omega) (RdB.blk (dat := [101, 102, 103, 104]) (alloc_is w2 _) (by decide)) (by decide) (fun k hk => by cases hk; exact R2.out.fresh (Nat.le_refl _)) (noRoom_not (by rw [hl1]; decide) (by rw [hrm1]; decide) ⟨by rw [hb1, hrm1]; decide, by rw [hc1]; decide⟩)).mono ?_
  rintro e w3 ⟨rfl, L2, i2, m2, ld2, st2, hr3⟩
  have hm2 : L2.ms = [m1, m2] := by rw [ld2.plain ⟨by rw [hb1, hrm1]; decide, by rw [hc1]; decide⟩, hm1]; rfl
  have hb2 : L2.bytes = 8 := by rw [hr3.good.bytes, hm2]; simp [sizes, sz, D1.out.dat_, ld2.dat_]
  have hc2 : L2.count = 2 := by rw [hr3.good.count, hm2]; rfl
  have hl2 : L2.last = [(bA, 2)] := by rw [ld2.last, hl1, hlo1]; decide +kernel
  have hrm2 : L2.room = 10 := by rw [ld2.room, hrm1]
  have ht2 : L2.touch = 2 := by rw [ld2.touch, ht1]; rfl
  have hv2 : L2.vers bA = [1, 2] := by simp [Lay.vers, hm2, D1.out.name, D1.out.ver_, ld2.name, ld2.ver_]
  have hf2 : (L2.find bA 0 true).1 = some m2 := by
    have hn : L2.nOf bA = 2 := by simp [Lay.nOf, hm2, D1.out.name, ld2.name]
    unfold Lay.find Lay.which
    rw [if_neg (by rw [hn]; decide), if_pos ⟨rfl, rfl⟩, hv2]
    have : L2.modOf bA (newestOf [1, 2]) = some m2 := by
      rw [show newestOf [1, 2] = 2 from by decide +kernel]
      simp [Lay.modOf, hm2, D1.out.name, D1.out.ver_, ld2.name, ld2.ver_]
    rw [this]
  have hne : m1.blk ≠ m2.blk := by
    have := hr3.is.blks
    rw [hm2] at this
    simpa using this
  have Q2 := Lib.hid (And.intro hm2 (And.intro hb2 (And.intro hc2 (And.intro hl2 (And.intro hrm2 (And.intro ht2 (And.intro hf2 hne)))))))
  have B3 := Lib.hid (st2.base (R2.out.below (hbl _)) (B2.out.alloc B2.out.size _) (Nat.le_refl _) (Nat.le_refl _))
  have R3 := Lib.hid hr3
  have D2 := Lib.hid ld2
  clear hm1 hb1 hc1 hl1 hrm1 ht1 hlo1 hm2 hb2 hc2 hl2 hrm2 ht2 hv2 hf2 hne ld2 st2 hr3 hbl R2 B2 Q1
  go_wp2_with fail
  -- Take a 0
  obtain ⟨hm2, hb2, hc2, hl2, hrm2, ht2, hf2, hne⟩ := Q2.out
  have tk := take_yes R3.out (by rw [ht2]; omega) bA (by decide +kernel) 0 (by decide +kernel) hf2 (by rw [D2.out.used]; omega)
  rw [D2.out.ver_, D2.out.dat_] at tk
  refine tk.mono ?_
  rintro e w4 ⟨v4, rfl, hrow4, hfo4, st3, hr4⟩
  have A4 := Lib.hid (show Apart w4 p (L2.took m2) v4 [101, 102, 103, 104] from ⟨RdB.of_row hrow4, fun k hk => ⟨fun ho => hfo4 k hk (.inl ho), by
    obtain ⟨_, cur, hc⟩ := row_ty hrow4 hk
    exact (Array.getElem?_eq_some_iff.1 hc).1⟩⟩)
  have hms3 : (L2.took m2).ms = [m1, { m2 with used := 1, touched := 3 }] := by
    simp [Lay.took, hm2, takeF, hne, ht2, D2.out.used]
  have hun3 : unusedL (L2.took m2) = [m1] := by
    unfold unusedL
    rw [hms3]
    have h1 : isUnused m1 = true := by simp [isUnused, D1.out.used]
    have h2 : isUnused { m2 with used := 1, touched := 3 } = false := by simp [isUnused]
    simp [List.filter_cons, h1, h2]
  have hpk3 : pickL (L2.took m2) ((6 : Nat) : Int) = some 1 := by
    unfold pickL
    rw [hun3]
    show vcount L2.room ((6 : Nat) : Int) L2.bytes L2.count ([m1].map sz) = some 1
    rw [hrm2, hb2, hc2]
    have : [m1].map sz = [4] := by simp [sz, D1.out.dat_]
    rw [this]
    decide +kernel
  have hlo3 : (L2.took m2).lastOf bB = none := by
    show (L2.last.find? _).map _ = none
    rw [hl2]
    decide +kernel
  have hnr3 : ¬ NoRoom (L2.took m2) bB 6 := by
    rintro (⟨_, h⟩ | h | h)
    · have : L2.last.length = 1 := by rw [hl2]; rfl
      have h' : 65536 ≤ L2.last.length := h
      omega
    · have h' : L2.room < ((6 : Nat) : Int) := h
      rw [hrm2] at h'
      omega
    · rw [hpk3] at h; cases h
  have Q3 := Lib.hid (And.intro hms3 (And.intro hun3 (And.intro hpk3 (And.intro hlo3 (And.intro hnr3 (And.intro hne (show (L2.took m2).touch = 3 by simp [Lay.took, ht2])))))))
  have B4 := Lib.hid (st3.base R3.out B3.out (Nat.le_refl _) (Nat.le_refl _))
  have R4 := Lib.hid hr4
  clear tk hrow4 hfo4 st3 hr4 hms3 hun3 hpk3 hlo3 hnr3 hm2 hb2 hc2 hl2 hrm2 ht2 hf2 hne R3 B3 Q2
  go_wp2_with fail
  -- Put b ijklmn
  obtain ⟨hms3, hun3, hpk3, hlo3, hnr3, hne, ht3⟩ := Q3.out
  have hbl : ∀ o, Below w4.heap.size w4 (w4.alloc o) := below_alloc w4
  refine (put_ver (R4.out.below (hbl _)) (by rw [ht3]; omega) bB okB _ [105, 106, 107, 108, 109, 110] 1 (by rw [hlo3]; rfl) (by omega) (RdB.blk (dat := [105, 106, 107, 108, 109, 110]) (alloc_is w4 _) (by decide)) (by decide) (fun k hk => by cases hk; exact R4.out.fresh (Nat.le_refl _)) hnr3).mono ?_
  rintro e w5 ⟨rfl, L4, i4, m3, ld4, st4, hr5⟩
  have hi4 : i4 = 1 := by
    have h1 := ld4.pick
    have h2 : pickL (L2.took m2) ((6 : Nat) : Int) = some i4 := h1
    rw [hpk3] at h2
    exact (Option.some.inj h2).symm
  have hms4 : L4.ms = [{ m2 with used := 1, touched := 3 }, m3] := by
    rw [ld4.ms, hi4, hun3]
    unfold keepL
    rw [hms3]
    have hne' : decide (m1.blk = m2.blk) = false := by simp [hne]
    simp [List.filter_cons, gone, hne]
  have hf4 : (L4.find bA 1 true) = (none, 270) := by
    have hn : L4.nOf bA = 1 := by simp [Lay.nOf, hms4, D2.out.name, ld4.name, List.filter_cons, bA_ne, Ne.symm bA_ne]
    unfold Lay.find Lay.which
    rw [if_neg (by rw [hn]; decide), if_neg (by simp)]
    have : L4.modOf bA 1 = none := by
      simp [Lay.modOf, hms4, D2.out.name, D2.out.ver_, ld4.name, ld4.ver_, Ne.symm bA_ne]
    rw [this]
  have A5 := Lib.hid ((A4.out.below (hbl _)).step st4)
  have Q4 := Lib.hid (And.intro hms4 (And.intro hf4 (show L4.touch = 4 by rw [ld4.touch, ht3]; rfl)))
  have B5 := Lib.hid (st4.base (R4.out.below (hbl _)) (B4.out.alloc B4.out.size _) (Nat.le_refl _) (Nat.le_refl _))
  have R5 := Lib.hid hr5
  have D4 := Lib.hid ld4
  clear hms3 hun3 hpk3 hlo3 hnr3 hne ht3 hms4 hf4 hi4 ld4 st4 hr5 hbl R4 B4 Q3 A4
  go_wp2_with fail
  -- Take a 1
  obtain ⟨hms4, hf4, ht4⟩ := Q4.out
  have tk := take_no R5.out (by rw [ht4]; omega) bA (by decide +kernel) 1 (by decide +kernel) (by rw [hf4])
  rw [hf4] at tk
  refine tk.mono ?_
  rintro e w6 ⟨rfl, st5, hr6⟩
  have A6 := Lib.hid (A5.out.step st5)
  have B6 := Lib.hid (st5.base R5.out B5.out (Nat.le_refl _) (Nat.le_refl _))
  have R6 := Lib.hid hr6
  obtain ⟨A7, c7, hv7, _, hC7⟩ := A6.out.rd.C (by decide)
  have hcv := YtancenklmfamnaaW.PrintWords.Kd.C_string (P := Try.prog) (c := c7) Try.underlying22 Try.underlying5 Try.underlying9 hC7
  change (convert 22 9 (.slice A7 4 c7)).run Try.prog w6 = .ok (.string ⟨#[101, 102, 103, 104]⟩) w6 at hcv
  change v4 = .slice A7 4 c7 at hv7
  subst hv7
  clear tk st5 hr6 hms4 hf4 ht4 B5 R5 A5 hC7 A6
  go_wp2_with fail
  -- List
  refine (list_yes R6.out).mono ?_
  rintro e w7 ⟨v7, rfl, hrow7, st6, hr7⟩
  obtain ⟨hms4, hf4, ht4⟩ := Q4.out
  have hso : sortedN L4 = L4.ms := by
    unfold sortedN
    refine List.mergeSort_of_pairwise ?_
    rw [hms4]
    have hlt : ¬ ltN m3 { m2 with used := 1, touched := 3 } := by
      rintro (h | ⟨h, _⟩)
      · rw [D4.out.name] at h
        have h2 : ¬ bB.data.toList < bA.data.toList := by decide +kernel
        exact h2 (by rw [← show m2.name = bA from D2.out.name]; exact h)
      · rw [D4.out.name] at h
        exact bA_ne ((show m2.name = bA from D2.out.name).symm.trans h.symm)
    simp [hlt]
  obtain ⟨A8, c8, hv8, hc8, hC8⟩ := held_C hrow7
  rw [hso, hms4] at hv8 hc8 hC8
  have hh : [({ m2 with used := 1, touched := 3 } : LM), m3].map heldOf = [⟨bA, 2, 4, 1⟩, ⟨bB, 1, 6, 0⟩] := by
    simp [heldOf, D2.out.name, D2.out.ver_, D2.out.dat_, D4.out.name, D4.out.ver_, D4.out.dat_, D4.out.used]
  rw [hh] at hC8
  change v7 = .slice A8 2 c8 at hv8
  change 2 ≤ c8 at hc8
  subst hv8
  have HC8 := Lib.hid hC8
  have HLE := Lib.hid hc8
  have B7 := Lib.hid (st6.base R6.out B6.out (Nat.le_refl _) (Nat.le_refl _))
  clear hrow7 st6 hr7 hms4 hf4 ht4 hso hC8 hc8 hh B6 R6
  go_wp2_with fail
  have hbl : ∀ o, Below w7.heap.size w7 (w7.alloc o) := below_alloc w7
  refine (PShelfKeeps.heddlelaw27_Eq.calls 3 A8 c8 [⟨bA, 2, 4, 1⟩, ⟨bB, 1, 6, 0⟩] (some ⟨w7.heap.size, 0, none⟩) 2 [⟨bA, 2, 4, 1⟩, ⟨bB, 1, 6, 0⟩] true _ (YtancenklmfamnaaW.PrintWords.Kd.C_below HC8.out (hbl _)) HLE.out (two_C (x := ⟨bA, 2, 4, 1⟩) (y := ⟨bB, 1, 6, 0⟩) (alloc_is w7 _)) (by decide) (Eq_self _ (by decide))).mono ?_
  rintro e w8 ⟨rfl, ⟨⟨q, rfl⟩⟩⟩
  have B8 := Lib.hid (below_drewN (B7.out.alloc B7.out.size (.cells #[.string bA, .int .i64 2, .int .i64 4, .int .i64 1, .string bB, .int .i64 1, .int .i64 6, .int .i64 0] 39)) q)
  clear hbl
  go_wp2
  go_ret
  exact ⟨rfl, B8.out⟩
end Go.Proofs.Ytancenklmfamnaa.Sh
namespace Go.Proofs.Ytancenklmfamnaa.Sh
open Go.RowKit Go.Maps Go.Sort Go.Shelf
open Go.Proofs

def bX : ByteArray := ⟨#[120]⟩
theorem okX : Nm.nameOk bX = true := by decide +kernel
def nmI (i : Nat) : ByteArray := ⟨#[110, UInt8.ofNat (97 + i % 16), UInt8.ofNat (97 + i / 16 % 16), UInt8.ofNat (97 + i / 256 % 16), UInt8.ofNat (97 + i / 4096)]⟩
theorem nmI_inj {i j : Nat} (hi : i < 65536) (hj : j < 65536) (h : nmI i = nmI j) : i = j := by
  simp only [nmI, ByteArray.mk.injEq, Array.mk.injEq, List.cons.injEq, and_true, true_and] at h
  obtain ⟨h1, h2, h3, h4⟩ := h
  have e : ∀ a b : Nat, a < 256 → b < 256 → UInt8.ofNat a = UInt8.ofNat b → a = b := fun a b ha hb h => by
    have := congrArg UInt8.toNat h
    simp at this
    omega
  have h1 := e _ _ (by omega) (by omega) h1
  have h2 := e _ _ (by omega) (by omega) h2
  have h3 := e _ _ (by omega) (by omega) h3
  have h4 := e _ _ (by omega) (by omega) h4
  omega
theorem nmI_ok {i : Nat} (hi : i < 65536) : Nm.nameOk (nmI i) = true := by
  have hs : (nmI i).size = 5 := rfl
  have hb : ∀ k : Nat, (h : k < 5) → YtancenklmfamnaaW.PrintWords.bt (nmI i) k = (((nmI i).data[k]'h).toNat : Int) := fun k h => by
    unfold YtancenklmfamnaaW.PrintWords.bt
    rw [dif_pos (show (k : Int).toNat < (nmI i).size by rw [hs]; simpa using h)]
    rfl
  have hl : ∀ n : Nat, 97 ≤ n → n ≤ 122 → Nm.letterB n = true := fun n h1 h2 => by
    simp [Nm.letterB]
    omega
  have t : ∀ a : Nat, a < 16 → (UInt8.ofNat (97 + a)).toNat = 97 + a := fun a h => by simp; omega
  simp only [Nm.nameOk, hs]
  simp only [Nm.allFrom]
  rw [hb 0 (by omega), hb (0 + 1) (by omega), hb (0 + 1 + 1) (by omega), hb (0 + 1 + 1 + 1) (by omega), hb (0 + 1 + 1 + 1 + 1) (by omega)]
  have e0 : Nm.letterB (((nmI i).data[0]'(by show 0 < 5; omega)).toNat : Int) = true := by
    show Nm.letterB (110 : Int) = true
    decide
  have e1 : Nm.letterB (((nmI i).data[0 + 1]'(by show 1 < 5; omega)).toNat : Int) = true := by
    show Nm.letterB ((UInt8.ofNat (97 + i % 16)).toNat : Int) = true
    rw [t _ (by omega)]
    exact hl _ (by omega) (by omega)
  have e2 : Nm.letterB (((nmI i).data[0 + 1 + 1]'(by show 2 < 5; omega)).toNat : Int) = true := by
    show Nm.letterB ((UInt8.ofNat (97 + i / 16 % 16)).toNat : Int) = true
    rw [t _ (by omega)]
    exact hl _ (by omega) (by omega)
  have e3 : Nm.letterB (((nmI i).data[0 + 1 + 1 + 1]'(by show 3 < 5; omega)).toNat : Int) = true := by
    show Nm.letterB ((UInt8.ofNat (97 + i / 256 % 16)).toNat : Int) = true
    rw [t _ (by omega)]
    exact hl _ (by omega) (by omega)
  have e4 : Nm.letterB (((nmI i).data[0 + 1 + 1 + 1 + 1]'(by show 4 < 5; omega)).toNat : Int) = true := by
    show Nm.letterB ((UInt8.ofNat (97 + i / 4096)).toNat : Int) = true
    rw [t _ (by omega)]
    exact hl _ (by omega) (by omega)
  have and2 : ∀ {a b : Bool}, a = true → b = true → (a && b) = true := fun h1 h2 => by rw [h1, h2]; rfl
  exact and2 (by decide) (and2 e0 (and2 e1 (and2 e2 (and2 e3 (and2 e4 rfl)))))

/-- a model, but for where it lies -/
def sig (m : LM) : ByteArray × Int × List Int × Int × Int := (m.name, m.ver, m.dat, m.used, m.touched)
def sigX (v : Nat) : ByteArray × Int × List Int × Int × Int := (bX, v, [], 0, v)
theorem sig_mem {l : List LM} {vs : List Nat} {f : Nat → ByteArray × Int × List Int × Int × Int} (h : l.map sig = vs.map f) {m : LM} (hm : m ∈ l) : ∃ v ∈ vs, sig m = f v := by
  have : sig m ∈ vs.map f := h ▸ List.mem_map_of_mem hm
  obtain ⟨v, hv, e⟩ := List.mem_map.1 this
  exact ⟨v, hv, e.symm⟩
theorem sizes_zero {l : List LM} (h : ∀ m ∈ l, m.dat = []) : sizes l = 0 := by
  induction l with
  | nil => rfl
  | cons x l ih =>
    simp [sizes, sz, h x List.mem_cons_self, ih fun m hm => h m (List.mem_cons_of_mem _ hm)]
theorem unused_self {L : Lay} (hu : ∀ m ∈ L.ms, m.used = 0) (hp : L.ms.Pairwise fun a b => a.touched < b.touched) : unusedL L = L.ms := by
  unfold unusedL
  rw [List.filter_eq_self.2 fun m hm => by simp [isUnused, hu m hm]]
  exact List.mergeSort_of_pairwise (hp.imp fun h => by simp; omega)
theorem keep_tail {L : Lay} {x : LM} {l : List LM} (hms : L.ms = x :: l) (hb : (L.ms.map (·.blk)).Nodup) : keepL L [x] = l := by
  unfold keepL
  rw [hms] at hb ⊢
  simp only [List.map_cons, List.nodup_cons] at hb
  rw [List.filter_cons_of_neg (by simp [gone])]
  refine List.filter_eq_self.2 fun y hy => ?_
  have : x.blk ≠ y.blk := fun e => hb.1 (List.mem_map.2 ⟨y, hy, e.symm⟩)
  simp [gone, this]
theorem pick_free {L : Lay} (g : Good L) (hf : ∀ m ∈ L.ms, m.dat = [] ∧ m.used = 0) (hfew : L.ms.length ≤ 256) : L.bytes = 0 ∧ ∃ i, pickL L 0 = some i := by
  have hb : L.bytes = 0 := by rw [g.bytes]; exact sizes_zero fun m hm => (hf m hm).1
  refine ⟨hb, ?_⟩
  have hr := g.room.1
  by_cases hc : L.count < 256
  · exact ⟨0, pick_zero ⟨by omega, hc⟩⟩
  · have hl : (unusedL L).length = L.ms.length := by
      unfold unusedL
      rw [List.length_mergeSort, List.filter_eq_self.2 fun m hm => by simp [isUnused, (hf m hm).2]]
    have h256 : L.ms.length = 256 := by have := g.count; omega
    cases hu : unusedL L with
    | nil => rw [hu] at hl; simp at hl; omega
    | cons x l =>
      have hx : x.dat = [] := (hf x (unused_mem (by rw [hu]; exact List.mem_cons_self)).1).1
      refine ⟨1, ?_⟩
      unfold pickL
      rw [hu, List.map_cons, vcount_on (by omega), vcount_yes (by simp [sz, hx]; have := g.count; omega)]
      rfl

theorem range_snoc {α : Type} (f : Nat → α) (s n : Nat) : (List.range' s (n + 1)).map f = (List.range' s n).map f ++ [f (s + n)] := by
  rw [List.range'_1_concat, List.map_append]
  rfl
/-- phase one: n versions from lo on -/
structure PhA (L : Lay) (lo n i : Nat) : Prop where
  room : L.room = 1
  touch : L.touch = i
  last : L.last = if i = 0 then [] else [(bX, (i : Int))]
  ms : L.ms.map sig = (List.range' lo n).map sigX
  le : lo + n = i + 1
theorem PhA.all {L : Lay} {lo n i : Nat} (h : PhA L lo n i) : ∀ m ∈ L.ms, m.name = bX ∧ m.dat = [] ∧ m.used = 0 ∧ m.touched = m.ver := fun m hm => by
  obtain ⟨v, _, e⟩ := sig_mem h.ms hm
  simp [sig, sigX] at e
  exact ⟨e.1, e.2.2.1, e.2.2.2.1, by rw [e.2.1, e.2.2.2.2]⟩
theorem PhA.sorted {L : Lay} {lo n i : Nat} (h : PhA L lo n i) : L.ms.Pairwise fun a b => a.touched < b.touched := by
  have h1 : (L.ms.map sig).map (fun s => s.2.2.2.2) = L.ms.map (·.touched) := by rw [List.map_map]; rfl
  have h2 : ((L.ms.map sig).map fun s => s.2.2.2.2).Pairwise (· < ·) := by
    rw [h.ms, List.map_map]
    refine List.pairwise_map.2 ((List.pairwise_lt_range' (s := lo) (n := n) (step := 1) (by omega)).imp fun hlt => ?_)
    simp [sigX]
    exact hlt
  rw [h1] at h2
  exact List.pairwise_map.1 h2
theorem PhA.len {L : Lay} {lo n i : Nat} (h : PhA L lo n i) : L.ms.length = n := by
  have := congrArg List.length h.ms
  simpa using this
theorem PhA.bytes {L : Lay} {lo n i : Nat} (h : PhA L lo n i) (g : Good L) : L.bytes = 0 := by rw [g.bytes]; exact sizes_zero fun m hm => (h.all m hm).2.1
theorem PhA.start (a b : Nat) : PhA (Lay.start 1 a b) 1 0 0 := ⟨rfl, rfl, rfl, rfl, rfl⟩
theorem PhA.lastOf {L : Lay} {lo n i : Nat} (h : PhA L lo n i) : L.lastOf bX = (if i = 0 then none else some (i : Int)) ∧ L.last.length ≤ 1 := by
  simp only [Lay.lastOf]
  rw [h.last]
  split <;> simp
theorem PhA.noroom {L : Lay} {lo n i : Nat} (h : PhA L lo n i) (g : Good L) (hn : n ≤ 256) : ¬ NoRoom L bX 0 := by
  have hl := h.len
  obtain ⟨_, j, hj⟩ := pick_free g (fun m hm => ⟨(h.all m hm).2.1, (h.all m hm).2.2.1⟩) (by omega)
  rintro (⟨_, h1⟩ | h1 | h1)
  · have := h.lastOf.2; omega
  · have := h.room; omega
  · have h2 : pickL L 0 = none := h1
    rw [hj] at h2; cases h2
theorem PhA.ver {L : Lay} {lo n i : Nat} (h : PhA L lo n i) : (L.lastOf bX).getD 0 + 1 = ((i + 1 : Nat) : Int) := by
  rw [h.lastOf.1]
  split <;> simp
  omega
theorem PhA.last_next {L L' : Lay} {lo n i j : Nat} {new : LM} (h : PhA L lo n i) (hl : Laid L L' bX ((i + 1 : Nat) : Int) [] j new) : L'.last = if i + 1 = 0 then [] else [(bX, ((i + 1 : Nat) : Int))] := by
  rw [if_neg (by omega), hl.last, h.last, h.lastOf.1]
  by_cases hi : i = 0
  · subst hi
    decide +kernel
  · rw [if_neg hi, if_neg hi]
    have e : max ((some (i : Int)).getD 0) ((i + 1 : Nat) : Int) = ((i + 1 : Nat) : Int) := by
      simp only [Option.getD_some]
      omega
    rw [e]
    simp [setLast, knownIn, putAt]
theorem PhA.next {L L' : Lay} {i j : Nat} {new : LM} (h : PhA L 1 i i) (g : Good L) (hi : i < 256) (hl : Laid L L' bX ((i + 1 : Nat) : Int) [] j new) : PhA L' 1 (i + 1) (i + 1) := by
  have hc := g.count
  have hln := h.len
  have hb := h.bytes g
  have hms := hl.plain ⟨by rw [hb, h.room]; decide, by omega⟩
  refine ⟨by rw [hl.room]; exact h.room, by rw [hl.touch, h.touch]; rfl, h.last_next hl, ?_, by omega⟩
  rw [hms, List.map_append, h.ms, List.range'_1_concat, List.map_append]
  congr 1
  simp only [List.map_cons, List.map_nil, sig, sigX, hl.name, hl.ver_, hl.dat_, hl.used, hl.touched, h.touch]
  have e : ((i + 1 : Nat) : Int) = ((1 + i : Nat) : Int) := by omega
  have e2 : ((i : Nat) : Int) + 1 = ((1 + i : Nat) : Int) := by omega
  rw [e, e2]
theorem PhA.turn {L L' : Lay} {j : Nat} {new : LM} (h : PhA L 1 256 256) (g : Good L) (hbk : (L.ms.map (·.blk)).Nodup) (hl : Laid L L' bX ((257 : Nat) : Int) [] j new) : PhA L' 2 256 257 := by
  have hc := g.count
  have hln := h.len
  have hb := h.bytes g
  have hun := unused_self (fun m hm => (h.all m hm).2.2.1) h.sorted
  obtain ⟨x, l, hxl⟩ : ∃ x l, L.ms = x :: l := by
    cases e : L.ms with
    | nil => rw [e] at hln; simp at hln
    | cons x l => exact ⟨x, l, rfl⟩
  have hx := h.all x (by rw [hxl]; exact List.mem_cons_self)
  have hpick : pickL L 0 = some 1 := by
    unfold pickL
    rw [hun, hxl, List.map_cons, vcount_on (by omega), vcount_yes (by simp [sz, hx.2.1]; have := h.room; omega)]
    rfl
  have hj : j = 1 := by
    have h1 : pickL L 0 = some j := hl.pick
    rw [hpick] at h1
    exact (Option.some.inj h1).symm
  have hms : L'.ms = l ++ [new] := by
    rw [hl.ms, hj, hun, hxl]
    show keepL L [x] ++ [new] = _
    rw [keep_tail hxl hbk]
  have hl2 : l.map sig = (List.range' 2 255).map sigX := by
    have h1 := h.ms
    rw [hxl, show (256 : Nat) = 255 + 1 from rfl, List.range'_succ] at h1
    simp only [List.map_cons, List.cons.injEq] at h1
    exact h1.2
  refine ⟨by rw [hl.room]; exact h.room, by rw [hl.touch, h.touch]; rfl, h.last_next hl, ?_, by omega⟩
  have e : ((257 : Nat) : Int) = ((2 + 255 : Nat) : Int) := by omega
  have e2 : ((256 : Nat) : Int) + 1 = ((2 + 255 : Nat) : Int) := by omega
  have hnew : [new].map sig = [sigX (2 + 255)] := by
    simp only [List.map_cons, List.map_nil, sig, sigX, hl.name, hl.ver_, hl.dat_, hl.used, hl.touched, h.touch]
    rw [e, e2]
  rw [hms, List.map_append, hl2, hnew, range_snoc sigX 2 255]

def sigB (j v : Nat) : ByteArray × Int × List Int × Int := (bX, (v : Int), [], if v < 2 + j then 1 else 0)
/-- phase two: j of them are in use -/
structure PhB (L : Lay) (j : Nat) : Prop where
  room : L.room = 1
  touch : L.touch = 257 + j
  last : L.last = [(bX, 257)]
  ms : (L.ms.map fun m => (m.name, m.ver, m.dat, m.used)) = (List.range' 2 256).map (sigB j)
theorem PhA.toB {L : Lay} (h : PhA L 2 256 257) : PhB L 0 := by
  refine ⟨h.room, h.touch, h.last, ?_⟩
  have h1 := congrArg (List.map fun s : ByteArray × Int × List Int × Int × Int => (s.1, s.2.1, s.2.2.1, s.2.2.2.1)) h.ms
  rw [List.map_map, List.map_map] at h1
  refine h1.trans (List.map_congr_left fun v hv => ?_)
  have := (List.mem_range'_1.1 hv).1
  simp [sigX, sigB]
  omega
theorem PhB.mem {L : Lay} {j : Nat} (h : PhB L j) {m : LM} (hm : m ∈ L.ms) : m.name = bX ∧ m.dat = [] ∧ ∃ v : Nat, 2 ≤ v ∧ v < 258 ∧ m.ver = v ∧ m.used = if v < 2 + j then 1 else 0 := by
  have : (m.name, m.ver, m.dat, m.used) ∈ L.ms.map fun m => (m.name, m.ver, m.dat, m.used) := List.mem_map.2 ⟨m, hm, rfl⟩
  rw [h.ms] at this
  obtain ⟨v, hv, e⟩ := List.mem_map.1 this
  have := List.mem_range'_1.1 hv
  simp only [sigB, Prod.mk.injEq] at e
  exact ⟨e.1.symm, e.2.2.1.symm, v, by omega, by omega, e.2.1.symm, e.2.2.2.symm⟩
theorem PhB.len {L : Lay} {j : Nat} (h : PhB L j) : L.ms.length = 256 := by
  have := congrArg List.length h.ms
  simpa using this
theorem PhB.find {L : Lay} {j : Nat} (h : PhB L j) (hj : j < 256) : ∃ m, (L.find bX ((j : Int) + 2) true).1 = some m ∧ m ∈ L.ms ∧ m.used = 0 ∧ m.ver = (j : Int) + 2 ∧ m.dat = [] := by
  obtain ⟨m, hm, hv⟩ : ∃ m ∈ L.ms, m.ver = (j : Int) + 2 := by
    have : sigB j (2 + j) ∈ (List.range' 2 256).map (sigB j) := List.mem_map.2 ⟨2 + j, List.mem_range'_1.2 (by omega), rfl⟩
    rw [← h.ms] at this
    obtain ⟨m, hm, e⟩ := List.mem_map.1 this
    simp [sigB] at e
    exact ⟨m, hm, by rw [e.2.1]; omega⟩
  have hn : L.nOf bX ≠ 0 := by
    have : L.ms.filter (fun m => decide (m.name = bX)) = L.ms := List.filter_eq_self.2 fun y hy => by simp [(h.mem hy).1]
    unfold Lay.nOf
    rw [this, h.len]
    decide
  obtain ⟨m', hm'⟩ : ∃ m', L.modOf bX ((j : Int) + 2) = some m' := by
    cases e : L.modOf bX ((j : Int) + 2) with
    | some m' => exact ⟨m', rfl⟩
    | none =>
      have := List.find?_eq_none.1 e m hm
      simp [(h.mem hm).1, hv] at this
  obtain ⟨k1, k2, k3⟩ := find_key hm'
  obtain ⟨_, hd, v, _, _, e1, e2⟩ := h.mem k1
  refine ⟨m', ?_, k1, ?_, k3, hd⟩
  · unfold Lay.find Lay.which
    rw [if_neg hn, if_neg (by omega), hm']
  · rw [e2, if_neg (by omega)]
theorem PhB.next {L : Lay} {j : Nat} (h : PhB L j) (hk : (L.ms.map fun m => (m.name, m.ver)).Nodup) (hb : (L.ms.map (·.blk)).Nodup) {m : LM} (hm : m ∈ L.ms) (hu : m.used = 0) (hv : m.ver = (j : Int) + 2) : PhB (L.took m) (j + 1) := by
  refine ⟨h.room, by show L.touch + 1 = _; rw [h.touch]; omega, h.last, ?_⟩
  show (L.ms.map (takeF m.blk (m.used + 1) (L.touch + 1))).map _ = _
  rw [List.map_map]
  have e1 : (L.ms.map ((fun m => (m.name, m.ver, m.dat, m.used)) ∘ takeF m.blk (m.used + 1) (L.touch + 1))) = (L.ms.map fun m => (m.name, m.ver, m.dat, m.used)).map fun s => (s.1, s.2.1, s.2.2.1, if s.2.1 = (j : Int) + 2 then (1 : Int) else s.2.2.2) := by
    rw [List.map_map]
    refine List.map_congr_left fun x hx => ?_
    obtain ⟨a1, a2, a3, a4⟩ := takeF_key m.blk (m.used + 1) (L.touch + 1) x
    simp only [Function.comp_def, a1, a2, a3]
    by_cases e : x.blk = m.blk
    · have := map_inj hb hx hm e
      subst this
      rw [if_pos hv]
      simp [takeF, hu]
    · have hne : x.ver ≠ (j : Int) + 2 := fun e2 => e (by rw [map_inj hk hx hm (by rw [(h.mem hx).1, (h.mem hm).1, e2, hv])])
      rw [if_neg hne]
      simp [takeF, e]
  rw [e1, h.ms, List.map_map]
  refine List.map_congr_left fun v hv2 => ?_
  show ((bX, (v : Int), ([] : List Int), if (v : Int) = (j : Int) + 2 then (1 : Int) else if v < 2 + j then 1 else 0) : ByteArray × Int × List Int × Int) = (bX, (v : Int), [], if v < 2 + (j + 1) then 1 else 0)
  by_cases e : (v : Int) = (j : Int) + 2
  · rw [if_pos e, if_pos (by omega)]
  · rw [if_neg e]
    by_cases e2 : v < 2 + j
    · rw [if_pos e2, if_pos (by omega)]
    · rw [if_neg e2, if_neg (by omega)]
theorem PhB.noroom {L : Lay} (h : PhB L 256) (g : Good L) : NoRoom L bX 0 := by
  refine .inr (.inr ?_)
  have hun : unusedL L = [] := by
    unfold unusedL
    have : L.ms.filter isUnused = [] := List.filter_eq_nil_iff.2 fun m hm => by
      obtain ⟨_, _, v, h1, h2, h3, h4⟩ := h.mem hm
      rw [if_pos (by omega)] at h4
      simp [isUnused, h4]
    rw [this]
    simp
  have := g.count
  have := h.len
  show pickL L 0 = none
  unfold pickL
  rw [hun]
  exact vcount_no (by omega)
theorem PhB.one {L : Lay} {j : Nat} (h : PhB L j) : L.modOf bX 1 = none := by
  refine List.find?_eq_none.2 fun m hm => ?_
  obtain ⟨_, _, v, h1, h2, h3, h4⟩ := h.mem hm
  simp
  intro _
  omega
theorem PhB.lastOf {L : Lay} {j : Nat} (h : PhB L j) : (L.lastOf bX).getD 0 = 257 := by
  simp only [Lay.lastOf]
  rw [h.last]
  simp

/-- phase three: i names are known -/
structure PhC (L : Lay) (i : Nat) : Prop where
  room : L.room = 1
  touch : L.touch = i
  len : L.last.length = i
  yes : ∀ j, j < i → L.lastOf (nmI j) = some 1
  no : ∀ s, (∀ j, j < i → s ≠ nmI j) → L.lastOf s = none
  free : ∀ m ∈ L.ms, m.dat = [] ∧ m.used = 0
theorem PhC.start (a b : Nat) : PhC (Lay.start 1 a b) 0 := ⟨rfl, rfl, rfl, fun j h => absurd h (Nat.not_lt_zero j), fun s _ => rfl, fun m hm => by cases hm⟩
theorem PhC.new {L : Lay} {i : Nat} (h : PhC L i) (hi : i < 65536) : L.lastOf (nmI i) = none := h.no _ fun j hj e => by have := nmI_inj hi (by omega) e; omega
theorem PhC.noroom {L : Lay} {i : Nat} (h : PhC L i) (g : Good L) (hfew : L.ms.length ≤ 256) {s : ByteArray} (hs : i < 65536 ∨ L.lastOf s ≠ none) : ¬ NoRoom L s 0 := by
  obtain ⟨_, k, hk⟩ := pick_free g h.free hfew
  rintro (⟨h1, h2⟩ | h1 | h1)
  · rw [h.len] at h2
    rcases hs with hs | hs
    · omega
    · exact hs h1
  · have := h.room; omega
  · have h2 : pickL L 0 = none := h1
    rw [hk] at h2; cases h2
theorem PhC.next {L L' : Lay} {i j : Nat} {new : LM} (h : PhC L i) (hi : i < 65536) (hl : Laid L L' (nmI i) 1 [] j new) : PhC L' (i + 1) := by
  have hn := h.new hi
  have hlo := lastOf_laid hl
  rw [hn] at hlo
  refine ⟨by rw [hl.room]; exact h.room, by rw [hl.touch, h.touch]; rfl, ?_, fun k hk => ?_, fun s hs => ?_, fun m hm => ?_⟩
  · rw [hl.last]
    unfold setLast
    rw [if_neg (by rw [(lastOf_none_iff L _).1 hn]; decide)]
    simp [h.len]
  · rw [hlo]
    by_cases e : k = i
    · subst e; rw [if_pos rfl]; rfl
    · rw [if_neg (fun e2 => e (nmI_inj (by omega) hi e2))]
      exact h.yes k (by omega)
  · rw [hlo, if_neg (hs i (by omega))]
    exact h.no s fun j hj => hs j (by omega)
  · rw [hl.ms] at hm
    rcases List.mem_append.1 hm with hm | hm
    · exact h.free m (List.mem_filter.1 hm).1
    · simp at hm
      subst hm
      exact ⟨hl.dat_, hl.used⟩
def bOne : ByteArray := ⟨#[111, 110, 101, 95, 109, 111, 114, 101]⟩
theorem okOne : Nm.nameOk bOne = true := by decide +kernel
theorem one_ne (j : Nat) : bOne ≠ nmI j := fun h => by
  have := congrArg ByteArray.size h
  have e1 : bOne.size = 8 := rfl
  have e2 : (nmI j).size = 5 := rfl
  omega
theorem PhC.full {L : Lay} (h : PhC L 65536) : NoRoom L bOne 0 := .inl ⟨h.no _ fun j _ => one_ne j, by rw [h.len]; exact Nat.le_refl _⟩
theorem PhC.modOne {L : Lay} {i : Nat} (h : PhC L i) (g : Good L) : L.modOf bOne 7 = none := by
  refine List.find?_eq_none.2 fun m hm => ?_
  simp
  intro e
  obtain ⟨v, h1, _⟩ := g.known m hm
  rw [e, h.no _ fun j _ => one_ne j] at h1
  cases h1

theorem PhA.sortedN {L : Lay} {lo n i : Nat} (h : PhA L lo n i) : sortedN L = L.ms := by
  unfold Sh.sortedN
  refine List.mergeSort_of_pairwise (h.sorted.imp_of_mem fun {a b} ha hb hlt => ?_)
  have ha' := h.all a ha
  have hb' := h.all b hb
  simp
  rintro (h1 | ⟨_, h1⟩)
  · rw [ha'.1, hb'.1] at h1
    exact List.lt_irrefl _ h1
  · rw [ha'.2.2.2, hb'.2.2.2] at hlt
    omega
theorem PhA.head {L : Lay} (h : PhA L 2 256 257) : ∃ x l, L.ms = x :: l ∧ x.ver = 2 ∧ l.length = 255 := by
  have hl := h.len
  cases e : L.ms with
  | nil => rw [e] at hl; simp at hl
  | cons x l =>
    refine ⟨x, l, rfl, ?_, by rw [e] at hl; simpa using hl⟩
    have h1 := h.ms
    rw [e, show (256 : Nat) = 255 + 1 from rfl, List.range'_succ] at h1
    simp only [List.map_cons, List.cons.injEq] at h1
    have h2 := h1.1
    simp only [sig, sigX, Prod.mk.injEq] at h2
    exact h2.2.1
open Go.Proofs.YtancenklmfamnaaW.PrintWords (OwnRow) in
theorem head_cells {w : World} {base : Nat} {v : Value} {x : LM} {l : List LM} (h : OwnRow RL 39 4 w base v (x :: l)) : ∃ g c, v = .slice (some ⟨g, 0, none⟩) (l.length + 1) c ∧ w.cell? ⟨g, 1, none⟩ = some (.int .i64 x.ver) := by
  obtain ⟨inner, ⟨h1, h2⟩, h3⟩ := h
  rcases h2 with ⟨_, h0⟩ | ⟨g, cap, cur, rfl, hg, hcur, hcap, hcm, hsz, hcells⟩
  · simp at h0
  · refine ⟨g, cap, rfl, ?_⟩
    have e1 : (inner.drop (0 * 4)).take 4 = cellsOf x := h3.2 0 x rfl
    have e2 : inner[1]? = some (.int .i64 x.ver) := by
      have := congrArg (fun l => l[1]?) e1
      simpa [cellsOf, List.getElem?_take_of_lt] using this
    rw [Lib.cell_of_heap hcur, ← Array.getElem?_toList]
    rw [← hcells, List.getElem?_take_of_lt (by simp; omega)] at e2
    exact e2

def numsI (i : Nat) : List Int := [110, 97 + (i : Int) % 16, 97 + (i : Int) / 16 % 16, 97 + (i : Int) / 256 % 16, 97 + (i : Int) / 4096]
theorem nums_str (i : Nat) : strOfNums (numsI i) = nmI i := by
  unfold strOfNums numsI nmI
  have e1 : (97 + (i : Int) % 16).toNat = 97 + i % 16 := by omega
  have e2 : (97 + (i : Int) / 16 % 16).toNat = 97 + i / 16 % 16 := by omega
  have e3 : (97 + (i : Int) / 256 % 16).toNat = 97 + i / 256 % 16 := by omega
  have e4 : (97 + (i : Int) / 4096).toNat = 97 + i / 4096 := by omega
  simp [e1, e2, e3, e4]
theorem conv_nm (i : Nat) (w : World) : (convert 22 9 (.slice (some ⟨w.heap.size, 0, none⟩) 5 5)).run Try.prog (w.alloc (.cells #[.int .u8 110, .int .u8 (97 + (i : Int) % 16), .int .u8 (97 + (i : Int) / 16 % 16), .int .u8 (97 + (i : Int) / 256 % 16), .int .u8 (97 + (i : Int) / 4096)] 5)) =
    .ok (.string (nmI i)) (w.alloc (.cells #[.int .u8 110, .int .u8 (97 + (i : Int) % 16), .int .u8 (97 + (i : Int) / 16 % 16), .int .u8 (97 + (i : Int) / 256 % 16), .int .u8 (97 + (i : Int) / 4096)] 5)) := by
  have hr : RdB (w.alloc (.cells #[.int .u8 110, .int .u8 (97 + (i : Int) % 16), .int .u8 (97 + (i : Int) / 16 % 16), .int .u8 (97 + (i : Int) / 256 % 16), .int .u8 (97 + (i : Int) / 4096)] 5)) (.slice (some ⟨w.heap.size, 0, none⟩) (numsI i).length 5) (numsI i) := RdB.blk (alloc_is w _) (Nat.le_refl 5)
  obtain ⟨A, c, hv, _, hC⟩ := hr.C (by show (5 : Nat) ≤ _; decide)
  have h := YtancenklmfamnaaW.PrintWords.Kd.C_string (P := Try.prog) (c := c) Try.underlying22 Try.underlying5 Try.underlying9 hC
  rw [nums_str, ← hv] at h
  exact h
end Go.Proofs.Ytancenklmfamnaa.Sh
namespace Go.Proofs.Ytancenklmfamnaa.Sh
open Go.RowKit Go.Maps Go.Sort Go.Shelf
open Go.Proofs

def bM : ByteArray := ⟨#[109]⟩
theorem okM : Nm.nameOk bM = true := by decide +kernel
theorem sizes_all {l : List LM} {s : Nat} (h : ∀ m ∈ l, m.dat.length = s) : sizes l = s * l.length := by
  induction l with
  | nil => simp [sizes]
  | cons x l ih =>
    simp only [sizes, sz, h x List.mem_cons_self, ih fun m hm => h m (List.mem_cons_of_mem _ hm), List.length_cons, Int.natCast_add, Int.mul_add]
    omega
/-- the models of ShelfOldest; q: those in no use, oldest first; k were put -/
structure Od (L : Lay) (s n k t : Nat) (q : List LM) : Prop where
  room : L.room = ((s * n + s - 1 : Nat) : Int)
  all : ∀ m ∈ L.ms, m.name = bM ∧ m.dat.length = s
  perm : q.Perm (L.ms.filter isUnused)
  sorted : q.Pairwise fun a b => a.touched < b.touched
  last : L.last = if k = 0 then [] else [(bM, (k : Int))]
  touch : L.touch ≤ t
section
variable {L L' : Lay} {s n k t : Nat} {q : List LM} {m : LM}
theorem Od.start (s n a b : Nat) : Od (Lay.start ((s * n + s - 1 : Nat) : Int) a b) s n 0 0 [] := ⟨rfl, fun m hm => (by cases hm), List.Perm.refl _, List.Pairwise.nil, rfl, Int.le_refl _⟩
theorem Od.unused (h : Od L s n k t q) : unusedL L = q := by
  unfold unusedL
  have hs : ((L.ms.filter isUnused).mergeSort fun a b => !decide (b.touched < a.touched)).Pairwise fun a b => (!decide (b.touched < a.touched)) = true := List.pairwise_mergeSort (fun a b c h1 h2 => by simp at *; omega) (fun a b => by simp; omega) _
  refine List.Perm.eq_of_pairwise (le := fun a b => (!decide (b.touched < a.touched)) = true) (fun a b ha hb h1 h2 => ?_) hs (h.sorted.imp fun hlt => by simp; omega) ((List.mergeSort_perm _ _).trans h.perm.symm)
  have ha' : a ∈ q := h.perm.mem_iff.2 ((List.mergeSort_perm _ _).mem_iff.1 ha)
  simp at h1 h2
  have he : a.touched = b.touched := by omega
  have hnd : (q.map (·.touched)).Nodup := List.pairwise_map.2 (h.sorted.imp fun hlt => by omega)
  exact map_inj hnd ha' hb he
theorem Od.mem (h : Od L s n k t q) (hm : m ∈ q) : m ∈ L.ms ∧ ¬ 0 < m.used := by
  have h1 := List.mem_filter.1 (h.perm.mem_iff.1 hm)
  refine ⟨h1.1, ?_⟩
  have := h1.2
  simpa [isUnused] using this
theorem Od.bytes (h : Od L s n k t q) (g : Good L) : L.bytes = s * L.ms.length := by rw [g.bytes]; exact sizes_all fun m hm => (h.all m hm).2
theorem Od.lastOf (h : Od L s n k t q) : L.lastOf bM = (if k = 0 then none else some (k : Int)) ∧ L.last.length ≤ 1 := by
  simp only [Lay.lastOf]
  rw [h.last]
  split <;> simp
theorem Od.ver (h : Od L s n k t q) : (L.lastOf bM).getD 0 + 1 = ((k + 1 : Nat) : Int) := by
  rw [h.lastOf.1]
  split <;> simp
  omega
theorem Od.ver_le (h : Od L s n k t q) (g : Good L) (hm : m ∈ L.ms) : 1 ≤ m.ver ∧ m.ver ≤ k := by
  refine ⟨(g.vers m hm).1, ?_⟩
  obtain ⟨v, h1, h2⟩ := g.known m hm
  rw [(h.all m hm).1, h.lastOf.1] at h1
  split at h1
  · cases h1
  · obtain rfl := Option.some.inj h1
    exact h2
theorem Od.last_next {i : Nat} {new : LM} {dat : List Int} (h : Od L s n k t q) (hl : Laid L L' bM ((k + 1 : Nat) : Int) dat i new) : L'.last = if k + 1 = 0 then [] else [(bM, ((k + 1 : Nat) : Int))] := by
  rw [if_neg (by omega), hl.last, h.last, h.lastOf.1]
  by_cases hi : k = 0
  · subst hi
    decide +kernel
  · rw [if_neg hi, if_neg hi]
    have e : max ((some (k : Int)).getD 0) ((k + 1 : Nat) : Int) = ((k + 1 : Nat) : Int) := by
      simp only [Option.getD_some]
      omega
    rw [e]
    simp [setLast, knownIn, putAt]
theorem Od.blks (h : Od L s n k t q) (hb : (L.ms.map (·.blk)).Nodup) : (q.map (·.blk)).Nodup := ((h.perm.map (·.blk)).nodup_iff).2 (hb.sublist ((List.filter_sublist).map _))
theorem Od.new_q {i : Nat} {new : LM} {dat : List Int} {v : Int} (h : Od L s n k t q) (g : Good L) (hl : Laid L L' bM v dat i new) {q' : List LM} (hq : ∀ x ∈ q', x ∈ q) (hs : q'.Pairwise fun a b => a.touched < b.touched) : (q' ++ [new]).Pairwise fun a b => a.touched < b.touched := by
  refine List.pairwise_append.2 ⟨hs, List.pairwise_singleton _ _, fun a ha b hb => ?_⟩
  simp at hb
  subst hb
  have := g.touched a (h.mem (hq a ha)).1
  rw [hl.touched]
  omega
theorem new_unused {i : Nat} {new : LM} {dat : List Int} {v : Int} (hl : Laid L L' bM v dat i new) : isUnused new = true := by simp [isUnused, hl.used]
/-- room for one more -/
theorem Od.free (h : Od L s n k t q) (g : Good L) (hs : 1 ≤ s ∧ s ≤ 50) (hn : n ≤ 20) (hlt : L.ms.length < n) : L.bytes + ((s : Nat) : Int) ≤ L.room ∧ L.count < 256 := by
  have hb := h.bytes g
  have hc := g.count
  have h1 : s * (L.ms.length + 1) ≤ s * n := Nat.mul_le_mul_left _ hlt
  rw [Nat.mul_add] at h1
  refine ⟨?_, by omega⟩
  rw [hb, h.room, ← Int.natCast_mul]
  omega
theorem Od.noroom (h : Od L s n k t q) (g : Good L) (hs : 1 ≤ s ∧ s ≤ 50) (hn : n ≤ 20) (hlt : L.ms.length < n) : ¬ NoRoom L bM (List.replicate s (0 : Int)).length := by
  have hl := h.lastOf.2
  rw [List.length_replicate]
  refine noRoom_not (by omega) ?_ (h.free g hs hn hlt)
  have := h.free g hs hn hlt
  have hb := h.bytes g
  have : (0 : Int) ≤ ((s * L.ms.length : Nat) : Int) := Int.natCast_nonneg _
  rw [Int.natCast_mul] at this
  omega
theorem Od.next {i : Nat} {new : LM} (h : Od L s n k t q) (g : Good L) (hs : 1 ≤ s ∧ s ≤ 50) (hn : n ≤ 20) (hlt : L.ms.length < n) (hl : Laid L L' bM ((k + 1 : Nat) : Int) (List.replicate s 0) i new) :
    Od L' s n (k + 1) (t + 1) (q ++ [new]) ∧ L'.ms = L.ms ++ [new] := by
  have hms := hl.plain (by rw [List.length_replicate]; exact h.free g hs hn hlt)
  refine ⟨⟨by rw [hl.room]; exact h.room, fun m hm => ?_, ?_, h.new_q g hl (fun x hx => hx) h.sorted, h.last_next hl, by rw [hl.touch]; have := h.touch; omega⟩, hms⟩
  · rw [hms] at hm
    rcases List.mem_append.1 hm with hm | hm
    · exact h.all m hm
    · simp at hm
      subst hm
      exact ⟨hl.name, by rw [hl.dat_, List.length_replicate]⟩
  · rw [hms, List.filter_append]
    have : [new].filter isUnused = [new] := by simp [new_unused hl]
    rw [this]
    exact h.perm.append_right _
/-- full: the oldest goes -/
theorem Od.pick (h : Od L s n k t (m :: q)) (g : Good L) (hs : 1 ≤ s ∧ s ≤ 50) (hn : 1 ≤ n ∧ n ≤ 20) (hlen : L.ms.length = n) : pickL L ((s : Nat) : Int) = some 1 := by
  have hb := h.bytes g
  have hc := g.count
  have hr := h.room
  have hm := h.all m (h.mem List.mem_cons_self).1
  rw [hlen, ← Int.natCast_mul] at hb
  unfold pickL
  rw [h.unused, List.map_cons, vcount_on (by omega), vcount_yes (by simp [sz, hm.2]; omega)]
  rfl
theorem Od.noroom_full (h : Od L s n k t (m :: q)) (g : Good L) (hs : 1 ≤ s ∧ s ≤ 50) (hn : 1 ≤ n ∧ n ≤ 20) (hlen : L.ms.length = n) : ¬ NoRoom L bM (List.replicate s (0 : Int)).length := by
  have hl := h.lastOf.2
  have hp := h.pick g hs hn hlen
  have hr := h.room
  rw [List.length_replicate]
  have h1 : s * 1 ≤ s * n := Nat.mul_le_mul_left _ hn.1
  rintro (⟨_, h2⟩ | h2 | h2)
  · omega
  · omega
  · rw [hp] at h2; cases h2
theorem Od.turn {i : Nat} {new : LM} (h : Od L s n k t (m :: q)) (g : Good L) (hb : (L.ms.map (·.blk)).Nodup) (hs : 1 ≤ s ∧ s ≤ 50) (hn : 1 ≤ n ∧ n ≤ 20) (hlen : L.ms.length = n) (hl : Laid L L' bM ((k + 1 : Nat) : Int) (List.replicate s 0) i new) :
    Od L' s n (k + 1) (t + 1) (q ++ [new]) ∧ L'.ms.length = n ∧ (∀ x ∈ L'.ms, x = new ∨ x ∈ L.ms ∧ x.blk ≠ m.blk) ∧ (∀ x ∈ L.ms, x.blk ≠ m.blk → x ∈ L'.ms) ∧ new ∈ L'.ms := by
  have hi : i = 1 := by
    have h1 := hl.pick
    rw [List.length_replicate, h.pick g hs hn hlen] at h1
    exact (Option.some.inj h1).symm
  have hmm := (h.mem List.mem_cons_self).1
  have hms : L'.ms = (L.ms.filter fun x => decide (x.blk ≠ m.blk)) ++ [new] := by
    rw [hl.ms, hi, h.unused]
    show keepL L [m] ++ [new] = _
    have := keep_snoc L [] m
    rw [keepL_nil, List.nil_append] at this
    rw [← this]
  obtain ⟨_, hd2⟩ := sizes_drop hb hmm
  have mem' : ∀ x, x ∈ L'.ms ↔ x = new ∨ x ∈ L.ms ∧ x.blk ≠ m.blk := fun x => by
    rw [hms, List.mem_append, List.mem_filter, List.mem_singleton]
    simp only [decide_eq_true_eq]
    exact or_comm
  refine ⟨⟨by rw [hl.room]; exact h.room, fun x hx => ?_, ?_, h.new_q g hl (fun x hx => List.mem_cons_of_mem _ hx) (List.pairwise_cons.1 h.sorted).2, h.last_next hl, by rw [hl.touch]; have := h.touch; omega⟩, ?_, fun x hx => (mem' x).1 hx, fun x hx hne => (mem' x).2 (.inr ⟨hx, hne⟩), (mem' new).2 (.inl rfl)⟩
  · rcases (mem' x).1 hx with rfl | ⟨hx, _⟩
    · exact ⟨hl.name, by rw [hl.dat_, List.length_replicate]⟩
    · exact h.all x hx
  · rw [hms, List.filter_append]
    have e1 : [new].filter isUnused = [new] := by simp [new_unused hl]
    rw [e1]
    refine List.Perm.append_right _ ?_
    rw [List.filter_filter]
    have e2 : (L.ms.filter fun x => isUnused x && decide (x.blk ≠ m.blk)) = (L.ms.filter isUnused).filter fun x => decide (x.blk ≠ m.blk) := by
      rw [List.filter_filter]
      congr 1
      funext x
      exact Bool.and_comm _ _
    rw [e2]
    have h2 := h.perm.filter fun x => decide (x.blk ≠ m.blk)
    have hnd := h.blks hb
    simp only [List.map_cons, List.nodup_cons] at hnd
    have e3 : (m :: q).filter (fun x => decide (x.blk ≠ m.blk)) = q := by
      rw [List.filter_cons_of_neg (by simp)]
      refine List.filter_eq_self.2 fun x hx => ?_
      have : x.blk ≠ m.blk := fun e => hnd.1 (List.mem_map.2 ⟨x, hx, e⟩)
      simp [this]
    rw [e3] at h2
    exact h2
  · rw [hms, List.length_append, List.length_singleton]
    omega
end
theorem found {L : Lay} {m : LM} (hk : (L.ms.map fun m => (m.name, m.ver)).Nodup) (hm : m ∈ L.ms) (hv : 1 ≤ m.ver) (nw : Bool) : (L.find m.name m.ver nw).1 = some m := by
  have hn : L.nOf m.name ≠ 0 := by
    unfold Lay.nOf
    intro e
    have := List.length_eq_zero_iff.1 e
    have h1 : m ∈ L.ms.filter fun x => decide (x.name = m.name) := List.mem_filter.2 ⟨hm, by simp⟩
    rw [this] at h1
    cases h1
  have hmod : L.modOf m.name m.ver = some m := by
    cases e : L.modOf m.name m.ver with
    | none =>
      have := List.find?_eq_none.1 e m hm
      simp at this
    | some m' =>
      obtain ⟨k1, k2, k3⟩ := find_key e
      rw [map_inj hk k1 hm (by rw [k2, k3])]
  unfold Lay.find Lay.which
  rw [if_neg hn, if_neg (by omega), hmod]
def turnF (b : Nat) (t : Int) (x : LM) : LM := if x.blk = b then { x with used := 0, touched := t } else x
theorem turnF_key (b : Nat) (t : Int) (x : LM) : (turnF b t x).name = x.name ∧ (turnF b t x).ver = x.ver ∧ (turnF b t x).dat = x.dat ∧ (turnF b t x).blk = x.blk := by
  unfold turnF
  split <;> simp
def Lay.tk (L : Lay) (m : LM) : LM := { m with used := m.used + 1, touched := L.touch + 1 }
theorem tk_mem {L : Lay} {m : LM} (hm : m ∈ L.ms) : L.tk m ∈ (L.took m).ms := List.mem_map.2 ⟨m, hm, by simp [takeF, Lay.tk]⟩
theorem turn_ms {L : Lay} {m : LM} (hb : (L.ms.map (·.blk)).Nodup) (hm : m ∈ L.ms) (hu : m.used = 0) : ((L.took m).gave (L.tk m)).ms = L.ms.map (turnF m.blk (L.touch + 1)) := by
  show (L.ms.map (takeF m.blk (m.used + 1) (L.touch + 1))).map (setUsed m.blk (m.used + 1 - 1)) = _
  rw [List.map_map]
  refine List.map_congr_left fun x hx => ?_
  simp only [Function.comp_def, takeF, setUsed, turnF]
  by_cases e : x.blk = m.blk
  · simp [e, hu]
  · simp [e]
section
variable {L L' : Lay} {s n k t : Nat} {q a b : List LM} {m : LM}
theorem Od.touched (h : Od L s n k t (a ++ m :: b)) (g : Good L) (hb : (L.ms.map (·.blk)).Nodup) (hu : m.used = 0) :
    Od ((L.took m).gave (L.tk m)) s n k (t + 1) (a ++ b ++ [turnF m.blk (L.touch + 1) m]) := by
  have hmem := h.mem (m := m) (by simp)
  have hms := turn_ms hb hmem.1 hu
  have hnd := h.blks hb
  rw [List.map_append, List.map_cons] at hnd
  have hab : ∀ x ∈ a ++ b, x.blk ≠ m.blk := fun x hx e => by
    obtain ⟨h1, h2, h3⟩ := List.nodup_append.1 hnd
    rcases List.mem_append.1 hx with hx | hx
    · exact h3 x.blk (List.mem_map_of_mem hx) m.blk List.mem_cons_self e
    · exact (List.nodup_cons.1 h2).1 (List.mem_map.2 ⟨x, hx, e⟩)
  have hfix : ∀ l : List LM, (∀ x ∈ l, x ∈ a ++ b) → l.map (turnF m.blk (L.touch + 1)) = l := fun l hl => by
    refine (List.map_congr_left (g := id) fun x hx => ?_).trans (List.map_id l)
    simp [turnF, hab x (hl x hx)]
  refine ⟨h.room, fun x hx => ?_, ?_, ?_, h.last, by show L.touch + 1 ≤ _; have := h.touch; omega⟩
  · rw [hms] at hx
    obtain ⟨y, hy, rfl⟩ := List.mem_map.1 hx
    obtain ⟨e1, _, e3, _⟩ := turnF_key m.blk (L.touch + 1) y
    rw [e1, e3]
    exact h.all y hy
  · rw [hms]
    have e1 : (L.ms.map (turnF m.blk (L.touch + 1))).filter isUnused = (L.ms.filter isUnused).map (turnF m.blk (L.touch + 1)) := by
      rw [List.filter_map]
      congr 1
      refine List.filter_congr fun x hx => ?_
      simp only [Function.comp_def, turnF]
      split
      · rename_i e
        obtain rfl := map_inj hb hx hmem.1 e
        simp [isUnused, hu]
      · rfl
    rw [e1]
    refine List.Perm.trans ?_ (h.perm.map (turnF m.blk (L.touch + 1)))
    rw [List.map_append, List.map_cons, hfix a fun x hx => List.mem_append_left _ hx, hfix b fun x hx => List.mem_append_right _ hx, List.append_assoc]
    exact List.Perm.append_left _ (List.perm_append_comm (l₁ := b) (l₂ := [_]))
  · have hs := h.sorted
    have hsub : (a ++ b).Sublist (a ++ m :: b) := List.Sublist.append (List.Sublist.refl a) (List.sublist_cons_self m b)
    refine List.pairwise_append.2 ⟨hs.sublist hsub, List.pairwise_singleton _ _, fun x hx y hy => ?_⟩
    simp at hy
    subst hy
    have := g.touched x (h.mem (hsub.subset hx)).1
    simp [turnF]
    omega
theorem Od.held (h : Od L s n k t (m :: q)) (hb : (L.ms.map (·.blk)).Nodup) (hu : m.used = 0) : Od (L.took m) s n k (t + 1) q := by
  have hmem := h.mem (m := m) (by simp)
  refine ⟨h.room, fun x hx => ?_, ?_, (List.pairwise_cons.1 h.sorted).2, h.last, by show L.touch + 1 ≤ _; have := h.touch; omega⟩
  · obtain ⟨y, hy, rfl⟩ := List.mem_map.1 (show x ∈ L.ms.map (takeF m.blk (m.used + 1) (L.touch + 1)) from hx)
    obtain ⟨e1, _, e3, _⟩ := takeF_key m.blk (m.used + 1) (L.touch + 1) y
    rw [e1, e3]
    exact h.all y hy
  · show q.Perm ((L.ms.map (takeF m.blk (m.used + 1) (L.touch + 1))).filter isUnused)
    have e1 : (L.ms.map (takeF m.blk (m.used + 1) (L.touch + 1))).filter isUnused = (L.ms.filter isUnused).filter fun x => decide (x.blk ≠ m.blk) := by
      rw [List.filter_map, List.filter_filter]
      have e2 : L.ms.filter (isUnused ∘ takeF m.blk (m.used + 1) (L.touch + 1)) = L.ms.filter fun x => decide (x.blk ≠ m.blk) && isUnused x := by
        refine List.filter_congr fun x hx => ?_
        simp only [Function.comp_def, takeF]
        by_cases e : x.blk = m.blk
        · simp [e, isUnused, hu]
        · simp [e]
      rw [e2]
      refine (List.map_congr_left (g := id) fun x hx => ?_).trans (List.map_id _)
      have := (List.mem_filter.1 hx).2
      simp at this
      simp [takeF, this.1]
    rw [e1]
    have h2 := h.perm.filter fun x => decide (x.blk ≠ m.blk)
    have hnd := h.blks hb
    simp only [List.map_cons, List.nodup_cons] at hnd
    have e3 : (m :: q).filter (fun x => decide (x.blk ≠ m.blk)) = q := by
      rw [List.filter_cons_of_neg (by simp)]
      refine List.filter_eq_self.2 fun x hx => ?_
      have : x.blk ≠ m.blk := fun e => hnd.1 (List.mem_map.2 ⟨x, hx, e⟩)
      simp [this]
    rw [e3] at h2
    exact h2
end
open PShelfKeeps (S39 heddlelaw27_there.f heddlelaw27_there.l0 rd_T39 z39)
theorem there_loop (l : List S39) (hl : l.length ≤ 1000000) (nm : ByteArray) (v : Int) : ∀ (d k i : Nat), l.length - i = d → i ≤ l.length → d < k →
    (((∃ x ∈ l.drop i, x.f0 = nm ∧ x.f1 = v) ∧ ∃ j : Nat, PShelfKeeps.heddlelaw27_there.l0 k l nm v i = some (j : Int)) ∨ ((∀ x ∈ l.drop i, ¬ (x.f0 = nm ∧ x.f1 = v)) ∧ PShelfKeeps.heddlelaw27_there.l0 k l nm v i = some (-1)))
  | 0, k, i, hd, hi, hk => by
    obtain ⟨k, rfl⟩ : ∃ m, k = m + 1 := ⟨k - 1, by omega⟩
    refine .inr ⟨fun x hx => ?_, ?_⟩
    · rw [List.drop_eq_nil_of_le (by omega)] at hx; cases hx
    · simp only [PShelfKeeps.heddlelaw27_there.l0]
      rw [if_neg (by omega)]
  | d + 1, k, i, hd, hi, hk => by
    obtain ⟨k, rfl⟩ : ∃ m, k = m + 1 := ⟨k - 1, by omega⟩
    have hlt : i < l.length := by omega
    have e : wrap64 ((i : Int) + 1) = ((i + 1 : Nat) : Int) := by unfold wrap64; omega
    have hdr : l.drop i = l[i] :: l.drop (i + 1) := List.drop_eq_getElem_cons hlt
    have hrd : PShelfKeeps.rd_T39 l (i : Int) = l[i] := by
      unfold PShelfKeeps.rd_T39
      rw [Int.toNat_natCast, List.getD_eq_getElem?_getD, List.getElem?_eq_getElem hlt]
      rfl
    have ih := there_loop l hl nm v d k (i + 1) (by omega) (by omega) (by omega)
    simp only [PShelfKeeps.heddlelaw27_there.l0]
    rw [if_pos (by omega), if_pos (by omega), hrd, e, hdr]
    by_cases h1 : l[i].f0.toList = nm.toList
    · have h1' : l[i].f0 = nm := toList_inj (by rw [ByteArray.toList_eq, ByteArray.toList_eq] at h1; exact h1)
      rw [if_pos h1]
      by_cases h2 : l[i].f1 = v
      · rw [if_pos h2]
        exact .inl ⟨⟨l[i], List.mem_cons_self, h1', h2⟩, i, rfl⟩
      · rw [if_neg h2]
        rcases ih with ⟨⟨x, hx, hp⟩, j, hj⟩ | ⟨hno, hj⟩
        · exact .inl ⟨⟨x, List.mem_cons_of_mem _ hx, hp⟩, j, hj⟩
        · exact .inr ⟨fun x hx => (List.mem_cons.1 hx).elim (fun e => by subst e; exact fun hh => h2 hh.2) (hno x), hj⟩
    · rw [if_neg h1]
      rcases ih with ⟨⟨x, hx, hp⟩, j, hj⟩ | ⟨hno, hj⟩
      · exact .inl ⟨⟨x, List.mem_cons_of_mem _ hx, hp⟩, j, hj⟩
      · exact .inr ⟨fun x hx => (List.mem_cons.1 hx).elim (fun e => by subst e; exact fun hh => h1 (by rw [hh.1])) (hno x), hj⟩
theorem there_yes {l : List S39} (hl : l.length ≤ 1000000) {nm : ByteArray} {v : Int} (h : ∃ x ∈ l, x.f0 = nm ∧ x.f1 = v) : ∃ j : Nat, PShelfKeeps.heddlelaw27_there.f (l.length + 1) l nm v = some (j : Int) := by
  rcases there_loop l hl nm v l.length (l.length + 1) 0 (by omega) (by omega) (by omega) with ⟨_, h1⟩ | ⟨h1, _⟩
  · exact h1
  · obtain ⟨x, hx, hp⟩ := h
    exact absurd hp (h1 x hx)
theorem there_no {l : List S39} (hl : l.length ≤ 1000000) {nm : ByteArray} {v : Int} (h : ∀ x ∈ l, ¬ (x.f0 = nm ∧ x.f1 = v)) : PShelfKeeps.heddlelaw27_there.f (l.length + 1) l nm v = some (-1) := by
  rcases there_loop l hl nm v l.length (l.length + 1) 0 (by omega) (by omega) (by omega) with ⟨⟨x, hx, hp⟩, _⟩ | ⟨_, h1⟩
  · exact absurd hp (h x hx)
  · exact h1
/-- what there answers -/
theorem listed_yes {L : Lay} (hfew : L.ms.length ≤ 256) {m : LM} (hm : m ∈ L.ms) {nm : ByteArray} (hn : m.name = nm) : ∃ j : Nat, PShelfKeeps.heddlelaw27_there.f (((sortedN L).map heldOf).length + 1) ((sortedN L).map heldOf) nm m.ver = some (j : Int) := by
  have hl : ((sortedN L).map heldOf).length = L.ms.length := by simp [sortedN]
  refine there_yes (by omega) ⟨heldOf m, List.mem_map_of_mem ((List.mergeSort_perm _ _).mem_iff.2 hm), hn, rfl⟩
theorem listed_no {L : Lay} (hfew : L.ms.length ≤ 256) {nm : ByteArray} {v : Int} (hno : ∀ m ∈ L.ms, m.ver ≠ v) : PShelfKeeps.heddlelaw27_there.f (((sortedN L).map heldOf).length + 1) ((sortedN L).map heldOf) nm v = some (-1) := by
  have hl : ((sortedN L).map heldOf).length = L.ms.length := by simp [sortedN]
  refine there_no (by omega) fun x hx => ?_
  obtain ⟨m, hm, rfl⟩ := List.mem_map.1 hx
  exact fun h => hno m ((List.mergeSort_perm _ _).mem_iff.1 hm) h.2
end Go.Proofs.Ytancenklmfamnaa.Sh
