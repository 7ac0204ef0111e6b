/- begun. -/
import Derived.Test.YtancenklmfamnaaGreatShLaws
import Derived.Test.YtancenklmfamnaaGreatShEq
import Derived.Lib.SlBytesConst
set_option linter.unusedVariables false
set_option linter.unusedSimpArgs false
namespace Go.Proofs.YtancenklmfamnaaGreat.Sh
open Go.RowKit Go.Maps Go.Sort Go.Shelf
open Go.Proofs Go.MuLone
open Go.Proofs.YtancenklmfamnaaGreatW.PrintWords (Reps OwnRow)

theorem pick_zero {L : Lay} {n : Int} (h : L.bytes + n ≤ L.room ∧ L.count < 256) : pickL L n = some 0 := vcount_yes h
theorem Laid.plain {L L' : Lay} {nm : ByteArray} {ver : Int} {dat : List Int} {i : Nat} {new : LM} (h : Laid L L' nm ver dat i new) (hz : L.bytes + dat.length ≤ L.room ∧ L.count < 256) : L'.ms = L.ms ++ [new] := by
  have h1 := h.pick
  rw [pick_zero hz] at h1
  cases h1
  rw [h.ms]
  simp [keepL_nil]
theorem noRoom_not {L : Lay} {nm : ByteArray} {n : Nat} (h1 : L.last.length < 65536) (h2 : n ≤ L.room) (h3 : L.bytes + n ≤ L.room ∧ L.count < 256) : ¬ NoRoom L nm n := by
  rintro (⟨_, h⟩ | h | h)
  · omega
  · omega
  · rw [pick_zero h3] at h; cases h

theorem RdB.blk {W : World} {g : Nat} {t : TypeId} {fr : Nat × Nat} {dat : List Int} {cap : Nat} (h : W.heap[g]? = some (.cells (dat.map encB).toArray t fr)) (hc : dat.length ≤ cap) : RdB W (.slice (some ⟨g, 0, none⟩) dat.length cap) dat := by
  refine .inr ⟨g, cap, rfl, hc, fun j x hj => ?_⟩
  have : W.cell? ⟨g, j, none⟩ = (dat.map encB).toArray[j]? := by simp [World.cell?, h]
  rw [this]
  simp [hj]
theorem Rest.fresh {B p : Nat} {w : World} {L : Lay} (h : Rest B w p L) {g : Nat} (hg : w.heap.size ≤ g) : ¬ Owned p L g := fun e => by have := h.is.lt e; omega
/-- bytes beside the shelf -/
structure Apart (w : World) (p : Nat) (L : Lay) (v : Value) (dat : List Int) : Prop where
  rd : RdB w v dat
  off : ∀ k, v.ownBlock = some k → ¬ Owned p L k ∧ k < w.heap.size
theorem Apart.step {B p : Nat} {w w' : World} {L L' : Lay} {v : Value} {dat : List Int} (h : Apart w p L v dat) (st : Step B w w' p L L') : Apart w' p L' v dat :=
  ⟨h.rd.far st.1 fun k hk => (h.off k hk).1, fun k hk => ⟨fun ho => by
    rcases st.2.2.1 k ho with h1 | h1
    · exact (h.off k hk).1 h1
    · have := (h.off k hk).2
      omega, Nat.lt_of_lt_of_le (h.off k hk).2 st.size⟩⟩
theorem Apart.below {p : Nat} {w w' : World} {L : Lay} {v : Value} {dat : List Int} (h : Apart w p L v dat) (hb : Below w.heap.size w w') : Apart w' p L v dat :=
  ⟨h.rd.far (Same.below (S := fun _ => False) hb) fun _ _ h => h, fun k hk => ⟨(h.off k hk).1, Nat.lt_of_lt_of_le (h.off k hk).2 hb.size⟩⟩
theorem RdB.C {w : World} {v : Value} {dat : List Int} (h : RdB w v dat) (hl : dat.length ≤ 9223372036854775807) : ∃ A c, v = .slice A dat.length c ∧ dat.length ≤ c ∧ (YtancenklmfamnaaGreatW.PrintWords.Kd.int .u8).C w A dat.length dat := by
  rcases h with ⟨rfl, rfl⟩ | ⟨g, cap, rfl, hc, hcell⟩
  · exact ⟨none, 0, rfl, Nat.le_refl _, rfl, hl, fun h => absurd h (Nat.lt_irrefl 0)⟩
  · refine ⟨_, cap, rfl, hc, rfl, hl, fun _ => ⟨_, rfl, fun j x hj => ⟨[encB x], rfl, rfl, fun i u hi => ?_⟩⟩⟩
    have hi0 : i = 0 := by
      have := (List.getElem?_eq_some_iff.1 hi).1
      simpa using this
    subst hi0
    simp at hi
    subst hi
    have := hcell j x hj
    show w.cell? ((⟨g, 0, none⟩ : Addr).add (j * 1 + 0)) = some (encB x)
    rw [Addr.add_lit]
    simpa using this
def heldOf (m : LM) : PShelfPlays.S70 := ⟨m.name, m.ver, m.dat.length, m.used⟩
theorem held_C {w : World} {base : Nat} {v : Value} {ps : List LM} (h : OwnRow RL 70 4 w base v ps) : ∃ A c, v = .slice A ps.length c ∧ ps.length ≤ c ∧ YtancenklmfamnaaGreatW.PrintWords.Kd.C PShelfPlays.k70 w A (ps.map heldOf).length (ps.map heldOf) := by
  obtain ⟨A, c, hv, hc, h1, h2, h3⟩ := h.reads
  refine ⟨A, c, hv, hc, rfl, by simpa using h2, fun hn => ?_⟩
  obtain ⟨ad, hA, hc⟩ := h3 (by simpa using hn)
  refine ⟨ad, hA, fun j q hj => ?_⟩
  rw [List.getElem?_map] at hj
  obtain ⟨m, hm, rfl⟩ := Option.map_eq_some_iff.1 hj
  obtain ⟨cs, e1, e2, e3⟩ := hc j m hm
  exact ⟨cs, e1, by rw [show cs = cellsOf m from e2]; exact PShelfPlays.k70_mk w (heldOf m), e3⟩
theorem two_C {W : World} {g : Nat} {t : TypeId} {x y : PShelfPlays.S70} (h : W.heap[g]? = some (.cells #[.string x.f0, .int .i64 x.f1, .int .i64 x.f2, .int .i64 x.f3, .string y.f0, .int .i64 y.f1, .int .i64 y.f2, .int .i64 y.f3] t (0, 0))) :
    YtancenklmfamnaaGreatW.PrintWords.Kd.C PShelfPlays.k70 W (some ⟨g, 0, none⟩) 2 [x, y] := by
  refine ⟨rfl, by decide, fun _ => ⟨_, rfl, fun j q hj => ?_⟩⟩
  match j, hj with
  | 0, hj =>
    simp at hj
    subst hj
    refine ⟨_, rfl, PShelfPlays.k70_mk W x, fun i u hi => ?_⟩
    show W.cell? ((⟨g, 0, none⟩ : Addr).add (0 * 4 + i)) = some u
    rw [Addr.add_lit, Lib.cell_of_heap h]
    match i, hi with
    | 0, hi => simpa using hi
    | 1, hi => simpa using hi
    | 2, hi => simpa using hi
    | 3, hi => simpa using hi
    | i + 4, hi => simp at hi
  | 1, hj =>
    simp at hj
    subst hj
    refine ⟨_, rfl, PShelfPlays.k70_mk W y, fun i u hi => ?_⟩
    show W.cell? ((⟨g, 0, none⟩ : Addr).add (1 * 4 + i)) = some u
    rw [Addr.add_lit, Lib.cell_of_heap h]
    match i, hi with
    | 0, hi => simpa using hi
    | 1, hi => simpa using hi
    | 2, hi => simpa using hi
    | 3, hi => simpa using hi
    | i + 4, hi => simp at hi
  | j + 2, hj => simp at hj
theorem Eq_loop (l : List PShelfPlays.S70) (hl : l.length ≤ 1000000) : ∀ (d k i : Nat), l.length - i = d → i ≤ l.length → d < k → PShelfPlays.heddlelaw27_Eq.l0 k l l i = some true
  | 0, k, i, hd, hi, hk => by
    obtain ⟨k, rfl⟩ : ∃ m, k = m + 1 := ⟨k - 1, by omega⟩
    simp only [PShelfPlays.heddlelaw27_Eq.l0]
    rw [if_neg (by omega)]
  | d + 1, k, i, hd, hi, hk => by
    obtain ⟨k, rfl⟩ : ∃ m, k = m + 1 := ⟨k - 1, by omega⟩
    simp only [PShelfPlays.heddlelaw27_Eq.l0]
    rw [if_pos (by omega), if_pos (by omega), if_pos (by omega), if_neg (by simp)]
    have e : wrap64 ((i : Int) + 1) = ((i + 1 : Nat) : Int) := by unfold wrap64; omega
    rw [e]
    exact Eq_loop l hl d k (i + 1) (by omega) (by omega) (by omega)
theorem Eq_self (l : List PShelfPlays.S70) (hl : l.length ≤ 1000000) : PShelfPlays.heddlelaw27_Eq.f (l.length + 1) l l = some true := by
  unfold PShelfPlays.heddlelaw27_Eq.f
  rw [if_pos rfl]
  exact Eq_loop l hl l.length (l.length + 1) 0 (by omega) (by omega) (by omega)
def bA : ByteArray := ⟨#[97]⟩
def bB : ByteArray := ⟨#[98]⟩
theorem okA : Nm.nameOk bA = true := by decide +kernel
theorem okB : Nm.nameOk bB = true := by decide +kernel
theorem bA_ne : bA ≠ bB := by decide +kernel
theorem alloc_is (w : World) (o : Obj) : (w.alloc o).heap[w.heap.size]? = some o := World.alloc_heap_new w o
theorem below_alloc (w : World) (o : Obj) : Below w.heap.size w (w.alloc o) := (Below.refl _ w).alloc (Nat.le_refl _) o
set_option maxHeartbeats 4000000 in
set_option maxRecDepth 1000000 in
theorem begun_any (w : World) : Calls Tryz.prog 5 #[] w fun e w' => e = .returned (.bool true) ∧ Below w.heap.size w w' := by
  have kc := fun (w : World) (C : Array Value) (n c : Nat) => Lib.run_convert_bytes_const (P := Tryz.prog) w 25 5 C n c Tryz.underlying25 Tryz.underlying5
  go_enter Tryz.func5, Tryz.ntmps5
  go_wp2_with fail
  refine (new_yes 10 _ (by omega) (by omega)).mono ?_
  rintro e w1 ⟨p, mm, ml, rfl, hb1, hr1⟩
  have R1 := Lib.hid hr1
  have B1 := Lib.hid hb1
  clear hr1 hb1
  go_wp2_with fail
  refine (new_bad 0 _ (.inl (by omega))).mono ?_
  rintro e w1' ⟨rfl, rfl⟩
  go_wp2_with fail
  have hbl : ∀ o, Below w1'.heap.size w1' (w1'.alloc o) := below_alloc w1'
  -- Put a abcd
  refine (put_ver (R1.out.below (hbl _)) (by show (0 : Int) < _; omega) bA okA _ [97, 98, 99, 100] 1 rfl (by omega) (RdB.blk (dat := [97, 98, 99, 100]) (alloc_is w1' _) (by decide)) (by decide) (fun k hk => by cases hk; exact R1.out.fresh (Nat.le_refl _)) (noRoom_not (by show (0 : Nat) < _; omega) (by show ((4 : Nat) : Int) ≤ 10; omega) ⟨by show (0 : Int) + ((4 : Nat) : Int) ≤ 10; omega, by show (0 : Int) < 256; omega⟩)).mono ?_
  rintro e w2 ⟨rfl, L1, i1, m1, ld1, st1, hr2⟩
  have hm1 : L1.ms = [m1] := ld1.plain ⟨by show (0 : Int) + ((4 : Nat) : Int) ≤ 10; omega, by show (0 : Int) < 256; omega⟩
  have hb1 : L1.bytes = 4 := by rw [hr2.good.bytes, hm1]; simp [sizes, sz, ld1.dat_]
  have hc1 : L1.count = 1 := by rw [hr2.good.count, hm1]; rfl
  have hl1 : L1.last = [(bA, 1)] := ld1.last
  have hrm1 : L1.room = 10 := ld1.room
  have ht1 : L1.touch = 1 := ld1.touch
  have hlo1 : L1.lastOf bA = some 1 := by simp [Lay.lastOf, hl1]
  have Q1 := Lib.hid (And.intro hm1 (And.intro hb1 (And.intro hc1 (And.intro hl1 (And.intro hrm1 (And.intro ht1 hlo1))))))
  have B2 := Lib.hid (st1.base (R1.out.below (hbl _)) (B1.out.alloc B1.out.size _) (Nat.le_refl _) (Nat.le_refl _))
  have R2 := Lib.hid hr2
  have D1 := Lib.hid ld1
  clear hm1 hb1 hc1 hl1 hrm1 ht1 hlo1 ld1 st1 hr2 hbl R1 B1
  go_wp2_with fail
  -- Put a efgh
  have hbl : ∀ o, Below w2.heap.size w2 (w2.alloc o) := below_alloc w2
  obtain ⟨hm1, hb1, hc1, hl1, hrm1, ht1, hlo1⟩ := Q1.out
  refine (put_ver (R2.out.below (hbl _)) (by rw [ht1]; omega) bA okA _ [101, 102, 103, 104] 2 (by rw [hlo1]; rfl) (by omega) (RdB.blk (dat := [101, 102, 103, 104]) (alloc_is w2 _) (by decide)) (by decide) (fun k hk => by cases hk; exact R2.out.fresh (Nat.le_refl _)) (noRoom_not (by rw [hl1]; decide) (by rw [hrm1]; decide) ⟨by rw [hb1, hrm1]; decide, by rw [hc1]; decide⟩)).mono ?_
  rintro e w3 ⟨rfl, L2, i2, m2, ld2, st2, hr3⟩
  have hm2 : L2.ms = [m1, m2] := by rw [ld2.plain ⟨by rw [hb1, hrm1]; decide, by rw [hc1]; decide⟩, hm1]; rfl
  have hb2 : L2.bytes = 8 := by rw [hr3.good.bytes, hm2]; simp [sizes, sz, D1.out.dat_, ld2.dat_]
  have hc2 : L2.count = 2 := by rw [hr3.good.count, hm2]; rfl
  have hl2 : L2.last = [(bA, 2)] := by rw [ld2.last, hl1, hlo1]; decide +kernel
  have hrm2 : L2.room = 10 := by rw [ld2.room, hrm1]
  have ht2 : L2.touch = 2 := by rw [ld2.touch, ht1]; rfl
  have hv2 : L2.vers bA = [1, 2] := by simp [Lay.vers, hm2, D1.out.name, D1.out.ver_, ld2.name, ld2.ver_]
  have hf2 : (L2.find bA 0 true).1 = some m2 := by
    have hn : L2.nOf bA = 2 := by simp [Lay.nOf, hm2, D1.out.name, ld2.name]
    unfold Lay.find Lay.which
    rw [if_neg (by rw [hn]; decide), if_pos ⟨rfl, rfl⟩, hv2]
    have : L2.modOf bA (newestOf [1, 2]) = some m2 := by
      rw [show newestOf [1, 2] = 2 from by decide +kernel]
      simp [Lay.modOf, hm2, D1.out.name, D1.out.ver_, ld2.name, ld2.ver_]
    rw [this]
  have hne : m1.blk ≠ m2.blk := by
    have := hr3.is.blks
    rw [hm2] at this
    simpa using this
  have Q2 := Lib.hid (And.intro hm2 (And.intro hb2 (And.intro hc2 (And.intro hl2 (And.intro hrm2 (And.intro ht2 (And.intro hf2 hne)))))))
  have B3 := Lib.hid (st2.base (R2.out.below (hbl _)) (B2.out.alloc B2.out.size _) (Nat.le_refl _) (Nat.le_refl _))
  have R3 := Lib.hid hr3
  have D2 := Lib.hid ld2
  clear hm1 hb1 hc1 hl1 hrm1 ht1 hlo1 hm2 hb2 hc2 hl2 hrm2 ht2 hv2 hf2 hne ld2 st2 hr3 hbl R2 B2 Q1
  go_wp2_with fail
  -- Take a 0
  obtain ⟨hm2, hb2, hc2, hl2, hrm2, ht2, hf2, hne⟩ := Q2.out
  have tk := take_yes R3.out (by rw [ht2]; omega) bA (by decide +kernel) 0 (by decide +kernel) hf2 (by rw [D2.out.used]; omega)
  rw [D2.out.ver_, D2.out.dat_] at tk
  refine tk.mono ?_
  rintro e w4 ⟨v4, rfl, hrow4, hfo4, st3, hr4⟩
  have A4 := Lib.hid (show Apart w4 p (L2.took m2) v4 [101, 102, 103, 104] from ⟨RdB.of_row hrow4, fun k hk => ⟨fun ho => hfo4 k hk (.inl ho), by
    obtain ⟨_, cur, hc⟩ := row_ty hrow4 hk
    exact (Array.getElem?_eq_some_iff.1 hc).1⟩⟩)
  have hms3 : (L2.took m2).ms = [m1, { m2 with used := 1, touched := 3 }] := by
    simp [Lay.took, hm2, takeF, hne, ht2, D2.out.used]
  have hun3 : unusedL (L2.took m2) = [m1] := by
    unfold unusedL
    rw [hms3]
    have h1 : isUnused m1 = true := by simp [isUnused, D1.out.used]
    have h2 : isUnused { m2 with used := 1, touched := 3 } = false := by simp [isUnused]
    simp [List.filter_cons, h1, h2]
  have hpk3 : pickL (L2.took m2) ((6 : Nat) : Int) = some 1 := by
    unfold pickL
    rw [hun3]
    show vcount L2.room ((6 : Nat) : Int) L2.bytes L2.count ([m1].map sz) = some 1
    rw [hrm2, hb2, hc2]
    have : [m1].map sz = [4] := by simp [sz, D1.out.dat_]
    rw [this]
    decide +kernel
  have hlo3 : (L2.took m2).lastOf bB = none := by
    show (L2.last.find? _).map _ = none
    rw [hl2]
    decide +kernel
  have hnr3 : ¬ NoRoom (L2.took m2) bB 6 := by
    rintro (⟨_, h⟩ | h | h)
    · have : L2.last.length = 1 := by rw [hl2]; rfl
      have h' : 65536 ≤ L2.last.length := h
      omega
    · have h' : L2.room < ((6 : Nat) : Int) := h
      rw [hrm2] at h'
      omega
    · rw [hpk3] at h; cases h
  have Q3 := Lib.hid (And.intro hms3 (And.intro hun3 (And.intro hpk3 (And.intro hlo3 (And.intro hnr3 (And.intro hne (show (L2.took m2).touch = 3 by simp [Lay.took, ht2])))))))
  have B4 := Lib.hid (st3.base R3.out B3.out (Nat.le_refl _) (Nat.le_refl _))
  have R4 := Lib.hid hr4
  clear tk hrow4 hfo4 st3 hr4 hms3 hun3 hpk3 hlo3 hnr3 hm2 hb2 hc2 hl2 hrm2 ht2 hf2 hne R3 B3 Q2
  go_wp2_with fail
  -- Put b ijklmn
  obtain ⟨hms3, hun3, hpk3, hlo3, hnr3, hne, ht3⟩ := Q3.out
  have hbl : ∀ o, Below w4.heap.size w4 (w4.alloc o) := below_alloc w4
  refine (put_ver (R4.out.below (hbl _)) (by rw [ht3]; omega) bB okB _ [105, 106, 107, 108, 109, 110] 1 (by rw [hlo3]; rfl) (by omega) (RdB.blk (dat := [105, 106, 107, 108, 109, 110]) (alloc_is w4 _) (by decide)) (by decide) (fun k hk => by cases hk; exact R4.out.fresh (Nat.le_refl _)) hnr3).mono ?_
  rintro e w5 ⟨rfl, L4, i4, m3, ld4, st4, hr5⟩
  have hi4 : i4 = 1 := by
    have h1 := ld4.pick
    have h2 : pickL (L2.took m2) ((6 : Nat) : Int) = some i4 := h1
    rw [hpk3] at h2
    exact (Option.some.inj h2).symm
  have hms4 : L4.ms = [{ m2 with used := 1, touched := 3 }, m3] := by
    rw [ld4.ms, hi4, hun3]
    unfold keepL
    rw [hms3]
    have hne' : decide (m1.blk = m2.blk) = false := by simp [hne]
    simp [List.filter_cons, gone, hne]
  have hf4 : (L4.find bA 1 true) = (none, 270) := by
    have hn : L4.nOf bA = 1 := by simp [Lay.nOf, hms4, D2.out.name, ld4.name, List.filter_cons, bA_ne, Ne.symm bA_ne]
    unfold Lay.find Lay.which
    rw [if_neg (by rw [hn]; decide), if_neg (by simp)]
    have : L4.modOf bA 1 = none := by
      simp [Lay.modOf, hms4, D2.out.name, D2.out.ver_, ld4.name, ld4.ver_, Ne.symm bA_ne]
    rw [this]
  have A5 := Lib.hid ((A4.out.below (hbl _)).step st4)
  have Q4 := Lib.hid (And.intro hms4 (And.intro hf4 (show L4.touch = 4 by rw [ld4.touch, ht3]; rfl)))
  have B5 := Lib.hid (st4.base (R4.out.below (hbl _)) (B4.out.alloc B4.out.size _) (Nat.le_refl _) (Nat.le_refl _))
  have R5 := Lib.hid hr5
  have D4 := Lib.hid ld4
  clear hms3 hun3 hpk3 hlo3 hnr3 hne ht3 hms4 hf4 hi4 ld4 st4 hr5 hbl R4 B4 Q3 A4
  go_wp2_with fail
  -- Take a 1
  obtain ⟨hms4, hf4, ht4⟩ := Q4.out
  have tk := take_no R5.out (by rw [ht4]; omega) bA (by decide +kernel) 1 (by decide +kernel) (by rw [hf4])
  rw [hf4] at tk
  refine tk.mono ?_
  rintro e w6 ⟨rfl, st5, hr6⟩
  have A6 := Lib.hid (A5.out.step st5)
  have B6 := Lib.hid (st5.base R5.out B5.out (Nat.le_refl _) (Nat.le_refl _))
  have R6 := Lib.hid hr6
  obtain ⟨A7, c7, hv7, _, hC7⟩ := A6.out.rd.C (by decide)
  have hcv := YtancenklmfamnaaGreatW.PrintWords.Kd.C_string (P := Tryz.prog) (c := c7) Tryz.underlying25 Tryz.underlying5 Tryz.underlying9 hC7
  change (convert 25 9 (.slice A7 4 c7)).run Tryz.prog w6 = .ok (.string ⟨#[101, 102, 103, 104]⟩) w6 at hcv
  change v4 = .slice A7 4 c7 at hv7
  subst hv7
  clear tk st5 hr6 hms4 hf4 ht4 B5 R5 A5 hC7 A6
  go_wp2_with fail
  -- List
  refine (list_yes R6.out).mono ?_
  rintro e w7 ⟨v7, rfl, hrow7, st6, hr7⟩
  obtain ⟨hms4, hf4, ht4⟩ := Q4.out
  have hso : sortedN L4 = L4.ms := by
    unfold sortedN
    refine List.mergeSort_of_pairwise ?_
    rw [hms4]
    have hlt : ¬ ltN m3 { m2 with used := 1, touched := 3 } := by
      rintro (h | ⟨h, _⟩)
      · rw [D4.out.name] at h
        have h2 : ¬ bB.data.toList < bA.data.toList := by decide +kernel
        exact h2 (by rw [← show m2.name = bA from D2.out.name]; exact h)
      · rw [D4.out.name] at h
        exact bA_ne ((show m2.name = bA from D2.out.name).symm.trans h.symm)
    simp [hlt]
  obtain ⟨A8, c8, hv8, hc8, hC8⟩ := held_C hrow7
  rw [hso, hms4] at hv8 hc8 hC8
  have hh : [({ m2 with used := 1, touched := 3 } : LM), m3].map heldOf = [⟨bA, 2, 4, 1⟩, ⟨bB, 1, 6, 0⟩] := by
    simp [heldOf, D2.out.name, D2.out.ver_, D2.out.dat_, D4.out.name, D4.out.ver_, D4.out.dat_, D4.out.used]
  rw [hh] at hC8
  change v7 = .slice A8 2 c8 at hv8
  change 2 ≤ c8 at hc8
  subst hv8
  have HC8 := Lib.hid hC8
  have HLE := Lib.hid hc8
  have B7 := Lib.hid (st6.base R6.out B6.out (Nat.le_refl _) (Nat.le_refl _))
  clear hrow7 st6 hr7 hms4 hf4 ht4 hso hC8 hc8 hh B6 R6
  go_wp2_with fail
  have hbl : ∀ o, Below w7.heap.size w7 (w7.alloc o) := below_alloc w7
  refine (PShelfPlays.heddlelaw27_Eq.calls 3 A8 c8 [⟨bA, 2, 4, 1⟩, ⟨bB, 1, 6, 0⟩] (some ⟨w7.heap.size, 0, none⟩) 2 [⟨bA, 2, 4, 1⟩, ⟨bB, 1, 6, 0⟩] true _ (YtancenklmfamnaaGreatW.PrintWords.Kd.C_below HC8.out (hbl _)) HLE.out (two_C (x := ⟨bA, 2, 4, 1⟩) (y := ⟨bB, 1, 6, 0⟩) (alloc_is w7 _)) (by decide) (Eq_self _ (by decide))).mono ?_
  rintro e w8 ⟨rfl, ⟨⟨q, rfl⟩⟩⟩
  have B8 := Lib.hid (below_drewN (B7.out.alloc B7.out.size (.cells #[.string bA, .int .i64 2, .int .i64 4, .int .i64 1, .string bB, .int .i64 1, .int .i64 6, .int .i64 0] 70)) q)
  clear hbl
  go_wp2
  go_ret
  exact ⟨rfl, B8.out⟩
end Go.Proofs.YtancenklmfamnaaGreat.Sh
