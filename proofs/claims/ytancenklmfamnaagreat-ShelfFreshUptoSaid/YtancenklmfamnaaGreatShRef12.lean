/- The document's shelf: List. -/
import Derived.Test.YtancenklmfamnaaGreatShRef11
set_option linter.unusedVariables false
set_option linter.unusedSimpArgs false
namespace Go.Proofs.YtancenklmfamnaaGreat.Sh
open Go.RowKit Go.Maps Go.Sort Go.Shelf
open Go.Proofs Go.MuLone
open Go.Proofs.YtancenklmfamnaaGreatW.PrintWords (Reps OwnRow Kd ReadsRow)
open PShelfPlays (S70 S104 S115 k70 k104 k115)

/-- in List's loop -/
structure LsS (w wr : World) (L : Lay) (i : Nat) (Ao : Option Addr) (no co : Nat) (s : List LM) : Prop where
  below : Below w.heap.size w wr
  row : Kd.N k70 70 wr w.heap.size (fun k => w.heap.size ≤ k) (.slice Ao no co) (s.map h70)
  perm : s.Perm (L.ms.take i)
  srt : s.Pairwise ltN
theorem LsS.drewN {w wr : World} {L : Lay} {i : Nat} {Ao : Option Addr} {no co : Nat} {s : List LM} (h : LsS w wr L i Ao no co s) (q : Nat) : LsS w (wr.drewN q) L i Ao no co s := ⟨below_drewN h.below q, Kd.N_drewN h.row q, h.perm, h.srt⟩
/-- in the loop within -/
theorem less_iff : ∀ a b : List UInt8, Op.bytesLess a b = true ↔ a < b
  | [], [] => by simp [Op.bytesLess]
  | x :: a, [] => by simp [Op.bytesLess]
  | [], y :: b => by simp [Op.bytesLess]
  | x :: a, y :: b => by
    rw [List.cons_lt_cons_iff, ← less_iff a b]
    simp [Op.bytesLess]
structure LsQ (w wq : World) (s : List LM) (m : LM) (j : Nat) (A : Option Addr) (n c : Nat) (ys : List LM) : Prop where
  below : Below w.heap.size w wq
  row : Kd.N k70 70 wq w.heap.size (fun k => w.heap.size ≤ k) (.slice A n c) (ys.map h70)
  ins : InS s ys m j
abbrev putE (W : World) (g i : Nat) (x : LM) : World := (((W.setCell ⟨g, i * 4, none⟩ (.string x.name)).setCell ⟨g, i * 4 + 1, none⟩ (.int .i64 x.ver)).setCell ⟨g, i * 4 + 2, none⟩ (.int .i64 (x.dat.length : Int))).setCell ⟨g, i * 4 + 3, none⟩ (.int .i64 x.used)
theorem putE_same (W : World) (g i : Nat) (x : LM) : Same (fun k => k = g) W (putE W g i x) := (((set_same W g (i * 4) (.string x.name)).trans (set_same _ g (i * 4 + 1) (.int .i64 x.ver))).trans (set_same _ g (i * 4 + 2) (.int .i64 (x.dat.length : Int)))).trans (set_same _ g (i * 4 + 3) (.int .i64 x.used))
theorem LsQ.swap {w wq : World} {s ys : List LM} {m z : LM} {j p go n c : Nat} (h : LsQ w wq s m j (some ⟨go, 0, none⟩) n c ys) (hp : j = p + 1) (hz : s[p]? = some z) (hlt : ltN m z) (q : Nat) :
    LsQ w (putE (putE (wq.drewN q) go j z) go p m) s m p (some ⟨go, 0, none⟩) n c ((ys.set j z).set p m) := by
  subst hp
  have hgo := h.row.1 go rfl
  have hs : Same (fun k => k = go) (wq.drewN q) (putE (putE (wq.drewN q) go (p + 1) z) go p m) := (putE_same _ go (p + 1) z).trans (putE_same _ go p m)
  refine ⟨?_, ?_, h.ins.next hz hlt⟩
  · have hb := below_drewN h.below q
    exact ⟨hs.1.trans hb.os, hs.2.1.trans hb.tape, hs.2.2.1.trans hb.output, Nat.le_trans hb.size hs.2.2.2.1, fun k hk => (hs.2.2.2.2 k (Nat.lt_of_lt_of_le hk hb.size) (fun e => by omega)).trans (hb.block k hk)⟩
  · have h1 := row_put (Kd.N_drewN h.row q) h.ins.at_ z
    have h2 : (ys.set (p + 1) z)[p]? = some z := by
      rw [List.getElem?_set_ne (by omega)]
      exact h.ins.below.1.trans hz
    exact row_put h1 h2 m
theorem list_push {w wr : World} {A : Option Addr} {n c : Nat} {s : List LM} (hb : Below w.heap.size w wr) (row : Kd.N k70 70 wr w.heap.size (fun k => w.heap.size ≤ k) (.slice A n c) (s.map h70)) (hl : s.length ≤ 1000) (m : LM) (o : Obj) :
    ∃ A' n' c' W1, (Builtin.append_ #[40, 40] 40 #[.slice A n c, .slice (some ⟨wr.heap.size + 2, 0, none⟩) 1 1]).run Tryz.prog (((wr.alloc o).alloc (.cells (c70 m).toArray 70)).alloc (.cells (c70 m).toArray 70)) = .ok (.slice A' n' c') W1 ∧ n' = s.length + 1 ∧ Hid (LsQ w W1 s m s.length A' n' c' (s ++ [m])) := by
  have hb1 := below_alloc wr o
  have hb2 := below_alloc (wr.alloc o) (.cells (c70 m).toArray 70)
  have hb3 := below_alloc ((wr.alloc o).alloc (.cells (c70 m).toArray 70)) (.cells (c70 m).toArray 70)
  have hs := hb.size
  have hr := Kd.N_below (Kd.N_below (Kd.N_below row hb1) hb2) hb3
  obtain ⟨A', n', c', W1, r1, N1, hn, hg, hat⟩ := N_push_at k70 Tryz.underlying40 info70 rfl (by decide) (by decide) hr (PShelfPlays.k70_mkF _ (fun _ => False) (h70 m)) (fun k hk => hk.elim) (fun k hk => by simp at hk; omega) (by simp; omega) (by simp; omega) (alloc_is _ _) 40
  have hz : ((wr.alloc o).alloc (.cells (c70 m).toArray 70)).heap.size = wr.heap.size + 2 := by simp
  rw [hz] at r1
  rw [List.length_map] at hn
  refine ⟨A', n', c', W1, r1, hn, Lib.hid ⟨?_, by rw [List.map_append]; exact N1, InS.start s m⟩⟩
  have h4 : Below w.heap.size w (((wr.alloc o).alloc (.cells (c70 m).toArray 70)).alloc (.cells (c70 m).toArray 70)) := ((hb.trans (hb1.mono hs)).trans (hb2.mono (by simp; omega))).trans (hb3.mono (by simp; omega))
  exact h4.grown hg h4.size fun k hk => row.1 k hk
theorem perm_next {L : Lay} {s : List LM} {m : LM} {i : Nat} (hp : s.Perm (L.ms.take i)) (hm : L.ms[i]? = some m) : (m :: s).Perm (L.ms.take (i + 1)) := by
  rw [take_snoc' hm]
  exact (List.Perm.cons m hp).trans (List.perm_append_singleton m _).symm
theorem uniq_in {L : Lay} {s : List LM} {m : LM} {i : Nat} (hk : (L.ms.map fun m => (m.name, m.ver)).Nodup) (hp : s.Perm (L.ms.take i)) (hm : L.ms[i]? = some m) : ∀ y ∈ s, y.name = m.name → y.ver ≠ m.ver := fun y hy hn hv => by
  have h1 : y ∈ L.ms.take i := hp.mem_iff.1 hy
  have h2 : y = m := map_inj hk (List.mem_of_mem_take h1) (List.mem_of_getElem? hm) (by rw [hn, hv])
  subst h2
  obtain ⟨q, hq⟩ := List.mem_iff_getElem?.1 h1
  have hql := (List.getElem?_eq_some_iff.1 hq).1
  rw [List.length_take] at hql
  rw [List.getElem?_take_of_lt (by omega)] at hq
  have h3 := List.pairwise_iff_getElem.1 hk
  simp only [List.getElem_map, List.length_map] at h3
  exact h3 q i (List.getElem?_eq_some_iff.1 hq).1 (List.getElem?_eq_some_iff.1 hm).1 (by omega) (by rw [(List.getElem?_eq_some_iff.1 hq).2, (List.getElem?_eq_some_iff.1 hm).2])
def RListP (B g : Nat) (F : Nat → Prop) (L : Lay) (w : World) (e : Ending) (w' : World) : Prop := ∃ A n c, e = .returned (.slice A n c) ∧ Below w.heap.size w w' ∧ Kd.N k70 70 w' w.heap.size (fun k => w.heap.size ≤ k) (.slice A n c) ((sortedN L).map h70)
section
variable {B g : Nat} {w : World} {F : Nat → Prop} {L : Lay}
set_option maxHeartbeats 8000000 in
set_option maxRecDepth 1000000 in
theorem ref_list (h : RefL B w g F L) (r : LRest L) :
    Calls Tryz.prog 13 #[.pointer (some ⟨g, 0, none⟩)] w (RListP B g F L w) := by
  obtain ⟨A1, n1, c1, A2, n2, c2, t⟩ := h
  have hl1 : n1 = L.ms.length := by have := t.len1.1; simpa using this
  have hn1 : n1 ≤ 256 := by have := r.few; omega
  have T := Lib.hid t
  have R := Lib.hid r
  have HL1 := Lib.hid hl1
  obtain ⟨x0, x1, x2, x3, _⟩ := t.cells
  clear t r hl1
  go_enter Tryz.func13, Tryz.ntmps13
  go_wp2
  go_loopw [3, 4] (fun v3 v4 wr => ∃ (i : Nat) (Ao : Option Addr) (no co : Nat) (s : List LM), i ≤ n1 ∧ v3 = .slice Ao no co ∧ v4 = .int .i64 i ∧ Hid (LsS w wr L i Ao no co s)) (fun v3 v4 _ => n1 - (intOf v4).toNat)
  case atStart => exact ⟨0, none, 0, 0, [], Nat.zero_le _, rfl, rfl, Lib.hid ⟨Below.refl _ _, Kd.N_nil _ _ _ _ _, by simp, List.Pairwise.nil⟩⟩
  case round =>
    obtain ⟨i, Ao, no, co, s, hi, rfl, rfl, HM⟩ := hrel
    have T1 := T.out.below HM.out.below
    obtain ⟨_, y1, _, _, _⟩ := T1.cells
    by_cases hlt : i < n1
    · obtain ⟨m, hm⟩ : ∃ m, L.ms[i]? = some m := ⟨_, List.getElem?_eq_getElem (by have := HL1.out; omega)⟩
      have hx : (L.ms.map m104)[i]? = some (m104 m) := by rw [List.getElem?_map, hm]; rfl
      obtain ⟨_, gm, rfl, hDS, z0, z1, z3, z4, _, Ad, cd, z2, _, _⟩ := T1.mod hx
      have z0' : wr.cell? ⟨gm, i * 5, none⟩ = some (.string m.name) := z0
      have z1' : wr.cell? ⟨gm, i * 5 + 1, none⟩ = some (.int .i64 m.ver) := z1
      have z2' : wr.cell? ⟨gm, i * 5 + 2, none⟩ = some (.slice Ad m.dat.length cd) := z2
      have z3' : wr.cell? ⟨gm, i * 5 + 3, none⟩ = some (.int .i64 m.used) := z3
      have z4' : wr.cell? ⟨gm, i * 5 + 4, none⟩ = some (.int .i64 m.touched) := z4
      have HMX := Lib.hid hm
      clear z0 z1 z2 z3 z4 hx hDS T1 hm
      have hsl : s.length = i := by have h1 := HM.out.perm.length_eq; have := HL1.out; rw [List.length_take] at h1; omega
      obtain ⟨A', n', c', W1, r1, hn', HQ0⟩ := list_push HM.out.below HM.out.row (by omega) m (.cells #[.string m.name, .int .i64 m.ver, .slice Ad m.dat.length cd, .int .i64 m.used, .int .i64 m.touched] 104)
      have hj0 : IntKind.i64.wrap ((n' : Int) - 1) = (s.length : Int) := by
        have : ((n' : Int) - 1) = (s.length : Int) := by omega
        rw [this]
        exact Go.IntWalk.i64_in _ (by omega)
      have HSL := Lib.hid (And.intro hsl hn')
      clear hsl hn'
      go_wp2_with (at_builtin; refine wpList_append_run' rfl _ _ 40 rfl _ _ rfl rfl (.slice A' n' c') W1 r1 ?_)
      go_loopw [7] (fun v7 wq => ∃ (j : Nat) (ys : List LM), v7 = .int .i64 j ∧ Hid (LsQ w wq s m j A' n' c' ys)) (fun v7 _ => (intOf v7).toNat)
      case atStart => exact ⟨_, _, rfl, HQ0⟩
      case round =>
        obtain ⟨j, ys, rfl, HQ⟩ := hrel
        by_cases hj00 : j = 0
        · subst hj00
          have hfin : Hid (∀ q, LsS w (wr.drewN q) L (i + 1) A' n' c' ys) := Lib.hid (by
            intro q
            refine LsS.drewN ?_ q
            obtain ⟨h1, h2⟩ := HQ.out.ins.stop HM.out.srt (uniq_in R.out.keys HM.out.perm HMX.out) (.inl rfl)
            exact ⟨HQ.out.below, HQ.out.row, h2.trans (perm_next HM.out.perm HMX.out), h1⟩)
          go_wp2
          repeat (go_quiet (fail); try go_wp2)
          go_roundw
          case rel => exact ⟨i + 1, _, _, _, _, by omega, rfl, by go_num, Lib.hid (hfin.out _)⟩
          case measure => simp [intOf]; omega
        · obtain ⟨p, hp⟩ : ∃ p, j = p + 1 := ⟨j - 1, by omega⟩
          have hins : InS s ys m (p + 1) := hp ▸ HQ.out.ins
          obtain ⟨z, hz⟩ : ∃ z, s[p]? = some z := ⟨_, List.getElem?_eq_getElem hins.below.2⟩
          have ha := row_at HQ.out.row HQ.out.ins.at_
          have hb := row_at HQ.out.row (hins.below.1.trans hz)
          obtain ⟨go, rfl, hgo, hjn, hnl, a0, a1, a2, a3, af⟩ := ha
          obtain ⟨go', e1, _, hpn, hnl2, b0, b1, b2, b3, bf⟩ := hb
          obtain rfl : go = go' := by injection e1 with e1; injection e1
          have j0 : decide ((0 : Int) < (j : Int)) = true := decide_eq_true (by omega)
          have j0n : decide (0 < j) = true := decide_eq_true (by omega)
          have j0p : 0 < j := by omega
          have hne1 : ¬ p = j := by omega
          have hne2 : ¬ j = p := by omega
          have hne3 : ¬ p * 4 = j * 4 := by omega
          have hne4 : ¬ j * 4 = p * 4 := by omega
          have j1 : IntKind.i64.wrap ((j : Int) - 1) = (p : Int) := by
            have : ((j : Int) - 1) = (p : Int) := by omega
            rw [this]
            exact Go.IntWalk.i64_in _ (by have := HSL.out; have := hins.le; omega)
          have HI := Lib.hid (And.intro hins (And.intro hz hp))
          clear hins hz hp hnl hnl2 hj00
          have fa0 := af 0
          have fa1 := af 1
          have fa2 := af 2
          have fa3 := af 3
          have fb0 := bf 0
          have fb1 := bf 1
          have fb2 := bf 2
          have fb3 := bf 3
          rw [Nat.add_zero] at fa0 fb0
          clear af bf
          by_cases hlt1 : m.name.toList < z.name.toList
          · have s1 : Op.bytesLess m.name.toList z.name.toList = true := (less_iff _ _).2 hlt1
            have hsw := Lib.hid (fun q => HQ.out.swap HI.out.2.2 HI.out.2.1 (.inl (by simpa [ByteArray.toList_eq] using hlt1)) q)
            clear hlt1
            go_wp2
            go_quiet (fail)
            go_wp2
            go_region_law (fail)
            all_goals go_wp2
            all_goals go_roundw
            all_goals first | exact ⟨p, _, rfl, Lib.hid (hsw.out _)⟩ | (have hjp := HI.out.2.2; simp [intOf]; omega)
          · have s1 : Op.bytesLess m.name.toList z.name.toList = false := Bool.eq_false_iff.2 fun h => hlt1 ((less_iff _ _).1 h)
            by_cases heq : m.name = z.name
            · obtain ⟨s2, s3⟩ := str_yes heq
              by_cases hv : m.ver < z.ver
              · have s4 : decide (m.ver < z.ver) = true := decide_eq_true hv
                have hsw := Lib.hid (fun q => HQ.out.swap HI.out.2.2 HI.out.2.1 (.inr ⟨heq, hv⟩) q)
                clear hlt1 heq hv
                go_wp2
                go_quiet (fail)
                go_wp2
                go_region_law (fail)
                all_goals go_wp2
                all_goals go_roundw
                all_goals first | exact ⟨p, _, rfl, Lib.hid (hsw.out _)⟩ | (have hjp := HI.out.2.2; simp [intOf]; omega)
              · have s4 : decide (m.ver < z.ver) = false := decide_eq_false hv
                have HNL : Hid (¬ ltN m z) := Lib.hid (by
                  rintro (h | ⟨_, h⟩)
                  · exact hlt1 (by simpa [ByteArray.toList_eq] using h)
                  · exact hv h)
                clear hlt1 heq hv
                have hfin : Hid (∀ q, LsS w (wr.drewN q) L (i + 1) (some ⟨go, 0, none⟩) n' c' ys) := Lib.hid (by
                  intro q
                  refine LsS.drewN ?_ q
                  obtain ⟨h1, h2⟩ := HQ.out.ins.stop HM.out.srt (uniq_in R.out.keys HM.out.perm HMX.out) (.inr ⟨p, z, HI.out.2.2, HI.out.2.1, HNL.out⟩)
                  exact ⟨HQ.out.below, HQ.out.row, h2.trans (perm_next HM.out.perm HMX.out), h1⟩)
                go_wp2
                repeat (go_quiet (fail); try go_wp2)
                go_roundw
                case rel => exact ⟨i + 1, _, _, _, _, by omega, rfl, by go_num, Lib.hid (hfin.out _)⟩
                case measure => simp [intOf]; omega
            · obtain ⟨s2, s3⟩ := str_no heq
              have HNL : Hid (¬ ltN m z) := Lib.hid (by
                rintro (h | ⟨h, _⟩)
                · exact hlt1 (by simpa [ByteArray.toList_eq] using h)
                · exact heq h)
              clear hlt1 heq
              have hfin : Hid (∀ q, LsS w (wr.drewN q) L (i + 1) (some ⟨go, 0, none⟩) n' c' ys) := Lib.hid (by
                intro q
                refine LsS.drewN ?_ q
                obtain ⟨h1, h2⟩ := HQ.out.ins.stop HM.out.srt (uniq_in R.out.keys HM.out.perm HMX.out) (.inr ⟨p, z, HI.out.2.2, HI.out.2.1, HNL.out⟩)
                exact ⟨HQ.out.below, HQ.out.row, h2.trans (perm_next HM.out.perm HMX.out), h1⟩)
              go_wp2
              repeat (go_quiet (fail); try go_wp2)
              go_roundw
              case rel => exact ⟨i + 1, _, _, _, _, by omega, rfl, by go_num, Lib.hid (hfin.out _)⟩
              case measure => simp [intOf]; omega
    · obtain rfl : i = n1 := by omega
      have HR : Hid (RListP B g F L w (.returned (.slice Ao no co)) wr) := Lib.hid ⟨_, _, _, rfl, HM.out.below, by
        have h1 := HM.out.perm
        rw [List.take_of_length_le (by rw [HL1.out]; exact Nat.le_refl _)] at h1
        rw [← sorted_is R.out.keys h1 HM.out.srt]
        exact HM.out.row⟩
      go_wp2
      go_ret
      exact HR.out
end
end Go.Proofs.YtancenklmfamnaaGreat.Sh
