/- What told and what wanted answer are compared. wanted: the document's answer. opened: a shelf and the document's, or neither; eight seats. Eight seats in memory: what lies where, from call to call. ShelfPlays: a script that came in; what a round of the walk needs. -/
import Derived.Test.YtancenklmfamnaaGreatShRef12
import Derived.Test.YtancenklmfamnaaGreatShRef11
import Derived.Test.YtancenklmfamnaaGreatShRef7
import Derived.Test.YtancenklmfamnaaGreatShToldW
set_option linter.unusedVariables false
set_option linter.unusedSimpArgs false
namespace Go.Proofs.YtancenklmfamnaaGreat.Sh
open Go.RowKit Go.Maps Go.Sort Go.Shelf
open Go.Proofs Go.MuLone
open Go.Proofs.YtancenklmfamnaaGreatW.PrintWords (Reps OwnRow Kd ReadsRow)
open PShelfPlays (S70 S104 S115 k70 k104 k115)

theorem LRest.of {B p : Nat} {w : World} {L : Lay} (h : Rest B w p L) : LRest L := ⟨h.good, h.is.blks, h.is.keys, h.is.few, h.is.lastNames⟩
theorem bytes_C {w : World} {A : Option Addr} {n c : Nat} {dat : List Int} (h : RdA w (.slice A n c) dat) (hl : dat.length ≤ 9223372036854775807) : n = dat.length ∧ n ≤ c ∧ (Kd.int .u8).C w A dat.length dat := by
  rcases h with ⟨e, rfl⟩ | ⟨ad, cap, e, hc, hcell⟩
  · injection e with e1 e2 e3
    subst e1; subst e2; subst e3
    exact ⟨rfl, Nat.le_refl _, Kd.C_nil _ _⟩
  · injection e with e1 e2 e3
    subst e1; subst e2; subst e3
    refine ⟨rfl, hc, rfl, hl, fun _ => ⟨ad, rfl, fun j x hj => ⟨[encB x], rfl, rfl, fun i u hu => ?_⟩⟩⟩
    have hi0 : i = 0 := by
      have := (List.getElem?_eq_some_iff.1 hu).1
      simpa using this
    subst hi0
    simp at hu
    subst hu
    have := hcell j x hj
    show w.cell? (ad.add (j * 1 + 0)) = some (encB x)
    simpa using this
/-- bytes at a place, and a list of what is held -/
def BytesAt (w : World) (A : Option Addr) (n c : Nat) (dat : List Int) : Prop := n = dat.length ∧ n ≤ c ∧ (Kd.int .u8).C w A dat.length dat
def HeldAt (w : World) (A : Option Addr) (n c : Nat) (tls : List LM) : Prop := n = tls.length ∧ n ≤ c ∧ Kd.C k70 w A (tls.map h70).length (tls.map h70)
theorem BytesAt.below {w w' : World} {A : Option Addr} {n c : Nat} {dat : List Int} (h : BytesAt w A n c dat) (hb : Below w.heap.size w w') : BytesAt w' A n c dat := ⟨h.1, h.2.1, Kd.C_below h.2.2 hb⟩
theorem HeldAt.below {w w' : World} {A : Option Addr} {n c : Nat} {tls : List LM} (h : HeldAt w A n c tls) (hb : Below w.heap.size w w') : HeldAt w' A n c tls := ⟨h.1, h.2.1, Kd.C_below h.2.2 hb⟩
theorem HeldAt.own {w : World} {base : Nat} {A : Option Addr} {n c : Nat} {tls : List LM} (h : OwnRow RL 70 4 w base (.slice A n c) tls) : HeldAt w A n c tls := by
  obtain ⟨A8, c8, hv8, hc8, hC8⟩ := held_C h
  injection hv8 with e1 e2 e3
  subst e1; subst e2; subst e3
  exact ⟨rfl, hc8, hC8⟩
theorem HeldAt.row {w : World} {base : Nat} {ok : Nat → Prop} {A : Option Addr} {n c : Nat} {tls : List LM} (h : Kd.N k70 70 w base ok (.slice A n c) (tls.map h70)) : HeldAt w A n c tls := by
  obtain ⟨h1, h2, h3⟩ := Kd.N_reads' h
  exact ⟨by simpa using h1, h2, h3⟩
theorem Same_loop (l : List Int) (hl : l.length ≤ 2000000000000) : ∀ (d k i : Nat), l.length - i = d → i ≤ l.length → d < k → PShelfPlays.heddlelaw27_Same.l0 k l l i = some true
  | 0, k, i, hd, hi, hk => by
    obtain ⟨k, rfl⟩ : ∃ m, k = m + 1 := ⟨k - 1, by omega⟩
    simp only [PShelfPlays.heddlelaw27_Same.l0]
    rw [if_neg (by omega)]
  | d + 1, k, i, hd, hi, hk => by
    obtain ⟨k, rfl⟩ : ∃ m, k = m + 1 := ⟨k - 1, by omega⟩
    simp only [PShelfPlays.heddlelaw27_Same.l0]
    rw [if_pos (by omega), if_pos (by omega), if_pos (by omega), if_pos trivial]
    have e : wrap64 ((i : Int) + 1) = ((i + 1 : Nat) : Int) := by unfold wrap64; omega
    rw [e]
    exact Same_loop l hl d k (i + 1) (by omega) (by omega) (by omega)
section
variable {w : World} {A1 A2 B1 B2 : Option Addr} {a1 c1 a2 c2 b1 d1 b2 d2 : Nat} {dat : List Int} {tls : List LM}
theorem Eq_c (hm : tls.length ≤ 1000) (h1 : HeldAt w B1 b1 d1 tls) (h2 : HeldAt w B2 b2 d2 tls) : Calls Tryz.prog 11 #[.slice B1 b1 d1, .slice B2 b2 d2] w fun e w' => e = .returned (.bool true) ∧ Below w.heap.size w w' := by
  obtain ⟨rfl, x2, x3⟩ := h1
  obtain ⟨rfl, y2, y3⟩ := h2
  have hl : (tls.map h70).length = tls.length := List.length_map ..
  have := PShelfPlays.heddlelaw27_Eq.calls ((tls.map h70).length + 1) B1 d1 (tls.map h70) B2 d2 (tls.map h70) true w x3 (by omega) y3 (by omega) (Eq_self _ (by omega))
  rw [hl] at this
  refine this.mono ?_
  rintro e w8 ⟨rfl, ⟨⟨a, rfl⟩⟩⟩
  exact ⟨rfl, below_drewN (Below.refl _ _) a⟩
theorem eq_c (v er : Int) (hl : dat.length ≤ 2000000000000) (hm : tls.length ≤ 1000) (h1 : BytesAt w A1 a1 c1 dat) (h2 : HeldAt w B1 b1 d1 tls) (h3 : BytesAt w A2 a2 c2 dat) (h4 : HeldAt w B2 b2 d2 tls) :
    Calls Tryz.prog 9 #[.agg #[.slice A1 a1 c1, .int .i64 v, .slice B1 b1 d1, .int .i64 er], .agg #[.slice A2 a2 c2, .int .i64 v, .slice B2 b2 d2, .int .i64 er]] w fun e w' => e = .returned (.bool true) ∧ Below w.heap.size w w' := by
  obtain ⟨rfl, x2, x3⟩ := h1
  obtain ⟨rfl, y2, y3⟩ := h2
  obtain ⟨rfl, z2, z3⟩ := h3
  obtain ⟨rfl, u2, u3⟩ := h4
  have hl7 : (tls.map h70).length = tls.length := List.length_map ..
  have hS : PShelfPlays.heddlelaw27_Same.f (dat.length + tls.length + 1) dat dat = some true := by
    unfold PShelfPlays.heddlelaw27_Same.f
    rw [if_pos rfl]
    exact Same_loop dat hl dat.length _ 0 (by omega) (by omega) (by omega)
  have hE : PShelfPlays.heddlelaw27_Eq.f (dat.length + tls.length + 1) (tls.map h70) (tls.map h70) = some true := by
    unfold PShelfPlays.heddlelaw27_Eq.f
    rw [if_pos rfl]
    exact Eq_loop _ (by omega) (tls.map h70).length _ 0 (by omega) (by omega) (by omega)
  have := PShelfPlays.heddlelaw27_eq.calls (dat.length + tls.length + 1) A1 c1 dat v B1 d1 (tls.map h70) er A2 c2 dat v B2 d2 (tls.map h70) er true w x3 x2 y3 (by omega) z3 z2 u3 (by omega) (by
    unfold PShelfPlays.heddlelaw27_eq.f
    rw [hS, hE]
    simp)
  rw [hl7] at this
  exact this
end
end Go.Proofs.YtancenklmfamnaaGreat.Sh
namespace Go.Proofs.YtancenklmfamnaaGreat.Sh
open Go.RowKit Go.Maps Go.Sort Go.Shelf
open Go.Proofs Go.MuLone
open Go.Proofs.YtancenklmfamnaaGreatW.PrintWords (Reps OwnRow Kd ReadsRow)
open PShelfPlays (S70 S104 S115 k70 k104 k115)

theorem results_cell1 {fn : Func} {p : Tmp} {ty : TypeId} (h : fn.results = #[.cell p ty]) (tmps : Array Value) (P : Program) (w : World) :
    (results fn tmps).run P w = ((asAddr (tmps.getD p undef)).run P w).andThen fun a w₁ => (loadVar ty a).run P w₁ := by
  simp only [results, h]
  simp [Sem.run_bind, Result.andThen]
theorem RdA.fresh {w w1 : World} {S : Nat → Prop} {A : Option Addr} {n c : Nat} {dat : List Int} (h : RdA w (.slice A n c) dat) (hs : Same S w w1) (hb : ∀ k, A.map (·.block) = some k → ¬ S k) : RdA w1 (.slice A n c) dat :=
  h.far hs fun k hk _ => hb k (by rw [block_map] at hk; exact hk)
section
variable {B g : Nat} {w : World} {F : Nat → Prop} {L : Lay}
def RTakeR (B g : Nat) (F : Nat → Prop) (L : Lay) (nm : ByteArray) (v : Int) (w : World) (e : Ending) (w' : World) : Prop :=
  ∃ A n c, e = .returned (.tuple #[.slice A n c, .int .i64 (((L.take nm v).2.1.map (·.ver)).getD 0), .int .i64 (L.take nm v).2.2]) ∧ RdA w' (.slice A n c) (((L.take nm v).2.1.map (·.dat)).getD []) ∧
      (∀ k, A.map (·.block) = some k → w.heap.size ≤ k) ∧ RefTo B g F w w' (L.take nm v).1
theorem ref_take_R (h : RefL B w g F L) (r : LRest L) (htc : L.touch < 4611686018427387904) (nm : ByteArray) (v : Int) :
    Calls Tryz.prog 30 #[.pointer (some ⟨g, 0, none⟩), .string nm, .int .i64 v] w (RTakeR B g F L nm v w) := by
  refine (ref_take h r htc nm v).mono fun e w' hP => ?_
  unfold RTakeP at hP
  unfold RTakeR
  cases hf : (L.find nm v true).1 with
  | none =>
    have ht : L.take nm v = (L, none, (L.find nm v true).2) := by unfold Lay.take; rw [hf]
    rw [ht] at hP ⊢
    obtain ⟨st, hl, he⟩ := hP
    exact ⟨none, 0, 0, he, .inl ⟨rfl, rfl⟩, (fun k hk => by cases hk), F, st, hl⟩
  | some m =>
    by_cases hu : m.used = 2147483647
    · have ht : L.take nm v = (L, none, 4) := by unfold Lay.take; rw [hf]; simp only; rw [if_pos hu]
      rw [ht] at hP ⊢
      obtain ⟨st, hl, he⟩ := hP
      exact ⟨none, 0, 0, he, .inl ⟨rfl, rfl⟩, (fun k hk => by cases hk), F, st, hl⟩
    · have ht : L.take nm v = (L.took m, some m, 0) := by
        unfold Lay.take
        rw [hf]
        simp only [Lay.took]
        rw [if_neg hu, takeF_eq]
      rw [ht] at hP ⊢
      obtain ⟨st, hl, v', he, hr⟩ := hP
      obtain ⟨A, c, rfl⟩ := (RdB.of_row hr).len
      refine ⟨A, _, c, he, (RdB.of_row hr).toA, fun k hk => ?_, F, st, hl⟩
      obtain ⟨h1, cur, hc⟩ := row_ty hr (k := k) (by rw [block_map]; exact hk)
      exact h1
theorem RefTo.put {w3 w5 wc : World} {S : Nat → Prop} (h : RefTo B g F w3 w5 L) (hF : ∀ k, F k → k < w.heap.size) (hb : Below w.heap.size w w3) (hs : Same S w5 wc) (hS : ∀ k, S k → w.heap.size ≤ k ∧ k < w3.heap.size) : RefTo B g F w wc L := by
  obtain ⟨F', ⟨s, f⟩, r⟩ := h
  have s1 : Same F w w5 := (Same.below hb).trans s
  refine ⟨F', ⟨⟨hs.1.trans s1.1, hs.2.1.trans s1.2.1, hs.2.2.1.trans s1.2.2.1, Nat.le_trans s1.2.2.2.1 hs.2.2.2.1, fun k hk hn => ?_⟩, fun k hk => ?_⟩, r.off hs fun k hk e => ?_⟩
  · rw [hs.2.2.2.2 k (Nat.lt_of_lt_of_le hk s1.2.2.2.1) fun e => by have := (hS k e).1; omega]
    exact s1.2.2.2.2 k hk hn
  · rcases f k hk with h1 | h1
    · exact .inl h1
    · exact .inr (Nat.le_trans hb.size h1)
  · have h2 := hS k e
    rcases f k hk with h1 | h1
    · have := hF k h1
      omega
    · omega
/-- in the midst of wanted -/
structure WM (B g : Nat) (F : Nat → Prop) (L' : Lay) (w3 w5 wc : World) (k9 : Nat) (Ab : Option Addr) (nb cb : Nat) (tdat : List Int) (tv : Int) (Al : Option Addr) (nl cl : Nat) (tls : List LM) (te : Int) : Prop where
  ref : RefTo B g F w3 w5 L'
  rd : RdA w5 (.slice Ab nb cb) tdat
  rdo : ∀ k, Ab.map (·.block) = some k → w3.heap.size ≤ k
  ls : Kd.N k70 70 w5 w3.heap.size (fun k => w3.heap.size ≤ k) (.slice Al nl cl) (tls.map h70)
  same : Same (fun k => k = k9) w5 wc
  b9 : wc.heap[k9]? = some (.cells (tdC (.slice Ab nb cb) tv (.slice Al nl cl) te) 43 (0, 0))
theorem at_far {a b : World} {k : Nat} {o : Obj} (h : RefTo B g F a b L) (hk : a.heap[k]? = some o) (hF : ¬ F k) : b.heap[k]? = some o := by
  obtain ⟨F', ⟨s, _⟩, _⟩ := h
  exact s.at hk hF
def WantP (B g : Nat) (F : Nat → Prop) (L' : Lay) (tdat : List Int) (tv : Int) (tls : List LM) (te : Int) (w : World) (e : Ending) (w' : World) : Prop :=
  ∃ Ab nb cb Al nl cl, e = .returned (.agg #[.slice Ab nb cb, .int .i64 tv, .slice Al nl cl, .int .i64 te]) ∧ RefTo B g F w w' L' ∧ BytesAt w' Ab nb cb tdat ∧ HeldAt w' Al nl cl tls ∧ RdA w' (.slice Ab nb cb) tdat ∧ (∀ k, Ab.map (·.block) = some k → w.heap.size ≤ k) ∧ Kd.N k70 70 w' w.heap.size (fun k => w.heap.size ≤ k) (.slice Al nl cl) (tls.map h70)
set_option maxHeartbeats 8000000 in
set_option maxRecDepth 1000000 in
theorem want_c (h : RefL B w g F L) (r : LRest L) (htc : L.touch < 4611686018427387904) (kind which : Int) (nm : ByteArray) (hnm : nm.size ≤ 140737488351232) (ver : Int) (Ab : Option Addr) (n cb : Nat) (dat : List Int) (hdn : dat.length = n)
    (hrow : RdA w (.slice Ab n cb) dat) (hn : dat.length ≤ 140737488351232) (hbo : ∀ k, Ab.map (·.block) = some k → dat ≠ [] → ¬ F k) (L' : Lay) (tdat : List Int) (tv : Int) (tls : List LM) (te : Int) (hT : ToldR kind nm ver dat L L' tdat tv tls te) (hdl : tdat.length ≤ 2000000000000) :
    Calls Tryz.prog 10 #[.pointer (some ⟨g, 0, none⟩), .agg (opC kind which nm ver (.slice Ab n cb))] w (WantP B g F L' tdat tv tls te w) := by
  have hb3 : Below w.heap.size w (((w.alloc (.cells (opC kind which nm ver (.slice Ab n cb)) 39)).alloc (.cells (tdC (.slice none 0 0) 0 (.slice none 0 0) 0) 43)).alloc (.cells (tdC (.slice none 0 0) 0 (.slice none 0 0) 0) 43)) := (((Below.refl _ w).alloc (Nat.le_refl _) _).alloc (by simp) _).alloc (by simp; omega) _
  have hF : ∀ k, F k → k < w.heap.size := fun k hk => (RefIs.foot h k hk).2
  have h3 := RefIs.below h hb3
  have hrow3 := hrow.far (S := fun _ => False) (Same.below hb3) fun _ _ _ h => h
  generalize hw3 : ((w.alloc (.cells (opC kind which nm ver (.slice Ab n cb)) 39)).alloc (.cells (tdC (.slice none 0 0) 0 (.slice none 0 0) 0) 43)).alloc (.cells (tdC (.slice none 0 0) 0 (.slice none 0 0) 0) 43) = w3 at hb3 h3 hrow3
  have hz3 : w3.heap.size = w.heap.size + 3 := by rw [← hw3]; simp
  have o3 : w3.heap[w.heap.size]? = some (.cells (opC kind which nm ver (.slice Ab n cb)) 39 (0, 0)) := by
    rw [← hw3, Below.heap_alloc _ _ _ (by simp; omega), Below.heap_alloc _ _ _ (by simp)]
    exact alloc_is w _
  have r3 : w3.heap[w.heap.size + 1]? = some (.cells (tdC (.slice none 0 0) 0 (.slice none 0 0) 0) 43 (0, 0)) := by
    rw [← hw3, Below.heap_alloc _ _ _ (by simp)]
    have := alloc_is (w.alloc (.cells (opC kind which nm ver (.slice Ab n cb)) 39)) (.cells (tdC (.slice none 0 0) 0 (.slice none 0 0) 0) 43)
    simpa using this
  have t3 : w3.heap[w.heap.size + 1 + 1]? = some (.cells (tdC (.slice none 0 0) 0 (.slice none 0 0) 0) 43 (0, 0)) := by
    rw [← hw3]
    have := alloc_is ((w.alloc (.cells (opC kind which nm ver (.slice Ab n cb)) 39)).alloc (.cells (tdC (.slice none 0 0) 0 (.slice none 0 0) 0) 43)) (.cells (tdC (.slice none 0 0) 0 (.slice none 0 0) 0) 43)
    simpa using this
  have H3 := Lib.hid (And.intro hb3 (And.intro h3 (And.intro hrow3 (And.intro hz3 (And.intro hF (And.intro o3 (And.intro r3 t3)))))))
  have HT := Lib.hid hT
  have R := Lib.hid r
  have HBO := Lib.hid hbo
  have nF : ∀ k, w.heap.size ≤ k → ¬ F k := fun k hk e => by have := hF k e; omega
  have NF := Lib.hid nF
  have o0 : w3.cell? ⟨w.heap.size, 0, none⟩ = some (.int .i64 kind) := by rw [Lib.cell_of_heap o3]; rfl
  have o2 : w3.cell? ⟨w.heap.size, 2, none⟩ = some (.string nm) := by rw [Lib.cell_of_heap o3]; rfl
  have o4 : w3.cell? ⟨w.heap.size, 3, none⟩ = some (.int .i64 ver) := by rw [Lib.cell_of_heap o3]; rfl
  have o5 : w3.cell? ⟨w.heap.size, 4, none⟩ = some (.slice Ab n cb) := by rw [Lib.cell_of_heap o3]; rfl
  clear h hrow hbo hT hb3 h3 hrow3 hF o3 r3 t3 nF r
  go_enter Tryz.func10, Tryz.ntmps10
  go_upto_region 2 with (fail)
  go_upto_block 0 with (fail)
  go_cut [] from 8 to 70 (fun wc => ∃ Ab1 nb1 cb1 Al nl cl w5, Hid (WM B g F L' w3 w5 wc (w.heap.size + 1 + 1) Ab1 nb1 cb1 tdat tv Al nl cl tls te))
  case first =>
    have nF9 : ¬ F (w.heap.size + 1 + 1) := NF.out _ (by omega)
    have hEQ : ToldR kind nm ver dat L L' tdat tv tls te := HT.out
    have same9' : ∀ (W : World) (i : Nat) (v : Value), Same (fun x => x = w.heap.size + 1 + 1) W (W.setCell ⟨w.heap.size + 1 + 1, i, none⟩ v) := fun W i v => Same.set _ _ _ rfl
    have N0 : ∀ W : World, Kd.N k70 70 W w3.heap.size (fun k => w3.heap.size ≤ k) (.slice none 0 0) (([] : List LM).map h70) := fun W => Kd.N_nil _ _ _ _ _
    have S9 := Lib.hid (And.intro nF9 (And.intro same9' N0))
    have t9 := fun (W : World) (hr : RefTo B g F w3 W L') => at_far hr H3.out.2.2.2.2.2.2.2 nF9
    have T9 := Lib.hid t9
    clear nF9 same9' N0 t9
    by_cases k1 : kind = 1
    · as_aux_lemma => -- k1
        subst k1
        unfold ToldR at hEQ
        rw [if_pos rfl] at hEQ
        obtain ⟨rfl, rfl, hP⟩ := hEQ
        have HC := Lib.hid (ref_putc H3.out.2.1 R.out htc nm (by omega) Ab n cb dat hdn H3.out.2.2.1 HBO.out)
        have HP := Lib.hid hP
        clear hP
        go_wp2_with fail
        refine HC.out.mono ?_
        rintro e w5 ⟨v, err, rfl, hE⟩
        obtain ⟨rfl, rfl, hto⟩ := hE L' tv te HP.out
        have t5 := T9.out w5 hto
        have c1 : w5.cell? ⟨w.heap.size + 1 + 1, 1, none⟩ = some (.int .i64 0) := by rw [Lib.cell_of_heap t5]; rfl
        have c3 : w5.cell? ⟨w.heap.size + 1 + 1, 3, none⟩ = some (.int .i64 0) := by rw [Lib.cell_of_heap t5]; rfl
        have f1 : w5.frozen? ⟨w.heap.size + 1 + 1, 1, none⟩ = false := Lib.frozen_of_heap t5 _
        have f3 : w5.frozen? ⟨w.heap.size + 1 + 1, 3, none⟩ = false := Lib.frozen_of_heap t5 _
        have H5 := Lib.hid (And.intro hto t5)
        clear hto t5 hE HC
        go_wp2
        go_meet
        case rel =>
          refine ⟨none, 0, 0, none, 0, 0, w5, Lib.hid ⟨H5.out.1, .inl ⟨rfl, rfl⟩, (fun k hk => by cases hk), S9.out.2.2 _, (S9.out.2.1 _ _ _).trans (S9.out.2.1 _ _ _), ?_⟩⟩
          exact YtancenklmfamnaaGreatW.PrintWords.blk_set (YtancenklmfamnaaGreatW.PrintWords.blk_set H5.out.2 1 (.int .i64 tv)) 3 (.int .i64 te)
    · by_cases k2 : kind = 2
      · as_aux_lemma => -- k2
          subst k2
          unfold ToldR at hEQ
          rw [if_neg k1, if_pos rfl] at hEQ
          obtain ⟨rfl, rfl, rfl, hP⟩ := hEQ
          have HC := Lib.hid (ref_layc H3.out.2.1 R.out htc nm (by omega) ver Ab n cb dat hdn H3.out.2.2.1 HBO.out)
          have HP := Lib.hid hP
          clear hP
          go_wp2_with fail
          refine HC.out.mono ?_
          rintro e w5 ⟨err, rfl, hE⟩
          obtain ⟨rfl, hto⟩ := hE L' te HP.out
          have t5 := T9.out w5 hto
          have c3 : w5.cell? ⟨w.heap.size + 1 + 1, 3, none⟩ = some (.int .i64 0) := by rw [Lib.cell_of_heap t5]; rfl
          have f3 : w5.frozen? ⟨w.heap.size + 1 + 1, 3, none⟩ = false := Lib.frozen_of_heap t5 _
          have H5 := Lib.hid (And.intro hto t5)
          clear hto t5 hE HC
          go_wp2
          go_meet
          case rel =>
            refine ⟨none, 0, 0, none, 0, 0, w5, Lib.hid ⟨H5.out.1, .inl ⟨rfl, rfl⟩, (fun k hk => by cases hk), S9.out.2.2 _, S9.out.2.1 _ _ _, ?_⟩⟩
            exact YtancenklmfamnaaGreatW.PrintWords.blk_set H5.out.2 3 (.int .i64 te)
      · by_cases k3 : kind = 3
        · as_aux_lemma => -- k3
            subst k3
            unfold ToldR at hEQ
            rw [if_neg k1, if_neg k2, if_pos rfl] at hEQ
            obtain ⟨rfl, rfl, rfl, rfl, rfl⟩ := hEQ
            have HC := Lib.hid (ref_take_R H3.out.2.1 R.out htc nm ver)
            go_wp2_with fail
            refine HC.out.mono ?_
            rintro e w5 ⟨A5, n5, c5, rfl, hrd5, hro5, hto⟩
            have t5 := T9.out w5 hto
            have c0 : w5.cell? ⟨w.heap.size + 1 + 1, 0, none⟩ = some (.slice none 0 0) := by rw [Lib.cell_of_heap t5]; rfl
            have c1 : w5.cell? ⟨w.heap.size + 1 + 1, 1, none⟩ = some (.int .i64 0) := by rw [Lib.cell_of_heap t5]; rfl
            have c3 : w5.cell? ⟨w.heap.size + 1 + 1, 3, none⟩ = some (.int .i64 0) := by rw [Lib.cell_of_heap t5]; rfl
            have f0 : w5.frozen? ⟨w.heap.size + 1 + 1, 0, none⟩ = false := Lib.frozen_of_heap t5 _
            have f1 : w5.frozen? ⟨w.heap.size + 1 + 1, 1, none⟩ = false := Lib.frozen_of_heap t5 _
            have f3 : w5.frozen? ⟨w.heap.size + 1 + 1, 3, none⟩ = false := Lib.frozen_of_heap t5 _
            have H5 := Lib.hid (And.intro hto (And.intro t5 (And.intro hrd5 hro5)))
            clear hto t5 hrd5 hro5 HC
            go_wp2
            go_meet
            case rel =>
              refine ⟨A5, n5, c5, none, 0, 0, w5, Lib.hid ⟨H5.out.1, H5.out.2.2.1, H5.out.2.2.2, S9.out.2.2 _, ((S9.out.2.1 _ _ _).trans (S9.out.2.1 _ _ _)).trans (S9.out.2.1 _ _ _), ?_⟩⟩
              exact YtancenklmfamnaaGreatW.PrintWords.blk_set (YtancenklmfamnaaGreatW.PrintWords.blk_set (YtancenklmfamnaaGreatW.PrintWords.blk_set H5.out.2.1 0 (.slice A5 n5 c5)) 1 (.int .i64 _)) 3 (.int .i64 _)
        · by_cases k4 : kind = 4
          · as_aux_lemma => -- k4
              subst k4
              unfold ToldR at hEQ
              rw [if_neg k1, if_neg k2, if_neg k3, if_pos rfl] at hEQ
              obtain ⟨rfl, rfl, rfl, rfl, rfl⟩ := hEQ
              have HC := Lib.hid (ref_give H3.out.2.1 R.out nm ver)
              go_wp2_with fail
              refine HC.out.mono ?_
              rintro e w5 ⟨rfl, hto⟩
              have t5 := T9.out w5 hto
              have c3 : w5.cell? ⟨w.heap.size + 1 + 1, 3, none⟩ = some (.int .i64 0) := by rw [Lib.cell_of_heap t5]; rfl
              have f3 : w5.frozen? ⟨w.heap.size + 1 + 1, 3, none⟩ = false := Lib.frozen_of_heap t5 _
              have H5 := Lib.hid (And.intro hto t5)
              clear hto t5 HC
              go_wp2
              go_meet
              case rel =>
                refine ⟨none, 0, 0, none, 0, 0, w5, Lib.hid ⟨H5.out.1, .inl ⟨rfl, rfl⟩, (fun k hk => by cases hk), S9.out.2.2 _, S9.out.2.1 _ _ _, ?_⟩⟩
                exact YtancenklmfamnaaGreatW.PrintWords.blk_set H5.out.2 3 (.int .i64 _)
          · by_cases k5 : kind = 5
            · as_aux_lemma => -- k5
                subst k5
                unfold ToldR at hEQ
                rw [if_neg k1, if_neg k2, if_neg k3, if_neg k4, if_pos rfl] at hEQ
                obtain ⟨rfl, rfl, rfl, rfl, rfl⟩ := hEQ
                have HC := Lib.hid (ref_drop H3.out.2.1 R.out nm ver)
                go_wp2_with fail
                refine HC.out.mono ?_
                rintro e w5 ⟨rfl, hto⟩
                have t5 := T9.out w5 hto
                have c3 : w5.cell? ⟨w.heap.size + 1 + 1, 3, none⟩ = some (.int .i64 0) := by rw [Lib.cell_of_heap t5]; rfl
                have f3 : w5.frozen? ⟨w.heap.size + 1 + 1, 3, none⟩ = false := Lib.frozen_of_heap t5 _
                have H5 := Lib.hid (And.intro hto t5)
                clear hto t5 HC
                go_wp2
                go_meet
                case rel =>
                  refine ⟨none, 0, 0, none, 0, 0, w5, Lib.hid ⟨H5.out.1, .inl ⟨rfl, rfl⟩, (fun k hk => by cases hk), S9.out.2.2 _, S9.out.2.1 _ _ _, ?_⟩⟩
                  exact YtancenklmfamnaaGreatW.PrintWords.blk_set H5.out.2 3 (.int .i64 _)
            · by_cases k6 : kind = 6
              · as_aux_lemma => -- k6
                  subst k6
                  unfold ToldR at hEQ
                  rw [if_neg k1, if_neg k2, if_neg k3, if_neg k4, if_neg k5, if_pos rfl] at hEQ
                  obtain ⟨rfl, rfl, rfl, rfl, rfl⟩ := hEQ
                  have HC := Lib.hid (ref_list H3.out.2.1 R.out)
                  go_wp2_with fail
                  refine HC.out.mono ?_
                  rintro e w5 ⟨A5, n5, c5, rfl, hb5, hN5⟩
                  have hto : RefTo B g F w3 w5 _ := RefTo.same H3.out.2.1 hb5
                  have t5 := T9.out w5 hto
                  have c2 : w5.cell? ⟨w.heap.size + 1 + 1, 2, none⟩ = some (.slice none 0 0) := by rw [Lib.cell_of_heap t5]; rfl
                  have f2 : w5.frozen? ⟨w.heap.size + 1 + 1, 2, none⟩ = false := Lib.frozen_of_heap t5 _
                  have H5 := Lib.hid (And.intro hto (And.intro t5 hN5))
                  clear hto t5 hN5 HC hb5
                  go_wp2
                  go_meet
                  case rel =>
                    refine ⟨none, 0, 0, A5, n5, c5, w5, Lib.hid ⟨H5.out.1, .inl ⟨rfl, rfl⟩, (fun k hk => by cases hk), H5.out.2.2, S9.out.2.1 _ _ _, ?_⟩⟩
                    exact YtancenklmfamnaaGreatW.PrintWords.blk_set H5.out.2.1 2 (.slice A5 n5 c5)
              · as_aux_lemma => -- kelse
                  unfold ToldR at hEQ
                  rw [if_neg k1, if_neg k2, if_neg k3, if_neg k4, if_neg k5, if_neg k6] at hEQ
                  obtain ⟨rfl, rfl, rfl, rfl, rfl⟩ := hEQ
                  have e1 : (kind == 1) = false := by simpa using k1
                  have e2 : (kind == 2) = false := by simpa using k2
                  have e3 : (kind == 3) = false := by simpa using k3
                  have e4 : (kind == 4) = false := by simpa using k4
                  have e5 : (kind == 5) = false := by simpa using k5
                  have e6 : (kind == 6) = false := by simpa using k6
                  go_wp2
                  go_meet
                  case rel => exact ⟨none, 0, 0, none, 0, 0, w3, Lib.hid ⟨RefTo.same H3.out.2.1 (Below.refl _ _), .inl ⟨rfl, rfl⟩, (fun k hk => by cases hk), S9.out.2.2 _, Same.refl _, H3.out.2.2.2.2.2.2.2⟩⟩
  case rest =>
  obtain ⟨A5, n5, c5, A6, n6, c6, w5, HM⟩ := hcut
  have b1 : wc.heap[w.heap.size + 1]? = some (.cells (tdC (.slice none 0 0) 0 (.slice none 0 0) 0) 43 (0, 0)) := HM.out.same.at (at_far HM.out.ref H3.out.2.2.2.2.2.2.1 (NF.out _ (by omega))) (by omega)
  have b2 := HM.out.b9
  have d0 : wc.cell? ⟨w.heap.size + 1 + 1, 0, none⟩ = some (.slice A5 n5 c5) := by rw [Lib.cell_of_heap b2]; rfl
  have d1 : wc.cell? ⟨w.heap.size + 1 + 1, 1, none⟩ = some (.int .i64 tv) := by rw [Lib.cell_of_heap b2]; rfl
  have d2 : wc.cell? ⟨w.heap.size + 1 + 1, 2, none⟩ = some (.slice A6 n6 c6) := by rw [Lib.cell_of_heap b2]; rfl
  have d3 : wc.cell? ⟨w.heap.size + 1 + 1, 3, none⟩ = some (.int .i64 te) := by rw [Lib.cell_of_heap b2]; rfl
  have c0 : wc.cell? ⟨w.heap.size + 1, 0, none⟩ = some (.slice none 0 0) := by rw [Lib.cell_of_heap b1]; rfl
  have c1 : wc.cell? ⟨w.heap.size + 1, 1, none⟩ = some (.int .i64 0) := by rw [Lib.cell_of_heap b1]; rfl
  have c2 : wc.cell? ⟨w.heap.size + 1, 2, none⟩ = some (.slice none 0 0) := by rw [Lib.cell_of_heap b1]; rfl
  have c3 : wc.cell? ⟨w.heap.size + 1, 3, none⟩ = some (.int .i64 0) := by rw [Lib.cell_of_heap b1]; rfl
  have f6 : ∀ i, wc.frozen? ⟨w.heap.size + 1, i, none⟩ = false := fun i => Lib.frozen_of_heap b1 _
  have g0 := f6 0
  have g1 := f6 1
  have g2 := f6 2
  have g3 := f6 3
  clear b1 b2 f6
  go_wp2
  (try simp only [Exit.inBlock, Exit.then])
  have hs9 : Same (fun x => x = w.heap.size + 1 ∨ x = w.heap.size + 1 + 1) w5 ((((wc.setCell ⟨w.heap.size + 1, 0, none⟩ (.slice A5 n5 c5)).setCell ⟨w.heap.size + 1, 1, none⟩ (.int .i64 tv)).setCell ⟨w.heap.size + 1, 2, none⟩ (.slice A6 n6 c6)).setCell ⟨w.heap.size + 1, 3, none⟩ (.int .i64 te)) :=
    (HM.out.same.imp fun _ => .inr).trans ((((Same.set _ _ _ (.inl rfl)).trans (Same.set _ _ _ (.inl rfl))).trans (Same.set _ _ _ (.inl rfl))).trans (Same.set _ _ _ (.inl rfl)))
  have hto := RefTo.put (w := w) HM.out.ref H3.out.2.2.2.2.1 H3.out.1 hs9 fun k hk => by rcases hk with rfl | rfl <;> omega
  have hrd := HM.out.rd.fresh hs9 fun k hk e => by
    have := HM.out.rdo k hk
    rcases e with rfl | rfl <;> omega
  have hN := Kd.N_step (w1 := ((((wc.setCell ⟨w.heap.size + 1, 0, none⟩ (.slice A5 n5 c5)).setCell ⟨w.heap.size + 1, 1, none⟩ (.int .i64 tv)).setCell ⟨w.heap.size + 1, 2, none⟩ (.slice A6 n6 c6)).setCell ⟨w.heap.size + 1, 3, none⟩ (.int .i64 te))) HM.out.ls fun k hk hlt => hs9.2.2.2.2 k hlt fun e => by rcases e with rfl | rfl <;> omega
  have hz33 := H3.out.2.2.2.1
  have HF := Lib.hid (And.intro hto (And.intro (bytes_C hrd (by omega)) (And.intro (HeldAt.row hN) (And.intro hrd (And.intro (show ∀ k, A5.map (·.block) = some k → w.heap.size ≤ k from fun k hk => by have := HM.out.rdo k hk; omega) (Kd.N_mono (ok' := fun k => w.heap.size ≤ k) (Kd.N_lower (base' := w.heap.size) hN (by rw [hz33]; omega)) fun k hk => by have h9 : w3.heap.size ≤ k := hk; omega))))))
  clear hto hrd hN hs9
  refine bodyPost_ret (v := .agg #[.slice A5 n5 c5, .int .i64 tv, .slice A6 n6 c6, .int .i64 te]) ?_ rfl ⟨A5, n5, c5, A6, n6, c6, rfl, HF.out⟩
  rw [results_cell1 rfl]
  go_simp
end
end Go.Proofs.YtancenklmfamnaaGreat.Sh
namespace Go.Proofs.YtancenklmfamnaaGreat.Sh
open Go.RowKit Go.Maps Go.Sort Go.Shelf
open Go.Proofs Go.MuLone
open Go.Proofs.YtancenklmfamnaaGreatW.PrintWords (Reps OwnRow Kd ReadsRow)
open PShelfPlays (S70 S104 S115 k70 k104 k115)

/-- one of the eight places: empty, of a room that may not be, or a shelf and the document's -/
inductive Seat where
  | none
  | bad
  | on (p g : Nat) (L : Lay) (F : Nat → Prop)
def Seat.sa : Seat → Option Addr
  | .on p _ _ _ => some ⟨p, 0, .none⟩
  | _ => .none
def Seat.ra : Seat → Option Addr
  | .on _ g _ _ => some ⟨g, 0, .none⟩
  | _ => .none
abbrev Seat.sv (s : Seat) : Value := .pointer s.sa
abbrev Seat.rv (s : Seat) : Value := .pointer s.ra
def Seat.th : Seat → Bool
  | .none => false
  | _ => true
def Seat.foot : Seat → Nat → Prop
  | .on p _ L F, k => Foot p L k ∨ F k
  | _, _ => False
def Seat.Is (B : Nat) (w : World) : Seat → Prop
  | .on p g L F => Rest B w p L ∧ RefL B w g F L ∧ ∀ k, Foot p L k → ¬ F k
  | _ => True
def Seat.touch : Seat → Int
  | .on _ _ L _ => L.touch
  | _ => 0
theorem foot_low {B p : Nat} {w : World} {L : Lay} (h : Rest B w p L) {k : Nat} (hk : Foot p L k) : B ≤ k := by
  rcases hk with hk | ⟨m, hm, hk⟩
  · obtain ⟨l1, l2, l3, l4, l5⟩ := h.is.low
    rcases hk with rfl | rfl | rfl | hk | hk
    · exact l1
    · exact l2
    · exact l3
    · obtain ⟨x, hx, rfl⟩ := List.mem_map.1 hk
      exact l4 x hx
    · obtain ⟨x, hx, rfl⟩ := List.mem_map.1 hk
      exact l5 x hx
  · exact (row_ty (h.is.mods m hm).2 hk).1
theorem Seat.Is.off {B : Nat} {w w' : World} {s : Seat} {S : Nat → Prop} (t : s.Is B w) (hs : Same S w w') (hf : ∀ k, s.foot k → ¬ S k) : s.Is B w' := by
  match s, t, hf with
  | .none, _, _ => exact trivial
  | .bad, _, _ => exact trivial
  | .on p g L F, ⟨h1, h2, h3⟩, hf => exact ⟨h1.off hs fun k hk => hf k (.inl hk), RefIs.off h2 hs fun k hk => hf k (.inr hk), h3⟩
theorem Seat.Is.range {B : Nat} {w : World} {s : Seat} (t : s.Is B w) {k : Nat} (hk : s.foot k) : B ≤ k ∧ k < w.heap.size := by
  match s, t, hk with
  | .on p g L F, ⟨h1, h2, h3⟩, .inl hk => exact ⟨foot_low h1 hk, h1.is.foot_lt hk⟩
  | .on p g L F, ⟨h1, h2, h3⟩, .inr hk => exact RefIs.foot h2 k hk
theorem Rest.lower {B B' p : Nat} {w : World} {L : Lay} (h : Rest B w p L) (hb : B' ≤ B) : Rest B' w p L :=
  ⟨⟨h.is.blk, h.is.outer, h.is.names, h.is.inner, fun m hm => ⟨(h.is.mods m hm).1, World.ownsRow.mono (h.is.mods m hm).2 hb⟩, ⟨Nat.le_trans hb h.is.low.1, Nat.le_trans hb h.is.low.2.1, Nat.le_trans hb h.is.low.2.2.1, fun x hx => Nat.le_trans hb (h.is.low.2.2.2.1 x hx), fun x hx => Nat.le_trans hb (h.is.low.2.2.2.2 x hx)⟩, h.is.innNames, h.is.innBlks, h.is.far, h.is.keys, h.is.blks, h.is.homed, h.is.lastNames, h.is.few⟩, h.good, h.lk⟩
theorem RefIs.lower {B B' g : Nat} {w : World} {F : Nat → Prop} {room clock : Int} {ms : List S104} {ls : List S115} (h : RefIs B w g F room clock ms ls) (hb : B' ≤ B) : RefIs B' w g F room clock ms ls := by
  obtain ⟨A1, n1, c1, A2, n2, c2, t⟩ := h
  exact ⟨A1, n1, c1, A2, n2, c2, t.blk, Kd.N_lower t.mods hb, Kd.N_lower t.lasts hb, t.self, fun k hk => ⟨Nat.le_trans hb (t.foot k hk).1, (t.foot k hk).2⟩⟩
theorem Seat.Is.lower {B B' : Nat} {w : World} {s : Seat} (t : s.Is B w) (hb : B' ≤ B) : s.Is B' w := by
  match s, t with
  | .none, _ => exact trivial
  | .bad, _ => exact trivial
  | .on p g L F, ⟨h1, h2, h3⟩ => exact ⟨h1.lower hb, RefIs.lower h2 hb, h3⟩
def OpenP (n : Int) (w : World) (e : Ending) (w' : World) : Prop := ∃ s : Seat, s.th = true ∧ e = .returned (.tuple #[.agg #[.pointer s.sa, .pointer s.ra], .bool true]) ∧ Below w.heap.size w w' ∧ s.Is w.heap.size w' ∧ s.touch = 0 ∧ (s.sa = none ↔ ¬ (1 ≤ n ∧ n ≤ 1099511627776))
set_option maxHeartbeats 4000000 in
set_option maxRecDepth 1000000 in
theorem opened_any (n : Int) (w : World) : Calls Tryz.prog 6 #[.int .i64 n] w (OpenP n w) := by
  by_cases hn : 1 ≤ n ∧ n ≤ 1099511627776
  · have HN := Lib.hid hn
    clear hn
    go_enter Tryz.func6, Tryz.ntmps6
    go_wp2_with fail
    refine (new_yes n _ HN.out.1 HN.out.2).mono ?_
    rintro e w1 ⟨p, mm, ml, rfl, hb1, hr1⟩
    have H1 := Lib.hid (And.intro hb1 hr1)
    clear hb1 hr1
    go_wp2_with fail
    refine (ref_new n _ HN.out.1 HN.out.2).mono ?_
    rintro e w2 ⟨g, rfl, hb2, hr2⟩
    have hz : (w.alloc (.cells #[.pointer none, .pointer none] 32)).heap.size = w.heap.size + 1 := by simp
    have b0 := alloc_is w (.cells #[.pointer none, .pointer none] 32)
    have hs1 := H1.out.1.size
    have b2 : w2.heap[w.heap.size]? = some (.cells #[.pointer none, .pointer none] 32 (0, 0)) := by
      rw [hb2.block _ (by omega), H1.out.1.block _ (by omega)]
      exact b0
    have c0 : w2.cell? ⟨w.heap.size, 0, none⟩ = some (.pointer none) := by rw [Lib.cell_of_heap b2]; rfl
    have c1 : w2.cell? ⟨w.heap.size, 1, none⟩ = some (.pointer none) := by rw [Lib.cell_of_heap b2]; rfl
    have f0 : w2.frozen? ⟨w.heap.size, 0, none⟩ = false := Lib.frozen_of_heap b2 _
    have f1 : w2.frozen? ⟨w.heap.size, 1, none⟩ = false := Lib.frozen_of_heap b2 _
    have hbel : Below w.heap.size w ((w2.setCell ⟨w.heap.size, 0, none⟩ (.pointer (some ⟨p, 0, none⟩))).setCell ⟨w.heap.size, 1, none⟩ (.pointer (some ⟨g, 0, none⟩))) :=
      ((((below_alloc w _).trans (H1.out.1.mono (by omega))).trans (hb2.mono (by omega))).setCell (p := ⟨w.heap.size, 0, none⟩) (Nat.le_refl _) _).setCell (p := ⟨w.heap.size, 1, none⟩) (Nat.le_refl _) _
    have hss : Same (fun k => k = w.heap.size) w2 ((w2.setCell ⟨w.heap.size, 0, none⟩ (.pointer (some ⟨p, 0, none⟩))).setCell ⟨w.heap.size, 1, none⟩ (.pointer (some ⟨g, 0, none⟩))) := (same9 _ _ 0 _).trans (same9 _ _ 1 _)
    have hrr : RefL w.heap.size ((w2.setCell ⟨w.heap.size, 0, none⟩ (.pointer (some ⟨p, 0, none⟩))).setCell ⟨w.heap.size, 1, none⟩ (.pointer (some ⟨g, 0, none⟩))) g (fun k => k = g) (Lay.start n mm ml) := by
      have h1 : RefL w1.heap.size w2 g (fun k => k = g) (Lay.start n mm ml) := hr2
      refine (RefIs.lower h1 (by omega)).off hss fun k hk e => ?_
      have := (RefIs.foot h1 k hk).1
      omega
    have hre : Rest w.heap.size ((w2.setCell ⟨w.heap.size, 0, none⟩ (.pointer (some ⟨p, 0, none⟩))).setCell ⟨w.heap.size, 1, none⟩ (.pointer (some ⟨g, 0, none⟩))) p (Lay.start n mm ml) := by
      refine (Rest.lower (H1.out.2.below hb2) (by omega)).off hss fun k hk e => ?_
      have := foot_low H1.out.2 hk
      omega
    have hdis : ∀ k, Foot p (Lay.start n mm ml) k → ¬ k = g := fun k hk e => by
      have h1 := H1.out.2.is.foot_lt hk
      have h2 := (RefIs.foot hr2 k e).1
      omega
    have HF := Lib.hid (show OpenP n w (.returned (.tuple #[.agg #[.pointer (some ⟨p, 0, none⟩), .pointer (some ⟨g, 0, none⟩)], .bool true])) ((w2.setCell ⟨w.heap.size, 0, none⟩ (.pointer (some ⟨p, 0, none⟩))).setCell ⟨w.heap.size, 1, none⟩ (.pointer (some ⟨g, 0, none⟩))) from ⟨.on p g (Lay.start n mm ml) (fun k => k = g), rfl, rfl, hbel, ⟨hre, hrr, hdis⟩, rfl, ⟨fun h => (by cases h), fun h => absurd HN.out h⟩⟩)
    clear hb2 hr2 hz b0 b2 hbel hss hrr hre hdis hs1
    go_wp2
    refine bodyPost_ret (v := .tuple #[.agg #[.pointer (some ⟨p, 0, none⟩), .pointer (some ⟨g, 0, none⟩)], .bool true]) ?_ rfl HF.out
    rw [results_cell_tmp rfl]
    go_simp
  · have hn' : n < 1 ∨ 1099511627776 < n := by omega
    have HN := Lib.hid hn'
    clear hn hn'
    go_enter Tryz.func6, Tryz.ntmps6
    go_wp2_with fail
    refine (new_bad n _ HN.out).mono ?_
    rintro e w1 ⟨rfl, rfl⟩
    go_wp2_with fail
    refine (ref_new_bad n _ HN.out).mono ?_
    rintro e w2 ⟨rfl, rfl⟩
    go_wp2
    refine bodyPost_ret (v := .tuple #[.agg #[.pointer none, .pointer none], .bool true]) ?_ rfl ⟨.bad, rfl, rfl, below_alloc w _, trivial, rfl, ⟨fun _ => by have := HN.out; omega, fun _ => rfl⟩⟩
    rw [results_cell_tmp rfl]
    go_simp
end Go.Proofs.YtancenklmfamnaaGreat.Sh
namespace Go.Proofs.YtancenklmfamnaaGreat.Sh
open Go.RowKit Go.Maps Go.Sort Go.Shelf
open Go.Proofs Go.MuLone
open Go.Proofs.YtancenklmfamnaaGreatW.PrintWords (Reps OwnRow Kd ReadsRow)
open PShelfPlays (S70 S104 S115 k70 k104 k115)

def psC (S : Nat → Seat) : Array Value := #[(S 0).sv, (S 0).rv, (S 1).sv, (S 1).rv, (S 2).sv, (S 2).rv, (S 3).sv, (S 3).rv, (S 4).sv, (S 4).rv, (S 5).sv, (S 5).rv, (S 6).sv, (S 6).rv, (S 7).sv, (S 7).rv]
def thC (S : Nat → Seat) : Array Value := #[.bool (S 0).th, .bool (S 1).th, .bool (S 2).th, .bool (S 3).th, .bool (S 4).th, .bool (S 5).th, .bool (S 6).th, .bool (S 7).th]
def upd (S : Nat → Seat) (k : Nat) (s : Seat) : Nat → Seat := fun j => if j = k then s else S j
theorem upd_self (S : Nat → Seat) (k : Nat) (s : Seat) : upd S k s k = s := by simp [upd]
theorem upd_ne (S : Nat → Seat) {j k : Nat} (s : Seat) (h : j ≠ k) : upd S k s j = S j := by simp [upd, h]
theorem eight {k : Nat} (hk : k < 8) : k = 0 ∨ k = 1 ∨ k = 2 ∨ k = 3 ∨ k = 4 ∨ k = 5 ∨ k = 6 ∨ k = 7 := by omega
theorem psC_upd (S : Nat → Seat) {k : Nat} (hk : k < 8) (s : Seat) : ((psC S).setIfInBounds (k * 2) s.sv).setIfInBounds (k * 2 + 1) s.rv = psC (upd S k s) := by
  rcases eight hk with rfl | rfl | rfl | rfl | rfl | rfl | rfl | rfl <;> simp [psC, upd]
theorem thC_upd (S : Nat → Seat) {k : Nat} (hk : k < 8) (s : Seat) : (thC S).setIfInBounds k (.bool s.th) = thC (upd S k s) := by
  rcases eight hk with rfl | rfl | rfl | rfl | rfl | rfl | rfl | rfl <;> simp [thC, upd]
theorem psC_at (S : Nat → Seat) {k : Nat} (hk : k < 8) : (psC S)[k * 2]? = some (S k).sv ∧ (psC S)[k * 2 + 1]? = some (S k).rv := by
  rcases eight hk with rfl | rfl | rfl | rfl | rfl | rfl | rfl | rfl <;> exact ⟨rfl, rfl⟩
theorem thC_at (S : Nat → Seat) {k : Nat} (hk : k < 8) : (thC S)[k]? = some (.bool (S k).th) := by
  rcases eight hk with rfl | rfl | rfl | rfl | rfl | rfl | rfl | rfl <;> rfl
/-- the hand, the seats, and where they are kept -/
structure KP (w0 w : World) (h : Nat) (A : Option Addr) (n0 rb pb tb : Nat) (one two : Int) (S : Nat → Seat) : Prop where
  below : Below w0.heap.size w0 w
  hand : HandIs w0.heap.size w h A n0
  low : w0.heap.size ≤ rb ∧ w0.heap.size ≤ pb ∧ w0.heap.size ≤ tb
  rs : w.heap[rb]? = some (.cells #[.int .i64 one, .int .i64 two] 28 (0, 0))
  ps : w.heap[pb]? = some (.cells (psC S) 33 (0, 0))
  th : w.heap[tb]? = some (.cells (thC S) 34 (0, 0))
  is : ∀ k, k < 8 → (S k).Is w0.heap.size w
  off : ∀ k, k < 8 → ∀ x, (S k).foot x → x ≠ h ∧ A.map (·.block) ≠ some x ∧ x ≠ rb ∧ x ≠ pb ∧ x ≠ tb
  apart : ∀ i j, i < 8 → j < 8 → i ≠ j → ∀ x, (S i).foot x → ¬ (S j).foot x
  aoff : ∀ x, A.map (·.block) = some x → x ≠ rb ∧ x ≠ pb ∧ x ≠ tb
  hne : rb ≠ h ∧ pb ≠ h ∧ tb ≠ h ∧ rb ≠ pb ∧ rb ≠ tb ∧ pb ≠ tb
section
variable {w0 w w' w3 w4 w5 : World} {h rb pb tb n0 n' p g : Nat} {A A' : Option Addr} {one two : Int} {S : Nat → Seat} {L L' : Lay} {F : Nat → Prop}
theorem HandIs.far2 {B : Nat} {P : Nat → Prop} (hh : HandIs B w h A n0) (hs : Same P w w') (h1 : ¬ P h) (h2 : ∀ k, A.map (·.block) = some k → ¬ P k) : HandIs B w' h A n0 := by
  refine ⟨hs.at hh.blk h1, ?_, hh.low⟩
  rcases hh.row with e | ⟨g, cur, e1, e2, e3, e4⟩
  · exact .inl e
  · exact .inr ⟨g, cur, e1, e2, hs.at e3 (h2 g (by rw [e1]; rfl)), e4⟩
theorem HandIs.lt2 {B : Nat} (hh : HandIs B w h A n0) {k : Nat} (hk : A.map (·.block) = some k) : B ≤ k ∧ k < w.heap.size := by
  rcases hh.row with ⟨e, _⟩ | ⟨g, cur, e1, e2, e3, _⟩
  · rw [e] at hk; cases hk
  · rw [e1] at hk
    cases hk
    exact ⟨e2, at_lt e3⟩
/-- all that the seats and the hand hold -/
def KFoot (h : Nat) (A : Option Addr) (rb pb tb : Nat) (S : Nat → Seat) (x : Nat) : Prop := x = h ∨ A.map (·.block) = some x ∨ x = rb ∨ x = pb ∨ x = tb ∨ ∃ k, k < 8 ∧ (S k).foot x
theorem KP.range (t : KP w0 w h A n0 rb pb tb one two S) {x : Nat} (hx : KFoot h A rb pb tb S x) : w0.heap.size ≤ x ∧ x < w.heap.size := by
  rcases hx with rfl | hx | rfl | rfl | rfl | ⟨k, hk, hx⟩
  · exact ⟨t.hand.low, at_lt t.hand.blk⟩
  · exact t.hand.lt2 hx
  · exact ⟨t.low.1, at_lt t.rs⟩
  · exact ⟨t.low.2.1, at_lt t.ps⟩
  · exact ⟨t.low.2.2, at_lt t.th⟩
  · exact (t.is k hk).range hx
theorem KP.below_ (t : KP w0 w h A n0 rb pb tb one two S) (hb : Below w.heap.size w w') : KP w0 w' h A n0 rb pb tb one two S :=
  have hs : Same (fun _ => False) w w' := Same.below hb
  ⟨t.below.trans (hb.mono t.below.size), t.hand.far2 hs id fun _ _ => id, t.low, hs.at t.rs id, hs.at t.ps id, hs.at t.th id, fun k hk => (t.is k hk).off hs fun _ _ => id, t.off, t.apart, t.aoff, t.hne⟩
theorem KP.at (t : KP w0 w h A n0 rb pb tb one two S) {k : Nat} (hk : k < 8) (hS : S k = .on p g L F) : At w0.heap.size w p L h A n0 ∧ RefL w0.heap.size w g F L ∧ LRest L ∧ (∀ x, Foot p L x → ¬ F x) ∧ (∀ x, F x → ¬ Foot2 p L h A x) := by
  have h1 := t.is k hk
  have h2 := t.off k hk
  rw [hS] at h1 h2
  obtain ⟨h3, h4, h5⟩ := h1
  refine ⟨⟨h3, t.hand, fun e => (h2 h (.inl e)).1 rfl, fun x hx e => (h2 x (.inl e)).2.1 hx⟩, h4, LRest.of h3, h5, fun x hx e => ?_⟩
  rcases e with e | rfl | e
  · exact h5 x e hx
  · exact (h2 x (.inr hx)).1 rfl
  · exact (h2 x (.inr hx)).2.1 e
theorem same_below (hb : Below w0.heap.size w0 w) {P : Nat → Prop} (hs : Same P w w') (hP : ∀ k, P k → w0.heap.size ≤ k) : Below w0.heap.size w0 w' :=
  ⟨hs.1.trans hb.os, hs.2.1.trans hb.tape, hs.2.2.1.trans hb.output, Nat.le_trans hb.size hs.2.2.2.1, fun k hk => (hs.2.2.2.2 k (Nat.lt_of_lt_of_le hk hb.size) fun e => by have := hP k e; omega).trans (hb.block k hk)⟩
theorem psC_same {k : Nat} (s : Seat) (h1 : s.sv = (S k).sv) (h2 : s.rv = (S k).rv) : psC (upd S k s) = psC S := by
  have e : ∀ j, (upd S k s j).sv = (S j).sv ∧ (upd S k s j).rv = (S j).rv := fun j => by
    by_cases hj : j = k
    · subst hj; rw [upd_self]; exact ⟨h1, h2⟩
    · rw [upd_ne S s hj]; exact ⟨rfl, rfl⟩
  unfold psC
  simp only [(e _).1, (e _).2]
theorem thC_same {k : Nat} (s : Seat) (h1 : s.th = (S k).th) : thC (upd S k s) = thC S := by
  have e : ∀ j, (upd S k s j).th = (S j).th := fun j => by
    by_cases hj : j = k
    · subst hj; rw [upd_self]; exact h1
    · rw [upd_ne S s hj]
  unfold thC
  simp only [e _]
/-- told, and then wanted -/
theorem KP.round (t : KP w0 w h A n0 rb pb tb one two S) {k : Nat} (hk : k < 8) (hS : S k = .on p g L F) (hat : At w0.heap.size w3 p L' h A' n') (mv : Move w w3 p L L' h A A')
    (hb : Below w3.heap.size w3 w4) (hr : RefTo w0.heap.size g F w4 w5 L') :
    ∃ F', RefL w0.heap.size w5 g F' L' ∧ KP w0 w5 h A' n' rb pb tb one two (upd S k (.on p g L' F')) := by
  obtain ⟨F', ⟨sr, fr⟩, rl⟩ := hr
  refine ⟨F', rl, ?_⟩
  obtain ⟨at0, rl0, lr0, dis0, fd0⟩ := t.at hk hS
  have offk := t.off k hk
  have rngk : ∀ x, (S k).foot x → w0.heap.size ≤ x ∧ x < w.heap.size := fun x hx => (t.is k hk).range hx
  rw [hS] at offk rngk
  have s3 : Same (fun x => Foot2 p L h A x) w w3 := mv.1.imp fun x hx => by
    rcases hx with hx | hx
    · exact .inl (.inl hx)
    · exact .inr hx
  have s5 : Same (fun x => Foot2 p L h A x ∨ F x) w w5 := ((s3.imp fun _ => .inl).trans (Same.below hb)).trans (sr.imp fun _ => .inr)
  have sz3 : w.heap.size ≤ w3.heap.size := s3.2.2.2.1
  have sz4 : w3.heap.size ≤ w4.heap.size := hb.size
  have f2r : ∀ x, Foot2 p L h A x → w0.heap.size ≤ x ∧ x < w.heap.size := fun x hx => by
    rcases hx with hx | rfl | hx
    · exact rngk x (.inl hx)
    · exact ⟨t.hand.low, at_lt t.hand.blk⟩
    · exact t.hand.lt2 hx
  have Frng : ∀ x, F x → w0.heap.size ≤ x ∧ x < w.heap.size := fun x hx => rngk x (.inr hx)
  -- the three blocks
  have f2b : ∀ b, b = rb ∨ b = pb ∨ b = tb → ¬ Foot2 p L h A b := fun b hb e => by
    rcases e with e | rfl | e
    · have := offk b (.inl e)
      rcases hb with rfl | rfl | rfl
      · exact this.2.2.1 rfl
      · exact this.2.2.2.1 rfl
      · exact this.2.2.2.2 rfl
    · rcases hb with e | e | e
      · exact t.hne.1 e.symm
      · exact t.hne.2.1 e.symm
      · exact t.hne.2.2.1 e.symm
    · have := t.aoff b e
      rcases hb with rfl | rfl | rfl
      · exact this.1 rfl
      · exact this.2.1 rfl
      · exact this.2.2 rfl
  have blt : ∀ b, b = rb ∨ b = pb ∨ b = tb → b < w.heap.size := fun b hb => by
    rcases hb with rfl | rfl | rfl
    · exact at_lt t.rs
    · exact at_lt t.ps
    · exact at_lt t.th
  have nb : ∀ b, b = rb ∨ b = pb ∨ b = tb → ¬ (Foot2 p L h A b ∨ F b) := fun b hb e => by
    rcases e with e | e
    · exact f2b b hb e
    · have := offk b (.inr e)
      rcases hb with rfl | rfl | rfl
      · exact this.2.2.1 rfl
      · exact this.2.2.2.1 rfl
      · exact this.2.2.2.2 rfl
  -- what the new hand and the new shelf hold
  have new2 : ∀ x, Foot2 p L' h A' x → Foot2 p L h A x ∨ w.heap.size ≤ x := mv.2
  have newF : ∀ x, F' x → F x ∨ w4.heap.size ≤ x := fr
  have lt3 : ∀ x, Foot2 p L' h A' x → x < w3.heap.size := fun x hx => by
    rcases hx with hx | rfl | hx
    · exact hat.rest.is.foot_lt hx
    · exact at_lt hat.hand.blk
    · exact (hat.hand.lt2 hx).2
  have n2F : ∀ x, Foot2 p L' h A' x → ¬ F x := fun x hx e => by
    rcases new2 x hx with h1 | h1
    · exact fd0 x e h1
    · have := (Frng x e).2; omega
  have n2F' : ∀ x, Foot2 p L' h A' x → ¬ F' x := fun x hx e => by
    rcases newF x e with h1 | h1
    · exact n2F x hx h1
    · have := lt3 x hx; omega
  have sb : Same (fun x => F x) w3 w5 := (Same.below hb).trans sr
  have j2 : ∀ j, j < 8 → j ≠ k → ∀ x, (S j).foot x → ¬ (Foot2 p L h A x ∨ F x) := fun j hj hjk x hx e => by
    have ap := t.apart j k hj hk hjk x hx
    rw [hS] at ap
    have of := t.off j hj x hx
    rcases e with (e | e | e) | e
    · exact ap (.inl e)
    · exact of.1 e
    · exact of.2.1 e
    · exact ap (.inr e)
  have newk : ∀ x, (Seat.on p g L' F').foot x → (Foot2 p L h A x ∨ F x) ∨ w.heap.size ≤ x := fun x hx => by
    rcases hx with hx | hx
    · rcases new2 x (.inl hx) with h1 | h1
      · exact .inl (.inl h1)
      · exact .inr h1
    · rcases newF x hx with h1 | h1
      · exact .inl (.inr h1)
      · right; omega
  have jk : ∀ j, j < 8 → j ≠ k → ∀ x, (S j).foot x → ¬ (Seat.on p g L' F').foot x := fun j hj hjk x hx e => by
    rcases newk x e with h1 | h1
    · exact j2 j hj hjk x hx h1
    · have := ((t.is j hj).range hx).2; omega
  refine ⟨same_below t.below s5 fun x hx => ?_, hat.hand.far2 sb (n2F h (.inr (.inl rfl))) (fun x hx => n2F x (.inr (.inr hx))), t.low, s5.at t.rs (nb _ (.inl rfl)), ?_, ?_, fun j hj => ?_, fun j hj x hx => ?_, fun i j hi hj hij x hx hy => ?_, fun x hx => ?_, t.hne⟩
  · rcases hx with hx | hx
    · exact (f2r x hx).1
    · exact (Frng x hx).1
  · rw [psC_same _ (by rw [hS]; rfl) (by rw [hS]; rfl)]
    exact s5.at t.ps (nb _ (.inr (.inl rfl)))
  · rw [thC_same _ (by rw [hS]; rfl)]
    exact s5.at t.th (nb _ (.inr (.inr rfl)))
  · by_cases hjk : j = k
    · subst hjk
      rw [upd_self]
      exact ⟨hat.rest.off sb fun x hx => n2F x (.inl hx), rl, fun x hx => n2F' x (.inl hx)⟩
    · rw [upd_ne S _ hjk]
      exact (t.is j hj).off s5 (j2 j hj hjk)
  · by_cases hjk : j = k
    · subst hjk
      rw [upd_self] at hx
      have bad : ∀ b, b = rb ∨ b = pb ∨ b = tb → x ≠ b := fun b hb e => by
        subst e
        rcases newk x hx with h1 | h1
        · exact nb x hb h1
        · have := blt x hb; omega
      refine ⟨fun e => ?_, fun e => ?_, bad _ (.inl rfl), bad _ (.inr (.inl rfl)), bad _ (.inr (.inr rfl))⟩
      · subst e
        rcases hx with hx | hx
        · exact hat.off.1 hx
        · exact n2F' x (.inr (.inl rfl)) hx
      · rcases hx with hx | hx
        · exact hat.off.2 x e hx
        · exact n2F' x (.inr (.inr e)) hx
    · rw [upd_ne S _ hjk] at hx
      have of := t.off j hj x hx
      refine ⟨of.1, fun e => ?_, of.2.2⟩
      rcases new2 x (.inr (.inr e)) with h1 | h1
      · exact j2 j hj hjk x hx (.inl h1)
      · have := ((t.is j hj).range hx).2; omega
  · by_cases hik : i = k
    · subst hik
      rw [upd_self] at hx
      rw [upd_ne S _ (Ne.symm hij)] at hy
      exact jk j hj (Ne.symm hij) x hy hx
    · rw [upd_ne S _ hik] at hx
      by_cases hjk : j = k
      · subst hjk
        rw [upd_self] at hy
        exact jk i hi hik x hx hy
      · rw [upd_ne S _ hjk] at hy
        exact t.apart i j hi hj hij x hx hy
  · have key : ∀ b, b = rb ∨ b = pb ∨ b = tb → x ≠ b := fun b hb e => by
      subst e
      rcases new2 x (.inr (.inr hx)) with h1 | h1
      · exact f2b x hb h1
      · have := blt x hb; omega
    exact ⟨key _ (.inl rfl), key _ (.inr (.inl rfl)), key _ (.inr (.inr rfl))⟩
/-- List of the shelf -/
theorem KP.step (t : KP w0 w h A n0 rb pb tb one two S) {k : Nat} (hk : k < 8) (hS : S k = .on p g L F) (st : Step w0.heap.size w w' p L L) (hr : Rest w0.heap.size w' p L) :
    KP w0 w' h A n0 rb pb tb one two S := by
  obtain ⟨at0, rl0, lr0, dis0, fd0⟩ := t.at hk hS
  have offk := t.off k hk
  have rngk : ∀ x, (S k).foot x → w0.heap.size ≤ x ∧ x < w.heap.size := fun x hx => (t.is k hk).range hx
  rw [hS] at offk rngk
  have s := st.1
  refine ⟨same_below t.below s fun x hx => (rngk x (.inl (.inl hx))).1, t.hand.far2 s (fun e => (offk h (.inl (.inl e))).1 rfl) (fun x hx e => (offk x (.inl (.inl e))).2.1 hx), t.low, s.at t.rs fun e => (offk _ (.inl (.inl e))).2.2.1 rfl, s.at t.ps fun e => (offk _ (.inl (.inl e))).2.2.2.1 rfl, s.at t.th fun e => (offk _ (.inl (.inl e))).2.2.2.2 rfl, fun j hj => ?_, t.off, t.apart, t.aoff, t.hne⟩
  by_cases hjk : j = k
  · subst hjk
    rw [hS]
    exact ⟨hr, RefIs.off rl0 s fun x hx e => dis0 x (.inl e) hx, dis0⟩
  · refine (t.is j hj).off s fun x hx e => ?_
    have ap := t.apart j k hj hk hjk x hx
    rw [hS] at ap
    exact ap (.inl (.inl e))
/-- a seat is taken anew -/
theorem KP.seat (t : KP w0 w h A n0 rb pb tb one two S) {k : Nat} (hk : k < 8) {s : Seat} (hb : Below w.heap.size w w') (hs : s.Is w.heap.size w') :
    KP w0 (((w'.setCell ⟨pb, k * 2, none⟩ s.sv).setCell ⟨pb, k * 2 + 1, none⟩ s.rv).setCell ⟨tb, k, none⟩ (.bool s.th)) h A n0 rb pb tb one two (upd S k s) := by
  have t' := t.below_ hb
  have ss : Same (fun x => x = pb ∨ x = tb) w' (((w'.setCell ⟨pb, k * 2, none⟩ s.sv).setCell ⟨pb, k * 2 + 1, none⟩ s.rv).setCell ⟨tb, k, none⟩ (.bool s.th)) :=
    ((Same.set _ _ _ (.inl rfl)).trans (Same.set _ _ _ (.inl rfl))).trans (Same.set _ _ _ (.inr rfl))
  have rng : ∀ x, s.foot x → w.heap.size ≤ x ∧ x < w'.heap.size := fun x hx => hs.range hx
  have old : ∀ x, KFoot h A rb pb tb S x → x < w.heap.size := fun x hx => (t.range hx).2
  have hw0 : w0.heap.size ≤ w.heap.size := t.below.size
  refine ⟨same_below t'.below ss fun x hx => ?_, t'.hand.far2 ss (fun e => ?_) (fun x hx e => ?_), t.low, ss.at t'.rs (fun e => ?_), ?_, ?_, fun j hj => ?_, fun j hj x hx => ?_, fun i j hi hj hij x hx hy => ?_, t.aoff, t.hne⟩
  · rcases hx with rfl | rfl
    · exact t.low.2.1
    · exact t.low.2.2
  · rcases e with e | e
    · exact t.hne.2.1 e.symm
    · exact t.hne.2.2.1 e.symm
  · have := t.aoff x hx
    rcases e with e | e
    · exact this.2.1 e
    · exact this.2.2 e
  · rcases e with e | e
    · exact t.hne.2.2.2.1 e
    · exact t.hne.2.2.2.2.1 e
  · rw [Below.heap_setCell _ ⟨tb, k, none⟩ _ pb t.hne.2.2.2.2.2, ← psC_upd S hk s]
    exact YtancenklmfamnaaGreatW.PrintWords.blk_set (YtancenklmfamnaaGreatW.PrintWords.blk_set t'.ps _ _) _ _
  · rw [← thC_upd S hk s]
    refine YtancenklmfamnaaGreatW.PrintWords.blk_set ?_ _ _
    rw [Below.heap_setCell _ ⟨pb, k * 2 + 1, none⟩ _ tb (Ne.symm t.hne.2.2.2.2.2), Below.heap_setCell _ ⟨pb, k * 2, none⟩ _ tb (Ne.symm t.hne.2.2.2.2.2)]
    exact t'.th
  · by_cases hjk : j = k
    · subst hjk
      rw [upd_self]
      refine (hs.lower hw0).off ss fun x hx e => ?_
      have h1 := (rng x hx).1
      rcases e with rfl | rfl
      · have := at_lt t.ps; omega
      · have := at_lt t.th; omega
    · rw [upd_ne S _ hjk]
      refine (t'.is j hj).off ss fun x hx e => ?_
      have of := t.off j hj x hx
      rcases e with e | e
      · exact of.2.2.2.1 e
      · exact of.2.2.2.2 e
  · by_cases hjk : j = k
    · subst hjk
      rw [upd_self] at hx
      have h1 := (rng x hx).1
      have key : ∀ y, KFoot h A rb pb tb S y → x ≠ y := fun y hy e => by have := old y hy; omega
      exact ⟨key _ (.inl rfl), fun e => key x (.inr (.inl e)) rfl, key _ (.inr (.inr (.inl rfl))), key _ (.inr (.inr (.inr (.inl rfl)))), key _ (.inr (.inr (.inr (.inr (.inl rfl)))))⟩
    · rw [upd_ne S _ hjk] at hx
      exact t.off j hj x hx
  · by_cases hik : i = k
    · subst hik
      rw [upd_self] at hx
      rw [upd_ne S _ (Ne.symm hij)] at hy
      have := (rng x hx).1
      have := ((t.is j hj).range hy).2
      omega
    · rw [upd_ne S _ hik] at hx
      by_cases hjk : j = k
      · subst hjk
        rw [upd_self] at hy
        have := (rng x hy).1
        have := ((t.is i hi).range hx).2
        omega
      · rw [upd_ne S _ hjk] at hy
        exact t.apart i j hi hj hij x hx hy
end
end Go.Proofs.YtancenklmfamnaaGreat.Sh
namespace Go.Proofs.YtancenklmfamnaaGreat.Sh
open Go.RowKit Go.Maps Go.Sort Go.Shelf
open Go.Proofs Go.MuLone
open Go.Proofs.YtancenklmfamnaaGreatW.PrintWords (Reps OwnRow Kd ReadsRow)
open PShelfPlays (S70 S104 S115 k70 k104 k115)

/-- one call of a script -/
structure Op1 where
  kind : Int
  which : Int
  nm : ByteArray
  ver : Int
  dat : List Int
structure OpAt (w : World) (a : Addr) (Ab : Option Addr) (nb cb : Nat) (o : Op1) : Prop where
  c0 : w.cell? a = some (.int .i64 o.kind)
  c1 : w.cell? ⟨a.block, a.off + 1, none⟩ = some (.int .i64 o.which)
  c2 : w.cell? ⟨a.block, a.off + 2, none⟩ = some (.string o.nm)
  c3 : w.cell? ⟨a.block, a.off + 3, none⟩ = some (.int .i64 o.ver)
  c4 : w.cell? ⟨a.block, a.off + 4, none⟩ = some (.slice Ab nb cb)
  rd : RdA w (.slice Ab nb cb) o.dat
  len : o.dat.length = nb
  dat : o.dat.length ≤ 140737488351232
  nm : o.nm.size ≤ 140737488351232
  ver : (Lit.int .i64 o.ver).wf = true
  which : (Lit.int .i64 o.which).wf = true
/-- the script, as it came in -/
def Script (w : World) (A : Option Addr) (n : Nat) (ops : List Op1) : Prop := ops.length = n ∧ ∀ i o, ops[i]? = some o → ∃ ad Ab nb cb, A = some ad ∧ OpAt w (ad.add (i * 5)) Ab nb cb o
theorem cell_in {w : World} {a : Addr} {v : Value} (h : w.cell? a = some v) : a.block < w.heap.size := by
  by_cases hg : a.block < w.heap.size
  · exact hg
  · have h2 : w.heap[a.block]? = none := Array.getElem?_eq_none (by omega)
    simp [World.cell?, h2] at h
theorem cell_below {w w' : World} {a : Addr} {v : Value} (h : w.cell? a = some v) (hb : Below w.heap.size w w') : w'.cell? a = some v :=
  (World.cell?_of_block (hb.block _ (cell_in h))).trans h
theorem OpAt.below {w w' : World} {a : Addr} {Ab : Option Addr} {nb cb : Nat} {o : Op1} (t : OpAt w a Ab nb cb o) (hb : Below w.heap.size w w') : OpAt w' a Ab nb cb o :=
  ⟨cell_below t.c0 hb, cell_below t.c1 hb, cell_below t.c2 hb, cell_below t.c3 hb, cell_below t.c4 hb, t.rd.far (S := fun _ => False) (Same.below hb) (fun _ _ _ h => h), t.len, t.dat, t.nm, t.ver, t.which⟩
theorem slot_c (a : Int) (hw : (Lit.int .i64 a).wf = true) (w : World) : ∃ k : Nat, k < 8 ∧ Calls Tryz.prog 7 #[.int .i64 a] w fun e w' => e = .returned (.int .i64 (k : Int)) ∧ ∃ q, w' = w.drewN q := by
  have hr : -9223372036854775808 ≤ a ∧ a ≤ 9223372036854775807 := by
    simp [Lit.wf] at hw
    exact hw
  have key : ∃ k : Nat, k < 8 ∧ PShelfPlays.heddlelaw27_slot.f a = some (k : Int) := by
    unfold PShelfPlays.heddlelaw27_slot.f
    by_cases h : a < 0
    · rw [if_pos h]
      have e : wrap64 ((-1) - a) = -1 - a := by unfold wrap64; omega
      rw [e, Int.tmod_eq_emod_of_nonneg (by omega)]
      refine ⟨((-1 - a) % 8).toNat, by omega, by congr 1; omega⟩
    · rw [if_neg h, Int.tmod_eq_emod_of_nonneg (by omega)]
      refine ⟨(a % 8).toNat, by omega, by congr 1; omega⟩
  obtain ⟨k, hk, hf⟩ := key
  refine ⟨k, hk, (PShelfPlays.heddlelaw27_slot.calls a k w hf).mono ?_⟩
  rintro e w' ⟨rfl, ⟨⟨q, rfl⟩⟩⟩
  exact ⟨rfl, q, rfl⟩
theorem KP.start (w w1 : World) (hb : Below w.heap.size w w1) (one two : Int) :
    KP w ((((w1.alloc (.cells #[.slice none 0 0] 27)).alloc (.cells #[.int .i64 one, .int .i64 two] 28)).alloc (.cells (psC fun _ => .none) 33)).alloc (.cells (thC fun _ => .none) 34)) w1.heap.size none 0 (w1.heap.size + 1) (w1.heap.size + 1 + 1) (w1.heap.size + 1 + 1 + 1) one two (fun _ => .none) := by
  have hz := hb.size
  have key : ∀ (W : World) (o o2 : Obj) (k : Nat), W.heap[k]? = some o → (W.alloc o2).heap[k]? = some o := fun W o o2 k h => by rw [Below.heap_alloc W _ _ (at_lt h)]; exact h
  refine ⟨?_, ⟨?_, .inl ⟨rfl, rfl⟩, hz⟩, ⟨by omega, by omega, by omega⟩, ?_, ?_, ?_, fun _ _ => trivial, (fun _ _ _ h => h.elim), (fun _ _ _ _ _ _ h => h.elim), (fun x hx => by cases hx), ⟨by omega, by omega, by omega, by omega, by omega, by omega⟩⟩
  · exact (((hb.alloc hz _).alloc (by simp; omega) _).alloc (by simp; omega) _).alloc (by simp; omega) _
  · exact key _ _ _ _ (key _ _ _ _ (key _ _ _ _ (alloc_is w1 _)))
  · refine key _ _ _ _ (key _ _ _ _ ?_)
    have := alloc_is (w1.alloc (.cells #[.slice none 0 0] 27)) (.cells #[.int .i64 one, .int .i64 two] 28)
    simpa using this
  · refine key _ _ _ _ ?_
    have := alloc_is ((w1.alloc (.cells #[.slice none 0 0] 27)).alloc (.cells #[.int .i64 one, .int .i64 two] 28)) (.cells (psC fun _ => .none) 33)
    simpa using this
  · have := alloc_is (((w1.alloc (.cells #[.slice none 0 0] 27)).alloc (.cells #[.int .i64 one, .int .i64 two] 28)).alloc (.cells (psC fun _ => .none) 33)) (.cells (thC fun _ => .none) 34)
    simpa using this
/-- what can be read at the seats -/
theorem KP.cells {w0 w : World} {h rb pb tb n0 : Nat} {A : Option Addr} {one two : Int} {S : Nat → Seat} (t : KP w0 w h A n0 rb pb tb one two S) :
    (w.cell? ⟨rb, 0, none⟩ = some (.int .i64 one) ∧ w.cell? ⟨rb, 1, none⟩ = some (.int .i64 two)) ∧ (∀ k, k < 8 → w.cell? ⟨pb, k * 2, none⟩ = some (.pointer (S k).sa) ∧ w.cell? ⟨pb, k * 2 + 1, none⟩ = some (.pointer (S k).ra) ∧ w.cell? ⟨tb, k, none⟩ = some (.bool (S k).th)) ∧ (∀ i, w.frozen? ⟨pb, i, none⟩ = false) ∧ ∀ i, w.frozen? ⟨tb, i, none⟩ = false := by
  refine ⟨⟨?_, ?_⟩, fun k hk => ⟨?_, ?_, ?_⟩, fun i => Lib.frozen_of_heap t.ps _, fun i => Lib.frozen_of_heap t.th _⟩
  · rw [Lib.cell_of_heap t.rs]; rfl
  · rw [Lib.cell_of_heap t.rs]; rfl
  · rw [Lib.cell_of_heap t.ps]; exact (psC_at S hk).1
  · rw [Lib.cell_of_heap t.ps]; exact (psC_at S hk).2
  · rw [Lib.cell_of_heap t.th]; exact thC_at S hk
theorem KP.openAt {w0 w w2 : World} {h rb pb tb n0 : Nat} {A : Option Addr} {one two : Int} {S : Nat → Seat} {t : Int} (hK : KP w0 w h A n0 rb pb tb one two S ∧ ∀ k, k < 8 → (S k).touch ≤ t) (ht : 0 ≤ t) {k : Nat} (hk : k < 8) {s : Seat} (hth : s.th = true) (hb : Below w.heap.size w w2) (hs : s.Is w.heap.size w2) (h0 : s.touch = 0) (o : Obj) :
    KP w0 ((((w2.alloc o).setCell ⟨pb, k * 2, none⟩ (.pointer s.sa)).setCell ⟨pb, k * 2 + 1, none⟩ (.pointer s.ra)).setCell ⟨tb, k, none⟩ (.bool true)) h A n0 rb pb tb one two (upd S k s) ∧ ∀ j, j < 8 → (upd S k s j).touch ≤ t := by
  refine ⟨?_, fun j hj => ?_⟩
  · have hba := below_alloc w2 o
    have h1 := hK.1.seat hk (s := s) (hb.trans (hba.mono hb.size)) (hs.off (S := fun _ => False) (Same.below hba) fun _ _ => id)
    rw [hth] at h1
    exact h1
  · by_cases e : j = k
    · subst e
      rw [upd_self, h0]
      exact ht
    · rw [upd_ne S s e]
      exact hK.2 j hj
theorem sorted_len (L : Lay) : (sortedN L).length = L.ms.length := by unfold sortedN; simp
theorem told_small {kind ver tv te : Int} {nm : ByteArray} {dat tdat : List Int} {L L' : Lay} {tl : List LM} (h : ToldR kind nm ver dat L L' tdat tv tl te) (g : Good L) (hf : L.ms.length ≤ 256) : L'.touch ≤ L.touch + 1 ∧ tdat.length ≤ 2000000000000 ∧ tl.length ≤ 256 := by
  have put1 : ∀ {v er : Int}, Put1 L L' nm v dat er → L'.touch ≤ L.touch + 1 := fun h => by
    rcases h with ⟨_, _, rfl⟩ | ⟨_, _, i, new, hl⟩
    · omega
    · rw [hl.touch]; omega
  unfold ToldR at h
  split at h
  · obtain ⟨rfl, rfl, hP⟩ := h
    refine ⟨?_, by simp, by simp⟩
    rcases hP with ⟨_, _, _, rfl⟩ | ⟨_, _, _, _, rfl⟩ | ⟨_, _, _, _, _, rfl⟩ | ⟨_, _, _, _, hP⟩
    · omega
    · omega
    · omega
    · exact put1 hP
  split at h
  · obtain ⟨rfl, _, rfl, hP⟩ := h
    refine ⟨?_, by simp, by simp⟩
    rcases hP with ⟨_, _, rfl⟩ | ⟨_, _, _, rfl⟩ | ⟨_, _, _, _, rfl⟩ | ⟨_, _, _, _, _, rfl⟩ | ⟨_, _, _, _, hP⟩
    · omega
    · omega
    · omega
    · omega
    · exact put1 hP
  split at h
  · obtain ⟨rfl, rfl, _, rfl, _⟩ := h
    unfold Lay.take
    split
    · exact ⟨by simp; omega, by simp, by simp⟩
    · rename_i m hm
      split
      · exact ⟨by simp; omega, by simp, by simp⟩
      · have h1 := g.size_le (find_mem hm).1
        have h2 := g.fits
        have h3 := g.room
        refine ⟨Int.le_refl _, ?_, by simp⟩
        simp
        omega
  split at h
  · obtain ⟨rfl, _, rfl, rfl, _⟩ := h
    refine ⟨?_, by simp, by simp⟩
    unfold Lay.give
    split
    · simp; omega
    · split <;> (simp; omega)
  split at h
  · obtain ⟨rfl, _, rfl, rfl, _⟩ := h
    refine ⟨?_, by simp, by simp⟩
    unfold Lay.dropM
    split
    · simp; omega
    · split
      · simp; omega
      · rw [(rem_same L _).2.2.1]; omega
  split at h
  · obtain ⟨rfl, _, rfl, rfl, _⟩ := h
    exact ⟨by omega, by simp, by rw [sorted_len]; exact hf⟩
  · obtain ⟨rfl, _, rfl, rfl, _⟩ := h
    exact ⟨by omega, by simp, by simp⟩
/-- told's answer, behind the document's call -/
theorem told_kept {w3 w5 : World} {F : Nat → Prop} {b : Nat} {At Al : Option Addr} {nt ct nl cl : Nat} {tdat : List Int} {tls : List LM} (hrd : RdB w3 (.slice At nt ct) tdat) (hro : ∀ k, At.map (·.block) = some k → b ≤ k) (hls : OwnRow RL 70 4 w3 b (.slice Al nl cl) tls) (hs : Same F w3 w5) (hF : ∀ k, F k → k < b) (hd : tdat.length ≤ 2000000000000) :
    BytesAt w5 At nt ct tdat ∧ HeldAt w5 Al nl cl tls := by
  constructor
  · exact bytes_C (hrd.toA.fresh hs fun k hk e => by have h1 := hro k hk; have h2 := hF k e; omega) (by omega)
  · obtain ⟨inner, h1, h2⟩ := hls
    exact HeldAt.own ⟨inner, row_farN h1 hs fun k hk e => by have h3 := (row_tyN h1 hk).1; have h4 := hF k e; omega, h2⟩
/-- the round's world, from told to the end: the seats, the pair's block -/
structure MidW (w0 w5 : World) (h rb pb tb : Nat) (one two : Int) (S : Nat → Seat) (k p g pk : Nat) (L' : Lay) (F' : Nat → Prop) (A' : Option Addr) (n' : Nat) : Prop where
  kp : KP w0 w5 h A' n' rb pb tb one two (upd S k (.on p g L' F'))
  pair : w5.heap[pk]? = some (.cells #[.pointer (some ⟨p, 0, none⟩), .pointer (some ⟨g, 0, none⟩)] 32 (0, 0))
  far : ¬ Foot p L' pk
section
variable {w0 w w3 w4 w5 w6 w7 : World} {h rb pb tb n0 n' p g k pk : Nat} {A A' : Option Addr} {one two : Int} {S : Nat → Seat} {L L' : Lay} {F F' : Nat → Prop}
theorem KP.mid (t : KP w0 w h A n0 rb pb tb one two S) (hk : k < 8) (hS : S k = .on p g L F) {wA : World} (hbA : Below w.heap.size w wA) (hpk : wA.heap[w.heap.size]? = some (.cells #[.pointer (some ⟨p, 0, none⟩), .pointer (some ⟨g, 0, none⟩)] 32 (0, 0))) (hzA : wA.heap.size = w.heap.size + 1) (hat : At w0.heap.size w3 p L' h A' n') (mv : Move wA w3 p L L' h A A')
    (hb : Below w3.heap.size w3 w4) (hr : RefTo w0.heap.size g F w4 w5 L') : ∃ F', RefL w0.heap.size w5 g F' L' ∧ MidW w0 w5 h rb pb tb one two S k p g w.heap.size L' F' A' n' ∧ Same F w3 w5 ∧ ∀ x, F x → x < wA.heap.size := by
  have tA := t.below_ hbA
  obtain ⟨at0, rl0, lr0, dis0, fd0⟩ := tA.at hk hS
  have fr : ∀ x, F x → x < w.heap.size := fun x hx => by
    have := (t.is k hk).range (k := x) (by rw [hS]; exact .inr hx)
    exact this.2
  have f2r : ∀ x, Foot2 p L h A x → x < w.heap.size := fun x hx => by
    rcases hx with hx | rfl | hx
    · have := (t.is k hk).range (k := x) (by rw [hS]; exact .inl hx)
      exact this.2
    · exact at_lt t.hand.blk
    · exact (t.hand.lt2 hx).2
  obtain ⟨F', rl, kp⟩ := tA.round hk hS hat mv hb hr
  obtain ⟨F2, ⟨sr, _⟩, _⟩ := hr
  have sF : Same F w3 w5 := (Same.below hb).trans sr
  refine ⟨F', rl, ⟨kp, ?_, fun e => ?_⟩, sF, fun x hx => by have := fr x hx; omega⟩
  · refine sF.at (mv.1.at hpk fun e => ?_) fun e => by have := fr _ e; omega
    rcases e with e | e
    · have := f2r _ (.inl (.inl e)); omega
    · have := f2r _ (.inr e); omega
  · rcases mv.2 _ (.inl e) with h1 | h1
    · have := f2r _ h1; omega
    · omega
theorem MidW.below (t : MidW w0 w5 h rb pb tb one two S k p g pk L' F' A' n') (hb : Below w5.heap.size w5 w6) : MidW w0 w6 h rb pb tb one two S k p g pk L' F' A' n' :=
  ⟨t.kp.below_ hb, (Same.below (S := fun _ => False) hb).at t.pair id, t.far⟩
theorem MidW.step (t : MidW w0 w5 h rb pb tb one two S k p g pk L' F' A' n') (hk : k < 8) (st : Step w0.heap.size w5 w6 p L' L') (hr : Rest w0.heap.size w6 p L') : MidW w0 w6 h rb pb tb one two S k p g pk L' F' A' n' :=
  ⟨t.kp.step hk (upd_self S k _) st hr, st.1.at t.pair fun e => t.far (.inl e), t.far⟩
theorem MidW.at (t : MidW w0 w5 h rb pb tb one two S k p g pk L' F' A' n') (hk : k < 8) : Rest w0.heap.size w5 p L' ∧ RefL w0.heap.size w5 g F' L' ∧ LRest L' := by
  have h1 := t.kp.at hk (upd_self S k _)
  exact ⟨h1.1.rest, h1.2.1, h1.2.2.1⟩
theorem MidW.cells (t : MidW w0 w5 h rb pb tb one two S k p g pk L' F' A' n') : w5.cell? ⟨pk, 0, none⟩ = some (.pointer (some ⟨p, 0, none⟩)) ∧ w5.cell? ⟨pk, 1, none⟩ = some (.pointer (some ⟨g, 0, none⟩)) := by
  constructor
  · rw [Lib.cell_of_heap t.pair]; rfl
  · rw [Lib.cell_of_heap t.pair]; rfl
end
def ToldQ (B p h : Nat) (L : Lay) (A : Option Addr) (w : World) (kind : Int) (nm : ByteArray) (ver : Int) (dat : List Int) (e : Ending) (w' : World) : Prop :=
  ∃ L' A' n' At1 nt ct tdat tv Al1 nl cl tls te, e = .returned (.tuple #[.agg #[.slice At1 nt ct, .int .i64 tv, .slice Al1 nl cl, .int .i64 te], .bool true]) ∧ At B w' p L' h A' n' ∧ Move w w' p L L' h A A' ∧ ToldR kind nm ver dat L L' tdat tv tls te ∧
    RdB w' (.slice At1 nt ct) tdat ∧ (∀ k, At1.map (·.block) = some k → w.heap.size ≤ k ∧ k < w'.heap.size ∧ ¬ Foot2 p L' h A' k) ∧ OwnRow RL 70 4 w' w.heap.size (.slice Al1 nl cl) tls ∧ (∀ k, Al1.map (·.block) = some k → ¬ Foot2 p L' h A' k) ∧ w'.ownsRow w.heap.size 5 1 (.slice At1 nt ct) tdat.length (tdat.map encB)
theorem ToldP.q {B p h : Nat} {L : Lay} {A : Option Addr} {w w' : World} {kind ver : Int} {nm : ByteArray} {dat : List Int} {e : Ending} (t : ToldP B p h L A w kind nm ver dat e w') : ToldQ B p h L A w kind nm ver dat e w' := by
  obtain ⟨L', A', n', tb, tdat, tv, tl, tls, te, he, hat, mv, hR, hrd, hrdo, hls, hlso, hown⟩ := t
  obtain ⟨At1, ct1, rfl⟩ := hrd.len
  obtain ⟨Al1, cl1, rfl, _⟩ := hls.reads
  exact ⟨L', A', n', At1, _, ct1, tdat, tv, Al1, _, cl1, tls, te, he, hat, mv, hR, hrd, fun k hk => hrdo k (by rw [block_map]; exact hk), hls, fun k hk => hlso k (by rw [block_map]; exact hk), hown⟩
/-- what told leaves, its answer in a block of its own -/
structure ToldS (B p h : Nat) (L : Lay) (A : Option Addr) (wA : World) (kind : Int) (nm : ByteArray) (ver : Int) (dat : List Int) (w4 : World) (tk : Nat) (L' : Lay) (A' : Option Addr) (n' : Nat) (At1 : Option Addr) (nt ct : Nat) (tdat : List Int) (tv : Int) (Al1 : Option Addr) (nl cl : Nat) (tls : List LM) (te : Int) : Prop where
  at_ : At B w4 p L' h A' n'
  mv : Move wA w4 p L L' h A A'
  told : ToldR kind nm ver dat L L' tdat tv tls te
  rd : RdB w4 (.slice At1 nt ct) tdat
  rdo : ∀ k, At1.map (·.block) = some k → wA.heap.size ≤ k
  ls : OwnRow RL 70 4 w4 wA.heap.size (.slice Al1 nl cl) tls
  b : w4.heap[tk]? = some (.cells (tdC (.slice At1 nt ct) tv (.slice Al1 nl cl) te) 43 (0, 0))
  lo : wA.heap.size ≤ tk
  toff : ¬ Foot p L' tk
  own : w4.ownsRow wA.heap.size 5 1 (.slice At1 nt ct) tdat.length (tdat.map encB)
  aoff : ∀ k, At1.map (·.block) = some k → ¬ Foot2 p L' h A' k
  loff : ∀ k, Al1.map (·.block) = some k → ¬ Foot2 p L' h A' k
  toff2 : ¬ Foot2 p L' h A' tk
  bown : ∀ k, At1.map (·.block) = some k ∨ Al1.map (·.block) = some k → k ≠ tk
abbrev put4 (w : World) (t : Nat) (a b c d : Value) : World := (((w.setCell ⟨t, 0, none⟩ a).setCell ⟨t, 1, none⟩ b).setCell ⟨t, 2, none⟩ c).setCell ⟨t, 3, none⟩ d
theorem put4_same (w : World) (t : Nat) (a b c d : Value) : Same (fun k => k = t) w (put4 w t a b c d) := (((same9 _ _ 0 _).trans (same9 _ _ 1 _)).trans (same9 _ _ 2 _)).trans (same9 _ _ 3 _)
def ToldA (B p h : Nat) (L : Lay) (A : Option Addr) (wA : World) (kind : Int) (nm : ByteArray) (ver : Int) (dat : List Int) (e : Ending) (w' : World) : Prop :=
  ∃ L' A' n' At1 nt ct tdat tv Al1 nl cl tls te, e = .returned (.tuple #[.agg #[.slice At1 nt ct, .int .i64 tv, .slice Al1 nl cl, .int .i64 te], .bool true]) ∧
    Hid (ToldS B p h L A wA kind nm ver dat (w'.alloc (.cells (tdC (.slice At1 nt ct) tv (.slice Al1 nl cl) te) 43)) w'.heap.size L' A' n' At1 nt ct tdat tv Al1 nl cl tls te)
def ToldB (B p h : Nat) (L : Lay) (A : Option Addr) (wA : World) (kind : Int) (nm : ByteArray) (ver : Int) (dat : List Int) (e : Ending) (w' : World) : Prop :=
  ∃ L' A' n' At1 nt ct tdat tv Al1 nl cl tls te, e = .returned (.tuple #[.agg #[.slice At1 nt ct, .int .i64 tv, .slice Al1 nl cl, .int .i64 te], .bool true]) ∧
    (w'.cell? ⟨wA.heap.size, 0, none⟩ = some (.slice none 0 0) ∧ w'.cell? ⟨wA.heap.size, 1, none⟩ = some (.int .i64 0) ∧ w'.cell? ⟨wA.heap.size, 2, none⟩ = some (.slice none 0 0) ∧ w'.cell? ⟨wA.heap.size, 3, none⟩ = some (.int .i64 0)) ∧
    (w'.frozen? ⟨wA.heap.size, 0, none⟩ = false ∧ w'.frozen? ⟨wA.heap.size, 1, none⟩ = false ∧ w'.frozen? ⟨wA.heap.size, 2, none⟩ = false ∧ w'.frozen? ⟨wA.heap.size, 3, none⟩ = false) ∧
    Hid (ToldS B p h L A wA kind nm ver dat (put4 w' wA.heap.size (.slice At1 nt ct) (.int .i64 tv) (.slice Al1 nl cl) (.int .i64 te)) wA.heap.size L' A' n' At1 nt ct tdat tv Al1 nl cl tls te)
theorem At.far3 {B p h n0 : Nat} {A : Option Addr} {L : Lay} {w w' : World} {P : Nat → Prop} (t : At B w p L h A n0) (hs : Same P w w') (hf : ∀ k, Foot2 p L h A k → ¬ P k) : At B w' p L h A n0 :=
  ⟨t.rest.off hs fun k hk => hf k (.inl hk), t.hand.far2 hs (hf h (.inr (.inl rfl))) fun k hk => hf k (.inr (.inr hk)), t.off⟩
theorem At.lt3 {B p h n0 : Nat} {A : Option Addr} {L : Lay} {w : World} (t : At B w p L h A n0) {k : Nat} (hk : Foot2 p L h A k) : k < w.heap.size := by
  rcases hk with hk | rfl | hk
  · exact t.rest.is.foot_lt hk
  · exact at_lt t.hand.blk
  · exact (t.hand.lt2 hk).2
section
variable {B p h n0 : Nat} {A : Option Addr} {L : Lay} {wA : World}
theorem told_a (atA : At B wA p L h A n0) (htc : L.touch < 4611686018427387904) (o : Op1) {ad : Addr} {Ab : Option Addr} {nb cb : Nat} (ho : OpAt wA ad Ab nb cb o) (hbo : ∀ k, Ab.map (·.block) = some k → o.dat ≠ [] → ¬ Foot2 p L h A k ∧ k < wA.heap.size) :
    Calls Tryz.prog 8 #[.pointer (some ⟨h, 0, none⟩), .pointer (some ⟨p, 0, none⟩), .agg (opC o.kind o.which o.nm o.ver (.slice Ab nb cb))] wA.drew (ToldA B p h L A wA o.kind o.nm o.ver o.dat) := by
  have hbd : Below wA.heap.size wA wA.drew := below_drewN (Below.refl _ _) 1
  have hoD := ho.below hbd
  refine (told_any B p h L A n0 wA.drew (atA.far3 (Same.below (S := fun _ => False) hbd) fun _ _ => id) htc o.kind o.which o.nm ho.nm o.ver ho.ver Ab nb cb o.dat ho.len hoD.rd ho.dat hbo).mono fun e w' hq => ?_
  obtain ⟨L', A', n', At1, nt, ct, tdat, tv, Al1, nl, cl, tls, te, he, hat, mv, hR, hrd, hrdo, hls, hlso, hown⟩ := hq.q
  have hb := below_alloc w' (.cells (tdC (.slice At1 nt ct) tv (.slice Al1 nl cl) te) 43)
  have hsz : wA.heap.size ≤ w'.heap.size := mv.1.2.2.2.1
  refine ⟨L', A', n', At1, nt, ct, tdat, tv, Al1, nl, cl, tls, te, he, Lib.hid ⟨hat.far3 (Same.below (S := fun _ => False) hb) fun _ _ => id, ⟨((Same.below hbd).trans mv.1).trans (Same.below hb), mv.2⟩, hR, hrd.far (Same.below (S := fun _ => False) hb) fun _ _ => id, fun k hk => (hrdo k hk).1, ?_, alloc_is w' _, hsz, (fun e => by have := hat.rest.is.foot_lt e; omega), World.ownsRow.mono (row_farN hown (Same.below (S := fun _ => False) hb) fun _ _ => id) (Nat.le_refl _), fun k hk => (hrdo k hk).2.2, hlso, (fun e => by have := hat.lt3 e; omega), fun k hk e => ?_⟩⟩
  · obtain ⟨inner, h1, h2⟩ := hls
    exact ⟨inner, row_farN h1 (Same.below (S := fun _ => False) hb) fun _ _ => id, h2⟩
  · subst e
    rcases hk with hk | hk
    · have := (hrdo _ hk).2.1; omega
    · obtain ⟨inner, h1, h2⟩ := hls
      have := at_lt (row_tyN h1 (j := w'.heap.size) (by rw [block_map]; exact hk)).2.choose_spec
      omega
theorem told_b (atA : At B wA p L h A n0) (htc : L.touch < 4611686018427387904) (o : Op1) {ad : Addr} {Ab : Option Addr} {nb cb : Nat} (ho : OpAt wA ad Ab nb cb o) (hbo : ∀ k, Ab.map (·.block) = some k → o.dat ≠ [] → ¬ Foot2 p L h A k ∧ k < wA.heap.size) :
    Calls Tryz.prog 8 #[.pointer (some ⟨h, 0, none⟩), .pointer (some ⟨p, 0, none⟩), .agg (opC o.kind o.which o.nm o.ver (.slice Ab nb cb))] (wA.alloc (.cells (tdC (.slice none 0 0) 0 (.slice none 0 0) 0) 43)).drew (ToldB B p h L A wA o.kind o.nm o.ver o.dat) := by
  have hbd : Below wA.heap.size wA (wA.alloc (.cells (tdC (.slice none 0 0) 0 (.slice none 0 0) 0) 43)).drew := (below_alloc wA _).trans ((below_drewN (Below.refl _ _) 1).mono (below_alloc wA (.cells (tdC (.slice none 0 0) 0 (.slice none 0 0) 0) 43)).size)
  have hzd : (wA.alloc (.cells (tdC (.slice none 0 0) 0 (.slice none 0 0) 0) 43)).drew.heap.size = wA.heap.size + 1 := by simp [World.drew]
  have hoD := ho.below hbd
  refine (told_any B p h L A n0 (wA.alloc (.cells (tdC (.slice none 0 0) 0 (.slice none 0 0) 0) 43)).drew (atA.far3 (Same.below (S := fun _ => False) hbd) fun _ _ => id) htc o.kind o.which o.nm ho.nm o.ver ho.ver Ab nb cb o.dat ho.len hoD.rd ho.dat (fun k hk hd => ⟨(hbo k hk hd).1, by have := (hbo k hk hd).2; omega⟩)).mono fun e w' hq => ?_
  obtain ⟨L', A', n', At1, nt, ct, tdat, tv, Al1, nl, cl, tls, te, he, hat, mv, hR, hrd, hrdo, hls, hlso, hown⟩ := hq.q
  have n0A : ¬ Foot2 p L h A wA.heap.size := fun e => by have := atA.lt3 e; omega
  have n0' : ¬ Foot2 p L' h A' wA.heap.size := fun e => by
    rcases mv.2 _ e with h1 | h1
    · exact n0A h1
    · omega
  have hb0 : (wA.alloc (.cells (tdC (.slice none 0 0) 0 (.slice none 0 0) 0) 43)).drew.heap[wA.heap.size]? = some (.cells (tdC (.slice none 0 0) 0 (.slice none 0 0) 0) 43 (0, 0)) := alloc_is wA _
  have hbk := mv.1.at hb0 fun e => n0A (by
    rcases e with e | e
    · exact .inl (.inl e)
    · exact .inr e)
  have hs4 := put4_same w' wA.heap.size (.slice At1 nt ct) (.int .i64 tv) (.slice Al1 nl cl) (.int .i64 te)
  have hzw : wA.heap.size + 1 ≤ w'.heap.size := by have := mv.1.2.2.2.1; omega
  refine ⟨L', A', n', At1, nt, ct, tdat, tv, Al1, nl, cl, tls, te, he, ⟨?_, ?_, ?_, ?_⟩, ⟨Lib.frozen_of_heap hbk _, Lib.frozen_of_heap hbk _, Lib.frozen_of_heap hbk _, Lib.frozen_of_heap hbk _⟩, Lib.hid ⟨hat.far3 hs4 fun k hk e => n0' (e ▸ hk), ⟨?_, fun k hk => ?_⟩, hR, hrd.far hs4 fun k hk e => ?_, fun k hk => ?_, ?_, ?_, Nat.le_refl _, (fun e => n0' (.inl e)), World.ownsRow.mono (row_farN hown hs4 fun k hk e => by have := (row_tyN hown hk).1; omega) (by omega), fun k hk => (hrdo k hk).2.2, hlso, n0', fun k hk e => ?_⟩⟩
  · rw [Lib.cell_of_heap hbk]; rfl
  · rw [Lib.cell_of_heap hbk]; rfl
  · rw [Lib.cell_of_heap hbk]; rfl
  · rw [Lib.cell_of_heap hbk]; rfl
  · have s1 : Same (fun k => Owned p L k ∨ k = h ∨ A.map (·.block) = some k) wA w' := (Same.below hbd).trans mv.1
    refine ⟨hs4.1.trans s1.1, hs4.2.1.trans s1.2.1, hs4.2.2.1.trans s1.2.2.1, Nat.le_trans s1.2.2.2.1 hs4.2.2.2.1, fun k hk hS => ?_⟩
    rw [hs4.2.2.2.2 k (Nat.lt_of_lt_of_le hk s1.2.2.2.1) (by omega)]
    exact s1.2.2.2.2 k hk hS
  · rcases mv.2 k hk with h1 | h1
    · exact .inl h1
    · right; omega
  · rw [block_map] at hk
    have := (hrdo k hk).1
    omega
  · have := (hrdo k hk).1
    omega
  · obtain ⟨inner, h1, h2⟩ := hls
    have h3 := row_farN h1 hs4 fun k hk e => by have := (row_tyN h1 hk).1; omega
    exact ⟨inner, World.ownsRow.mono h3 (by omega), h2⟩
  · exact YtancenklmfamnaaGreatW.PrintWords.blk_set (YtancenklmfamnaaGreatW.PrintWords.blk_set (YtancenklmfamnaaGreatW.PrintWords.blk_set (YtancenklmfamnaaGreatW.PrintWords.blk_set hbk 0 (.slice At1 nt ct)) 1 (.int .i64 tv)) 2 (.slice Al1 nl cl)) 3 (.int .i64 te)
  · subst e
    rcases hk with hk | hk
    · have := (hrdo _ hk).1; omega
    · obtain ⟨inner, h1, h2⟩ := hls
      have := (row_tyN h1 (j := wA.heap.size) (by rw [block_map]; exact hk)).1
      omega
end
/-- between told and the round's end: all that the next calls need -/
structure MidT (w0 w : World) (h rb pb tb : Nat) (one two : Int) (S : Nat → Seat) (k p g pk tk : Nat) (L' : Lay) (A' : Option Addr) (n' : Nat) (tdv : Array Value) : Prop where
  mid : ∃ F', MidW w0 w h rb pb tb one two S k p g pk L' F' A' n'
  tb : w.heap[tk]? = some (.cells tdv 43 (0, 0))
  toff : ¬ Foot p L' tk
/-- the cells that the region of the calls loads -/
def SW (pk p g tk : Nat) (At1 : Option Addr) (nt ct : Nat) (tv : Int) (Al1 : Option Addr) (nl cl : Nat) (te : Int) (a : Addr) (o : Op1) (Ab : Option Addr) (nb cb : Nat) (w : World) : Prop :=
  w.cell? ⟨pk, 0, none⟩ = some (.pointer (some ⟨p, 0, none⟩)) ∧ w.cell? ⟨pk, 1, none⟩ = some (.pointer (some ⟨g, 0, none⟩)) ∧
  w.cell? ⟨tk, 0, none⟩ = some (.slice At1 nt ct) ∧ w.cell? ⟨tk, 1, none⟩ = some (.int .i64 tv) ∧ w.cell? ⟨tk, 2, none⟩ = some (.slice Al1 nl cl) ∧ w.cell? ⟨tk, 3, none⟩ = some (.int .i64 te) ∧
  w.cell? a = some (.int .i64 o.kind) ∧ w.cell? ⟨a.block, a.off + 1, none⟩ = some (.int .i64 o.which) ∧ w.cell? ⟨a.block, a.off + 2, none⟩ = some (.string o.nm) ∧ w.cell? ⟨a.block, a.off + 3, none⟩ = some (.int .i64 o.ver) ∧ w.cell? ⟨a.block, a.off + 4, none⟩ = some (.slice Ab nb cb)
section
variable {w0 w w' wA w4 : World} {h rb pb tb n0 n' p g k pk tk : Nat} {A A' : Option Addr} {one two : Int} {S : Nat → Seat} {L L' : Lay} {F F' : Nat → Prop} {tdv : Array Value} {At1 Al1 Ab : Option Addr} {nt ct nl cl nb cb : Nat} {tv te : Int} {a : Addr} {o : Op1} {tdat : List Int} {tls : List LM}
theorem MidT.sw (t : MidT w0 w h rb pb tb one two S k p g pk tk L' A' n' (tdC (.slice At1 nt ct) tv (.slice Al1 nl cl) te)) (ho : OpAt w0 a Ab nb cb o) : SW pk p g tk At1 nt ct tv Al1 nl cl te a o Ab nb cb w := by
  obtain ⟨F', m⟩ := t.mid
  have h1 := ho.below m.kp.below
  refine ⟨m.cells.1, m.cells.2, ?_, ?_, ?_, ?_, h1.c0, h1.c1, h1.c2, h1.c3, h1.c4⟩ <;> (rw [Lib.cell_of_heap t.tb]; rfl)
theorem MidT.below (t : MidT w0 w h rb pb tb one two S k p g pk tk L' A' n' tdv) (hb : Below w.heap.size w w') : MidT w0 w' h rb pb tb one two S k p g pk tk L' A' n' tdv := by
  obtain ⟨F', m⟩ := t.mid
  exact ⟨⟨F', m.below hb⟩, (Same.below (S := fun _ => False) hb).at t.tb id, t.toff⟩
theorem MidT.step (t : MidT w0 w h rb pb tb one two S k p g pk tk L' A' n' tdv) (hk : k < 8) (st : Step w0.heap.size w w' p L' L') (hr : Rest w0.heap.size w' p L') : MidT w0 w' h rb pb tb one two S k p g pk tk L' A' n' tdv := by
  obtain ⟨F', m⟩ := t.mid
  exact ⟨⟨F', m.step hk st hr⟩, st.1.at t.tb fun e => t.toff (.inl e), t.toff⟩
theorem HeldAt.far {P : Nat → Prop} {b : Nat} {W W' : World} (h : OwnRow RL 70 4 W b (.slice Al1 nl cl) tls) (hs : Same P W W') (hP : ∀ k, P k → k < b) : HeldAt W' Al1 nl cl tls := by
  obtain ⟨inner, h1, h2⟩ := h
  exact HeldAt.own ⟨inner, row_farN h1 hs fun k hk e => by have h3 := (row_tyN h1 hk).1; have h4 := hP k e; omega, h2⟩
/-- wanted, behind told -/
theorem want_m (tA : KP w0 wA h A n0 rb pb tb one two S) (hk : k < 8) (hS : S k = .on p g L F) (t : KP w0 w h A n0 rb pb tb one two S) (hbA : Below w.heap.size w wA) (hpk : wA.heap[w.heap.size]? = some (.cells #[.pointer (some ⟨p, 0, none⟩), .pointer (some ⟨g, 0, none⟩)] 32 (0, 0))) (hzA : wA.heap.size = w.heap.size + 1)
    (ht : ToldS w0.heap.size p h L A wA o.kind o.nm o.ver o.dat w4 tk L' A' n' At1 nt ct tdat tv Al1 nl cl tls te) (ho : OpAt w0 a Ab nb cb o) (htc : L.touch < 4611686018427387904) :
    Calls Tryz.prog 10 #[.pointer (some ⟨g, 0, none⟩), .agg (opC o.kind o.which o.nm o.ver (.slice Ab nb cb))] w4.drew fun e w5 => ∃ A1 n1 c1 A2 n2 c2, e = .returned (.agg #[.slice A1 n1 c1, .int .i64 tv, .slice A2 n2 c2, .int .i64 te]) ∧
      Hid (MidT w0 w5 h rb pb tb one two S k p g w.heap.size tk L' A' n' (tdC (.slice At1 nt ct) tv (.slice Al1 nl cl) te) ∧ BytesAt w5 At1 nt ct tdat ∧ HeldAt w5 Al1 nl cl tls ∧ BytesAt w5 A1 n1 c1 tdat ∧ HeldAt w5 A2 n2 c2 tls) ∧ SW w.heap.size p g tk At1 nt ct tv Al1 nl cl te a o Ab nb cb w5 := by
  obtain ⟨atA, rlA, lrA, disA, fdA⟩ := tA.at hk hS
  have hsm := told_small ht.told lrA.good lrA.few
  have hbd : Below w4.heap.size w4 w4.drew := below_drewN (Below.refl _ _) 1
  have sF : Same (fun k => Foot2 p L h A k) wA w4.drew := (ht.mv.1.imp fun k hk => by
    rcases hk with hk | hk
    · exact .inl (.inl hk)
    · exact .inr hk).trans (Same.below hbd)
  have rl4 : RefL w0.heap.size w4.drew g F L := RefIs.off rlA sF fdA
  have hb4 : Below w0.heap.size w0 w4.drew := same_below tA.below sF fun x hx => (tA.range (by
    rcases hx with hx | rfl | hx
    · exact .inr (.inr (.inr (.inr (.inr ⟨k, hk, by rw [hS]; exact .inl hx⟩))))
    · exact .inl rfl
    · exact .inr (.inl hx))).1
  have ho4 := ho.below hb4
  refine (want_c rl4 lrA htc o.kind o.which o.nm ho.nm o.ver Ab nb cb o.dat ho.len ho4.rd ho.dat (fun x hx hd e => by
    have h1 := ho.rd.lt (k := x) (by rw [block_map]; exact hx) hd
    have h2 := (tA.is k hk).range (k := x) (by rw [hS]; exact .inr e)
    omega) L' tdat tv tls te ht.told hsm.2.1).mono fun e w5 hP => ?_
  obtain ⟨A1, n1, c1, A2, n2, c2, he, hto, hby, hhe, _⟩ := hP
  obtain ⟨F', rlF, m, sFx, fr⟩ := t.mid hk hS hbA hpk hzA ht.at_ ht.mv hbd hto
  have hT : MidT w0 w5 h rb pb tb one two S k p g w.heap.size tk L' A' n' (tdC (.slice At1 nt ct) tv (.slice Al1 nl cl) te) := ⟨⟨F', m⟩, sFx.at ht.b fun e => by have := fr _ e; have := ht.lo; omega, ht.toff⟩
  have hkp := told_kept ht.rd ht.rdo ht.ls sFx fr hsm.2.1
  exact ⟨A1, n1, c1, A2, n2, c2, he, Lib.hid ⟨hT, hkp.1, hkp.2, hby, hhe⟩, hT.sw ho⟩
/-- the list of the shelf -/
theorem list_m (t : MidT w0 w h rb pb tb one two S k p g pk tk L' A' n' (tdC (.slice At1 nt ct) tv (.slice Al1 nl cl) te)) (hk : k < 8) (ho : OpAt w0 a Ab nb cb o) :
    Calls Tryz.prog 12 #[.pointer (some ⟨p, 0, none⟩)] w fun e w' => ∃ A1 n1 c1, e = .returned (.slice A1 n1 c1) ∧ Hid (MidT w0 w' h rb pb tb one two S k p g pk tk L' A' n' (tdC (.slice At1 nt ct) tv (.slice Al1 nl cl) te) ∧ HeldAt w' A1 n1 c1 (sortedN L')) ∧ SW pk p g tk At1 nt ct tv Al1 nl cl te a o Ab nb cb w' := by
  obtain ⟨F', m⟩ := t.mid
  refine (list_yes (m.at hk).1).mono fun e w' ⟨v, he, hrow, st, hr⟩ => ?_
  obtain ⟨A1, c1, rfl, _⟩ := hrow.reads
  have t' := t.step hk st hr
  exact ⟨A1, _, c1, he, Lib.hid ⟨t', HeldAt.own hrow⟩, t'.sw ho⟩
/-- the document's -/
theorem rlist_m (t : MidT w0 w h rb pb tb one two S k p g pk tk L' A' n' (tdC (.slice At1 nt ct) tv (.slice Al1 nl cl) te)) (hk : k < 8) (ho : OpAt w0 a Ab nb cb o) {A1 : Option Addr} {n1 c1 : Nat} (h1 : HeldAt w A1 n1 c1 (sortedN L')) :
    Calls Tryz.prog 13 #[.pointer (some ⟨g, 0, none⟩)] w fun e w' => ∃ A2 n2 c2, e = .returned (.slice A2 n2 c2) ∧ Hid (MidT w0 w' h rb pb tb one two S k p g pk tk L' A' n' (tdC (.slice At1 nt ct) tv (.slice Al1 nl cl) te) ∧ HeldAt w' A1 n1 c1 (sortedN L') ∧ HeldAt w' A2 n2 c2 (sortedN L')) ∧ SW pk p g tk At1 nt ct tv Al1 nl cl te a o Ab nb cb w' := by
  obtain ⟨F', m⟩ := t.mid
  have mm := m.at hk
  refine (ref_list mm.2.1 mm.2.2).mono fun e w' ⟨A2, n2, c2, he, hb, hN⟩ => ?_
  have t' := t.below hb
  exact ⟨A2, n2, c2, he, Lib.hid ⟨t', h1.below hb, HeldAt.row hN⟩, t'.sw ho⟩
theorem eq_m (t : MidT w0 w h rb pb tb one two S k p g pk tk L' A' n' (tdC (.slice At1 nt ct) tv (.slice Al1 nl cl) te)) (ho : OpAt w0 a Ab nb cb o) (hd : tdat.length ≤ 2000000000000) (hl : tls.length ≤ 256) {A1 A2 A3 A4 : Option Addr} {n1 c1 n2 c2 n3 c3 n4 c4 : Nat}
    (h1 : BytesAt w A1 n1 c1 tdat) (h2 : HeldAt w A2 n2 c2 tls) (h3 : BytesAt w A3 n3 c3 tdat) (h4 : HeldAt w A4 n4 c4 tls) :
    Calls Tryz.prog 9 #[.agg #[.slice A1 n1 c1, .int .i64 tv, .slice A2 n2 c2, .int .i64 te], .agg #[.slice A3 n3 c3, .int .i64 tv, .slice A4 n4 c4, .int .i64 te]] w fun e w' => e = .returned (.bool true) ∧ Hid (MidT w0 w' h rb pb tb one two S k p g pk tk L' A' n' (tdC (.slice At1 nt ct) tv (.slice Al1 nl cl) te)) ∧ SW pk p g tk At1 nt ct tv Al1 nl cl te a o Ab nb cb w' :=
  (eq_c tv te hd (by omega) h1 h2 h3 h4).mono fun e w' ⟨he, hb⟩ => ⟨he, Lib.hid (t.below hb), (t.below hb).sw ho⟩
theorem Eq_m (t : MidT w0 w h rb pb tb one two S k p g pk tk L' A' n' (tdC (.slice At1 nt ct) tv (.slice Al1 nl cl) te)) (hk : k < 8) (ho : OpAt w0 a Ab nb cb o) {A2 A4 : Option Addr} {n2 c2 n4 c4 : Nat} (h2 : HeldAt w A2 n2 c2 (sortedN L')) (h4 : HeldAt w A4 n4 c4 (sortedN L')) :
    Calls Tryz.prog 11 #[.slice A2 n2 c2, .slice A4 n4 c4] w fun e w' => e = .returned (.bool true) ∧ Hid (MidT w0 w' h rb pb tb one two S k p g pk tk L' A' n' (tdC (.slice At1 nt ct) tv (.slice Al1 nl cl) te)) ∧ SW pk p g tk At1 nt ct tv Al1 nl cl te a o Ab nb cb w' := by
  obtain ⟨F', m⟩ := t.mid
  have hf := (m.at hk).2.2.few
  exact (Eq_c (by rw [sorted_len]; omega) h2 h4).mono fun e w' ⟨he, hb⟩ => ⟨he, Lib.hid (t.below hb), (t.below hb).sw ho⟩
theorem told_sw (tA : KP w0 wA h A n0 rb pb tb one two S) (hk : k < 8) (hS : S k = .on p g L F) (t : KP w0 w h A n0 rb pb tb one two S) (hbA : Below w.heap.size w wA) (hpk : wA.heap[w.heap.size]? = some (.cells #[.pointer (some ⟨p, 0, none⟩), .pointer (some ⟨g, 0, none⟩)] 32 (0, 0))) (hzA : wA.heap.size = w.heap.size + 1)
    (ht : ToldS w0.heap.size p h L A wA o.kind o.nm o.ver o.dat w4 tk L' A' n' At1 nt ct tdat tv Al1 nl cl tls te) (ho : OpAt w0 a Ab nb cb o) : SW w.heap.size p g tk At1 nt ct tv Al1 nl cl te a o Ab nb cb w4 := by
  have rng : ∀ x, Foot2 p L h A x → w0.heap.size ≤ x ∧ x < w.heap.size := fun x hx => t.range (by
    rcases hx with hx | rfl | hx
    · exact .inr (.inr (.inr (.inr (.inr ⟨k, hk, by rw [hS]; exact .inl hx⟩))))
    · exact .inl rfl
    · exact .inr (.inl hx))
  have sF : Same (fun k => Foot2 p L h A k) wA w4 := ht.mv.1.imp fun k hk => by
    rcases hk with hk | hk
    · exact .inl (.inl hk)
    · exact .inr hk
  have h1 := ho.below (same_below tA.below sF fun x hx => (rng x hx).1)
  have hp := sF.at hpk fun e => by have := (rng _ e).2; omega
  refine ⟨?_, ?_, ?_, ?_, ?_, ?_, h1.c0, h1.c1, h1.c2, h1.c3, h1.c4⟩
  · rw [Lib.cell_of_heap hp]; rfl
  · rw [Lib.cell_of_heap hp]; rfl
  all_goals (rw [Lib.cell_of_heap ht.b]; rfl)
end
end Go.Proofs.YtancenklmfamnaaGreat.Sh
