/- ShelfFresh: told, and then wanted, beside all the rest. -/
import Derived.Test.YtancenklmfamnaaGreatShFr6
set_option linter.unusedVariables false
set_option linter.unusedSimpArgs false
namespace Go.Proofs.YtancenklmfamnaaGreat.Sh
open Go.RowKit Go.Maps Go.Sort Go.Shelf
open Go.Proofs Go.MuLone
open Go.Proofs.YtancenklmfamnaaGreatW.PrintWords (Reps OwnRow Kd ReadsRow)
open PShelfPlays (S70 S104 S115 k70 k104 k115)

section
variable {B p h n0 : Nat} {A : Option Addr} {L : Lay} {wA : World}
theorem told_c (atA : At B wA p L h A n0) (htc : L.touch < 4611686018427387904) (o : Op1) {ad : Addr} {Ab : Option Addr} {nb cb : Nat} (ho : OpAt wA ad Ab nb cb o) (hbo : ∀ k, Ab.map (·.block) = some k → o.dat ≠ [] → ¬ Foot2 p L h A k ∧ k < wA.heap.size) :
    Calls Tryz.prog 8 #[.pointer (some ⟨h, 0, none⟩), .pointer (some ⟨p, 0, none⟩), .agg (opC o.kind o.which o.nm o.ver (.slice Ab nb cb))] wA (ToldA B p h L A wA o.kind o.nm o.ver o.dat) := by
  have hbd : Below wA.heap.size wA wA := Below.refl _ _
  have hoD := ho.below hbd
  refine (told_any B p h L A n0 wA (atA.far3 (Same.below (S := fun _ => False) hbd) fun _ _ => id) htc o.kind o.which o.nm ho.nm o.ver ho.ver Ab nb cb o.dat ho.len hoD.rd ho.dat hbo).mono fun e w' hq => ?_
  obtain ⟨L', A', n', At1, nt, ct, tdat, tv, Al1, nl, cl, tls, te, he, hat, mv, hR, hrd, hrdo, hls, hlso, hown⟩ := hq.q
  have hb := below_alloc w' (.cells (tdC (.slice At1 nt ct) tv (.slice Al1 nl cl) te) 43)
  have hsz : wA.heap.size ≤ w'.heap.size := mv.1.2.2.2.1
  refine ⟨L', A', n', At1, nt, ct, tdat, tv, Al1, nl, cl, tls, te, he, Lib.hid ⟨hat.far3 (Same.below (S := fun _ => False) hb) fun _ _ => id, ⟨((Same.below hbd).trans mv.1).trans (Same.below hb), mv.2⟩, hR, hrd.far (Same.below (S := fun _ => False) hb) fun _ _ => id, fun k hk => (hrdo k hk).1, ?_, alloc_is w' _, hsz, (fun e => by have := hat.rest.is.foot_lt e; omega), World.ownsRow.mono (row_farN hown (Same.below (S := fun _ => False) hb) fun _ _ => id) (Nat.le_refl _), fun k hk => (hrdo k hk).2.2, hlso, (fun e => by have := hat.lt3 e; omega), fun k hk e => ?_⟩⟩
  · obtain ⟨inner, h1, h2⟩ := hls
    exact ⟨inner, row_farN h1 (Same.below (S := fun _ => False) hb) fun _ _ => id, h2⟩
  · subst e
    rcases hk with hk | hk
    · have := (hrdo _ hk).2.1; omega
    · obtain ⟨inner, h1, h2⟩ := hls
      have := at_lt (row_tyN h1 (j := w'.heap.size) (by rw [block_map]; exact hk)).2.choose_spec
      omega
end
structure WK (w0 wA w4 W w5 : World) (p g h : Nat) (L : Lay) (F : Nat → Prop) (A : Option Addr) (L' : Lay) (F' : Nat → Prop) (A' : Option Addr) (n' : Nat) (a : An) (t : Tx) (b : An) : Prop where
  core : Core w0 w5 p g L' F' h A' n'
  foot : ∀ k, CF p L' h A' F' k → CF p L h A F k ∨ wA.heap.size ≤ k
  same : Same (CF p L h A F) wA w5
  sF : Same F w4 w5
  Fr : ∀ k, F k → k < wA.heap.size
  own : OwnAn w0.heap.size w5 a t
  low : ∀ k, a.blk k → wA.heap.size ≤ k
  off : ∀ k, a.blk k → ¬ CF p L' h A' F' k
  rd : RdA w5 (.slice b.a1 b.n1 b.c1) t.dat
  rdo : ∀ k, b.a1.map (·.block) = some k → W.heap.size ≤ k
  ls : Kd.N k70 70 w5 W.heap.size (fun k => W.heap.size ≤ k) (.slice b.a2 b.n2 b.c2) (t.ls.map h70)
  frsh : ∀ k, w4.heap.size ≤ k → k < W.heap.size → ¬ CF p L' h A' F' k
  up : w4.heap.size ≤ W.heap.size
  zero : ∀ k ob, W.heap[k]? = some ob → ¬ F k → w5.heap[k]? = some ob
  tch : L'.touch ≤ L.touch + 1
/-- an operation that is handed in -/
structure OpV (w : World) (Ab : Option Addr) (nb cb : Nat) (o : Op1) : Prop where
  rd : RdA w (.slice Ab nb cb) o.dat
  len : o.dat.length = nb
  dat : o.dat.length ≤ 140737488351232
  nm : o.nm.size ≤ 140737488351232
  ver : (Lit.int .i64 o.ver).wf = true
  which : (Lit.int .i64 o.which).wf = true
theorem OpV.below {w w' : World} {Ab : Option Addr} {nb cb : Nat} {o : Op1} (t : OpV w Ab nb cb o) (hb : Below w.heap.size w w') : OpV w' Ab nb cb o := ⟨t.rd.far (S := fun _ => False) (Same.below hb) (fun _ _ _ h => h), t.len, t.dat, t.nm, t.ver, t.which⟩
theorem OpV.at {W : World} {Ab : Option Addr} {nb cb : Nat} {o : Op1} (t : OpV W Ab nb cb o) {k : Nat} (hk : W.heap[k]? = some (.cells (opC o.kind o.which o.nm o.ver (.slice Ab nb cb)) 39 (0, 0))) : OpAt W ⟨k, 0, none⟩ Ab nb cb o := by
  refine ⟨?_, ?_, ?_, ?_, ?_, t.rd, t.len, t.dat, t.nm, t.ver, t.which⟩ <;> (rw [Lib.cell_of_heap hk]; rfl)
section
variable {w0 wA w4 W : World} {p g h n0 n' tk nt ct nl cl nb cb : Nat} {L L' : Lay} {F : Nat → Prop} {A A' At1 Al1 Ab : Option Addr} {o : Op1} {tdat : List Int} {tv te : Int} {tls : List LM}
theorem want_k (t : Core w0 wA p g L F h A n0) (ht : ToldS w0.heap.size p h L A wA o.kind o.nm o.ver o.dat w4 tk L' A' n' At1 nt ct tdat tv Al1 nl cl tls te) (hb4 : Below w4.heap.size w4 W) (ho : OpV w0 Ab nb cb o) (htc : L.touch < 4611686018427387904) :
    Calls Tryz.prog 10 #[.pointer (some ⟨g, 0, none⟩), .agg (opC o.kind o.which o.nm o.ver (.slice Ab nb cb))] W fun e w5 => ∃ A1 n1 c1 A2 n2 c2, e = .returned (.agg #[.slice A1 n1 c1, .int .i64 tv, .slice A2 n2 c2, .int .i64 te]) ∧
      Hid (∃ F', WK w0 wA w4 W w5 p g h L F A L' F' A' n' ⟨At1, nt, ct, Al1, nl, cl⟩ ⟨tdat, tv, tls, te⟩ ⟨A1, n1, c1, A2, n2, c2⟩) := by
  have hsm := told_small ht.told t.lr.good t.lr.few
  have sF4 : Same (fun k => Foot2 p L h A k) wA W := (ht.mv.1.imp fun k hk => by
    rcases hk with hk | hk
    · exact .inl (.inl hk)
    · exact .inr hk).trans (Same.below hb4)
  have rl4 : RefL w0.heap.size W g F L := RefIs.off t.rl sF4 t.off
  have hbW : Below w0.heap.size w0 W := same_below t.below sF4 fun x hx => (t.range (.inl hx)).1
  have hoW := ho.below hbW
  refine (want_c rl4 t.lr htc o.kind o.which o.nm ho.nm o.ver Ab nb cb o.dat ho.len hoW.rd ho.dat (fun x hx hd e => by
    have h1 := ho.rd.lt (k := x) (by rw [block_map]; exact hx) hd
    have h2 := t.range (k := x) (.inr e)
    omega) L' tdat tv tls te ht.told hsm.2.1).mono fun e w5 hP => ?_
  obtain ⟨A1, n1, c1, A2, n2, c2, he, hto, hby, hhe, hrdA, hrdo, hlsN⟩ := hP
  have hzero : ∀ k ob, W.heap[k]? = some ob → ¬ F k → w5.heap[k]? = some ob := fun k ob h1 h2 => at_far hto h1 h2
  obtain ⟨F', hc, hfoot, hsame, hsF, hF'⟩ := t.round ht.at_ ht.mv hb4 hto
  have Fr : ∀ k, F k → k < wA.heap.size := fun k hk => (t.range (.inr hk)).2
  have hw0 : w0.heap.size ≤ wA.heap.size := t.below.size
  have hlow : ∀ k, At1.map (·.block) = some k ∨ Al1.map (·.block) = some k → wA.heap.size ≤ k ∧ k < w4.heap.size := fun k hk => by
    rcases hk with hk | hk
    · obtain ⟨h1, c, h2⟩ := row_tyN ht.own (j := k) (by rw [block_map]; exact hk)
      exact ⟨h1, at_lt h2⟩
    · obtain ⟨inner, h3, _⟩ := ht.ls
      obtain ⟨h1, c, h2⟩ := row_tyN h3 (j := k) (by rw [block_map]; exact hk)
      exact ⟨h1, at_lt h2⟩
  have hrl : nt = tdat.length := by
    rcases ht.rd with ⟨h1, h2⟩ | ⟨g', cap', h1, _⟩
    · injection h1 with _ h1 _
      rw [h1, h2]; rfl
    · injection h1 with _ h1 _
  have hown : OwnAn w0.heap.size w4 ⟨At1, nt, ct, Al1, nl, cl⟩ ⟨tdat, tv, tls, te⟩ := by
    obtain ⟨inner, h3, h4⟩ := ht.ls
    exact ⟨hrl, by rw [hrl]; rw [hrl] at ht; exact World.ownsRow.mono ht.own hw0, ⟨inner, World.ownsRow.mono h3 hw0, h4⟩, hsm.2.1, hsm.2.2⟩
  refine ⟨A1, n1, c1, A2, n2, c2, he, Lib.hid ⟨F', ⟨hc, hfoot, hsame, hsF, Fr, hown.far hsF fun k hk e => ?_, fun k hk => (hlow k hk).1, fun k hk e => ?_, hrdA, hrdo, hlsN, fun k h1 h2 e => ?_, hb4.size, hzero, hsm.1⟩⟩⟩
  · have h1 := (hlow k hk).1
    have h2 := Fr k e
    omega
  · have h1 := hlow k hk
    have h4 := hb4.size
    rcases e with e | e
    · rcases hk with hk | hk
      · exact ht.aoff k hk e
      · exact ht.loff k hk e
    · rcases hF' k e with h2 | h2
      · have := Fr k h2; omega
      · omega
  · rcases e with e | e
    · have := ht.at_.lt3 e; omega
    · rcases hF' k e with h3 | h3
      · have := Fr k h3
        have h5 : wA.heap.size ≤ w4.heap.size := ht.mv.1.2.2.2.1
        omega
      · omega
end
end Go.Proofs.YtancenklmfamnaaGreat.Sh
