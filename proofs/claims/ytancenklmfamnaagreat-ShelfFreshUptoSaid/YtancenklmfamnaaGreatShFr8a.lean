/- ShelfFresh: asked. -/
import Derived.Test.YtancenklmfamnaaGreatShFr9
set_option linter.unusedVariables false
set_option linter.unusedSimpArgs false
namespace Go.Proofs.YtancenklmfamnaaGreat.Sh
open Go.RowKit Go.Maps Go.Sort Go.Shelf
open Go.Proofs Go.MuLone
open Go.Proofs.YtancenklmfamnaaGreatW.PrintWords (Reps OwnRow Kd ReadsRow)
open PShelfPlays (S70 S104 S115 k70 k104 k115)

/-- behind wanted -/
structure AskW (w0 wA w6 : World) (p g h : Nat) (L : Lay) (F : Nat → Prop) (A : Option Addr) (L' : Lay) (F' : Nat → Prop) (A' : Option Addr) (n' : Nat) (a : An) (t : Tx) (b : An) (tk tk2 : Nat) : Prop where
  core : Core w0 w6 p g L' F' h A' n'
  foot : ∀ k, CF p L' h A' F' k → CF p L h A F k ∨ wA.heap.size ≤ k
  same : Same (CF p L h A F) wA w6
  own : OwnAn w0.heap.size w6 a t
  low : ∀ k, a.blk k → wA.heap.size ≤ k
  off : ∀ k, a.blk k → ¬ CF p L' h A' F' k
  rd : BytesAt w6 b.a1 b.n1 b.c1 t.dat ∧ HeldAt w6 b.a2 b.n2 b.c2 t.ls
  tch : L'.touch ≤ L.touch + 1
  rb : RdA w6 (.slice b.a1 b.n1 b.c1) t.dat
  rbo : ∀ k, b.a1.map (·.block) = some k → wA.heap.size ≤ k
  lb : Kd.N k70 70 w6 wA.heap.size (fun k => wA.heap.size ≤ k) (.slice b.a2 b.n2 b.c2) (t.ls.map h70)
  lo1 : wA.heap.size ≤ tk
  lo2 : wA.heap.size ≤ tk2
  b1 : w6.heap[tk]? = some (.cells (tdC (.slice a.a1 a.n1 a.c1) t.v (.slice a.a2 a.n2 a.c2) t.e) 43 (0, 0))
  b2 : w6.heap[tk2]? = some (.cells (tdC (.slice b.a1 b.n1 b.c1) t.v (.slice b.a2 b.n2 b.c2) t.e) 43 (0, 0))
theorem AskW.of {w0 wA w4 W w5 w6 : World} {p g h n' tk tk2 : Nat} {L L' : Lay} {F F' : Nat → Prop} {A A' : Option Addr} {a b : An} {t : Tx} {P : Nat → Prop} (k : WK w0 wA w4 W w5 p g h L F A L' F' A' n' a t b) (hs : Same P w5 w6) (hP : ∀ x, P x → w4.heap.size ≤ x ∧ x < W.heap.size) (hw : wA.heap.size ≤ w4.heap.size) (h4 : ∀ x, a.blk x → x < w4.heap.size)
    (b1 : w6.heap[tk]? = some (.cells (tdC (.slice a.a1 a.n1 a.c1) t.v (.slice a.a2 a.n2 a.c2) t.e) 43 (0, 0))) (b2 : w6.heap[tk2]? = some (.cells (tdC (.slice b.a1 b.n1 b.c1) t.v (.slice b.a2 b.n2 b.c2) t.e) 43 (0, 0))) (hd : t.dat.length ≤ 2000000000000) (hw0 : w0.heap.size ≤ wA.heap.size) (hk1 : wA.heap.size ≤ tk) (hk2 : wA.heap.size ≤ tk2) : AskW w0 wA w6 p g h L F A L' F' A' n' a t b tk tk2 := by
  have hrd := k.rd.fresh hs fun x hx e => by have h1 := k.rdo x hx; have h2 := hP x e; omega
  have hN := Kd.N_step (w1 := w6) k.ls fun x hx hlt => hs.2.2.2.2 x hlt fun e => by have h2 := hP x e; have h3 : W.heap.size ≤ x := hx; omega
  refine ⟨k.core.off_ hs fun x hx => ⟨by have h2 := hP x hx; omega, k.frsh x (hP x hx).1 (hP x hx).2⟩, k.foot, ?_, k.own.far hs fun x hx e => by have h2 := hP x e; have h3 := h4 x hx; omega, k.low, k.off, ⟨bytes_C hrd (by omega), HeldAt.row hN⟩, k.tch, hrd, (fun x hx => by have h1 := k.rdo x hx; have h2 := k.up; omega), Kd.N_mono (Kd.N_lower hN (by have h2 := k.up; omega)) (fun x hx => by have h3 : W.heap.size ≤ x := hx; have h2 := k.up; omega), hk1, hk2, b1, b2⟩
  refine ⟨hs.1.trans k.same.1, hs.2.1.trans k.same.2.1, hs.2.2.1.trans k.same.2.2.1, Nat.le_trans k.same.2.2.2.1 hs.2.2.2.1, fun x hx hS => ?_⟩
  rw [hs.2.2.2.2 x (Nat.lt_of_lt_of_le hx k.same.2.2.2.1) fun e => by have h2 := hP x e; omega]
  exact k.same.2.2.2.2 x hx hS
section
variable {w0 wA w4 : World} {p g h n0 n' tk nt ct nl cl nb cb : Nat} {L L' : Lay} {F : Nat → Prop} {A A' At1 Al1 Ab : Option Addr} {o : Op1} {tdat : List Int} {tv te : Int} {tls : List LM}
theorem told_blk (ht : ToldS w0.heap.size p h L A wA o.kind o.nm o.ver o.dat w4 tk L' A' n' At1 nt ct tdat tv Al1 nl cl tls te) : ∀ x, An.blk ⟨At1, nt, ct, Al1, nl, cl⟩ x → x < w4.heap.size := fun k hk => by
  rcases hk with hk | hk
  · obtain ⟨h1, c, h2⟩ := row_tyN ht.own (j := k) (by rw [block_map]; exact hk)
    exact at_lt h2
  · obtain ⟨inner, h3, _⟩ := ht.ls
    obtain ⟨h1, c, h2⟩ := row_tyN h3 (j := k) (by rw [block_map]; exact hk)
    exact at_lt h2
theorem ask_a {W : World} (hW : Below w4.heap.size w4 W) (t : Core w0 wA p g L F h A n0) (ht : ToldS w0.heap.size p h L A wA o.kind o.nm o.ver o.dat w4 tk L' A' n' At1 nt ct tdat tv Al1 nl cl tls te) (ho : OpV w0 Ab nb cb o) (htc : L.touch < 4611686018427387904) :
    Calls Tryz.prog 10 #[.pointer (some ⟨g, 0, none⟩), .agg (opC o.kind o.which o.nm o.ver (.slice Ab nb cb))] W fun e w5 => ∃ A1 n1 c1 A2 n2 c2, e = .returned (.agg #[.slice A1 n1 c1, .int .i64 tv, .slice A2 n2 c2, .int .i64 te]) ∧
      Hid (∃ F', AskW w0 wA (w5.alloc (.cells (tdC (.slice A1 n1 c1) tv (.slice A2 n2 c2) te) 43)) p g h L F A L' F' A' n' ⟨At1, nt, ct, Al1, nl, cl⟩ ⟨tdat, tv, tls, te⟩ ⟨A1, n1, c1, A2, n2, c2⟩ tk w5.heap.size) := by
  refine (want_k t ht hW ho htc).mono fun e w5 ⟨A1, n1, c1, A2, n2, c2, he, H⟩ => ?_
  obtain ⟨F', k⟩ := H.out
  have hw : wA.heap.size ≤ w4.heap.size := ht.mv.1.2.2.2.1
  have hsm := told_small ht.told t.lr.good t.lr.few
  have htk := k.sF.at ht.b fun e => by have := k.Fr _ e; have := ht.lo; omega
  exact ⟨A1, n1, c1, A2, n2, c2, he, Lib.hid ⟨F', AskW.of k (Same.below (S := fun _ => False) (below_alloc w5 _)) (fun _ h => h.elim) hw (told_blk ht) ((Same.below (S := fun _ => False) (below_alloc w5 _)).at htk id) (alloc_is w5 _) hsm.2.1 t.below.size ht.lo (by have := k.same.2.2.2.1; omega)⟩⟩
end
/-- the answers kept, or not -/
structure AskZ (w0 w w6 wz : World) (p g h gq : Nat) (L : Lay) (F : Nat → Prop) (A : Option Addr) (gots wants : List An) (v1 v2 : Value) (L' : Lay) (F' : Nat → Prop) (A' : Option Addr) (n' : Nat) (a : An) (t : Tx) (b : An) (tk tk2 : Nat) (gots' wants' : List An) (ts' : List Tx) (v1' v2' : Value) (much' : Int) : Prop where
  core : Core w0 wz p g L' F' h A' n'
  qk : QK w0.heap.size wz gq gots' wants' ts' v1' v2' much'
  len : gots'.length ≤ gots.length + 1
  qf : ∀ k, QF gq gots' wants' v1' v2' k → QF gq gots wants v1 v2 k ∨ w.heap.size ≤ k
  qc : ∀ k, QF gq gots' wants' v1' v2' k → ¬ CF p L' h A' F' k
  ra : BytesAt wz a.a1 a.n1 a.c1 t.dat ∧ HeldAt wz a.a2 a.n2 a.c2 t.ls
  rb : BytesAt wz b.a1 b.n1 b.c1 t.dat ∧ HeldAt wz b.a2 b.n2 b.c2 t.ls
  b1 : wz.heap[tk]? = some (.cells (tdC (.slice a.a1 a.n1 a.c1) t.v (.slice a.a2 a.n2 a.c2) t.e) 43 (0, 0))
  b2 : wz.heap[tk2]? = some (.cells (tdC (.slice b.a1 b.n1 b.c1) t.v (.slice b.a2 b.n2 b.c2) t.e) 43 (0, 0))
  same : Same (fun k => k = gq ∨ v1.ownBlock = some k ∨ v2.ownBlock = some k) w6 wz
section
variable {w0 w wA w6 wz : World} {p g h gq n' tk tk2 : Nat} {L L' : Lay} {F F' : Nat → Prop} {A A' : Option Addr} {gots wants : List An} {ts : List Tx} {v1 v2 : Value} {much : Int} {a b : An} {t : Tx}
/-- what lies beside the quiet book -/
theorem AskW.move (k : AskW w0 wA w6 p g h L F A L' F' A' n' a t b tk tk2) (hs : Same (fun k => k = gq ∨ v1.ownBlock = some k ∨ v2.ownBlock = some k) w6 wz) (hS : ∀ x, (x = gq ∨ v1.ownBlock = some x ∨ v2.ownBlock = some x) → w0.heap.size ≤ x ∧ x < wA.heap.size ∧ ¬ CF p L h A F x) :
    Core w0 wz p g L' F' h A' n' ∧ OwnAn w0.heap.size wz a t ∧ (BytesAt wz b.a1 b.n1 b.c1 t.dat ∧ HeldAt wz b.a2 b.n2 b.c2 t.ls) ∧ wz.heap[tk]? = some (.cells (tdC (.slice a.a1 a.n1 a.c1) t.v (.slice a.a2 a.n2 a.c2) t.e) 43 (0, 0)) ∧ wz.heap[tk2]? = some (.cells (tdC (.slice b.a1 b.n1 b.c1) t.v (.slice b.a2 b.n2 b.c2) t.e) 43 (0, 0)) := by
  have hd := k.own.2.2.2.1
  refine ⟨k.core.off_ hs fun x hx => ⟨(hS x hx).1, fun e => ?_⟩, k.own.far hs fun x hx e => by have h1 := k.low x hx; have h2 := (hS x e).2.1; omega, ⟨bytes_C (k.rb.fresh hs fun x hx e => by have h1 := k.rbo x hx; have h2 := (hS x e).2.1; omega) (by omega), HeldAt.row (Kd.N_step (w1 := wz) k.lb fun x hx hlt => hs.2.2.2.2 x hlt fun e => by have h1 : wA.heap.size ≤ x := hx; have h2 := (hS x e).2.1; omega)⟩, hs.at k.b1 fun e => by have h1 := k.lo1; have h2 := (hS _ e).2.1; omega, hs.at k.b2 fun e => by have h1 := k.lo2; have h2 := (hS _ e).2.1; omega⟩
  have h1 := hS x hx
  rcases k.foot x e with h2 | h2
  · exact h1.2.2 h2
  · omega
/-- nothing kept -/
theorem ask_not (k : AskW w0 wA w6 p g h L F A L' F' A' n' a t b tk tk2) (hq : QK w0.heap.size w gq gots wants ts v1 v2 much) (hqc : ∀ k, QF gq gots wants v1 v2 k → ¬ CF p L h A F k) (hb : Below w.heap.size w wA) {q : Int} (hqz : QK w0.heap.size wz gq gots wants ts v1 v2 q) (hs : Same (fun k => k = gq) w6 wz) :
    AskZ w0 w w6 wz p g h gq L F A gots wants v1 v2 L' F' A' n' a t b tk tk2 gots wants ts v1 v2 q := by
  have hs' : Same (fun k => k = gq ∨ v1.ownBlock = some k ∨ v2.ownBlock = some k) w6 wz := hs.imp fun _ => .inl
  have hz := hb.size
  obtain ⟨m1, m2, m3, m4, m5⟩ := k.move hs' fun x hx => by
    have h1 : QF gq gots wants v1 v2 x := by
      rcases hx with hx | hx | hx
      · exact .inl hx
      · exact .inr (.inl hx)
      · exact .inr (.inr (.inl hx))
    exact ⟨(hq.range h1).1, by have := (hq.range h1).2; omega, hqc x h1⟩
  exact ⟨m1, hqz, by omega, fun k => .inl, fun x hx e => by
    rcases k.foot x e with h2 | h2
    · exact hqc x hx h2
    · have := (hq.range hx).2; omega, m2.reads, m3, m4, m5, hs'⟩
end
def AskEnd (w0 w w' : World) (p g h gq : Nat) (L : Lay) (F : Nat → Prop) (A : Option Addr) (gots wants : List An) (v1 v2 : Value) : Prop :=
  ∃ L' F' A' n' gots' wants' ts' v1' v2' much', Core w0 w' p g L' F' h A' n' ∧ L'.touch ≤ L.touch + 1 ∧ QK w0.heap.size w' gq gots' wants' ts' v1' v2' much' ∧ gots'.length ≤ gots.length + 1 ∧
    (∀ k, CF p L' h A' F' k → CF p L h A F k ∨ w.heap.size ≤ k) ∧ (∀ k, QF gq gots' wants' v1' v2' k → QF gq gots wants v1 v2 k ∨ w.heap.size ≤ k) ∧ (∀ k, QF gq gots' wants' v1' v2' k → ¬ CF p L' h A' F' k) ∧
    Same (fun k => CF p L h A F k ∨ k = gq ∨ v1.ownBlock = some k ∨ v2.ownBlock = some k) w w'
theorem ask_end {w0 w wA w6 wz w9 : World} {p g h gq n' tk tk2 : Nat} {L L' : Lay} {F F' : Nat → Prop} {A A' : Option Addr} {gots wants gots' wants' : List An} {ts ts' : List Tx} {v1 v2 v1' v2' : Value} {much much' : Int} {a b : An} {t : Tx}
    (k : AskW w0 wA w6 p g h L F A L' F' A' n' a t b tk tk2) (hq : QK w0.heap.size w gq gots wants ts v1 v2 much) (hb : Below w.heap.size w wA) (z : AskZ w0 w w6 wz p g h gq L F A gots wants v1 v2 L' F' A' n' a t b tk tk2 gots' wants' ts' v1' v2' much') (h9 : Below wz.heap.size wz w9) :
    AskEnd w0 w w9 p g h gq L F A gots wants v1 v2 := by
  have hz := hb.size
  refine ⟨L', F', A', n', gots', wants', ts', v1', v2', much', z.core.below_ h9, k.tch, z.qk.below_ h9, z.len, fun x hx => ?_, z.qf, z.qc, ?_⟩
  · rcases k.foot x hx with h1 | h1
    · exact .inl h1
    · right; omega
  · exact (((Same.below hb).trans (k.same.imp fun _ => .inl)).trans (z.same.imp fun x hx => .inr hx)).trans (Same.below h9)
section
variable {w0 w wx w9 w10 w11 : World} {A9 A10 A1 A2 : Option Addr} {c9 c10 c1 c2 n1 n2 gq tk2 : Nat} {tdat : List Int} {tls : List LM} {tv te q : Int} {gots wants : List An} {ts : List Tx} {v1 v2 : Value} {much : Int}
theorem keep_own (h9 : w9.ownsRow w0.heap.size 5 1 (.slice A9 tdat.length c9) tdat.length (tdat.map encB) ∧ Below wx.heap.size wx w9 ∧ ∀ k, A9.map (·.block) = some k → wx.heap.size ≤ k)
    (h10 : OwnRow RL 70 4 w10 w0.heap.size (.slice A10 tls.length c10) tls ∧ Below wx.heap.size wx w10 ∧ (∀ k, A10.map (·.block) = some k → w9.heap.size ≤ k) ∧ Below w9.heap.size w9 w10) (hdl : tdat.length ≤ 2000000000000) (htl : tls.length ≤ 256) : OwnAn w0.heap.size w10 ⟨A9, tdat.length, c9, A10, tls.length, c10⟩ ⟨tdat, tv, tls, te⟩ :=
  ⟨rfl, row_farN h9.1 (Same.below (S := fun _ => False) h10.2.2.2) fun _ _ => id, h10.1, hdl, htl⟩
theorem keep_low (h9 : w9.ownsRow w0.heap.size 5 1 (.slice A9 tdat.length c9) tdat.length (tdat.map encB) ∧ Below wx.heap.size wx w9 ∧ ∀ k, A9.map (·.block) = some k → wx.heap.size ≤ k)
    (h10 : OwnRow RL 70 4 w10 w0.heap.size (.slice A10 tls.length c10) tls ∧ Below wx.heap.size wx w10 ∧ (∀ k, A10.map (·.block) = some k → w9.heap.size ≤ k) ∧ Below w9.heap.size w9 w10) : ∀ k, An.blk ⟨A9, tdat.length, c9, A10, tls.length, c10⟩ k → wx.heap.size ≤ k := fun k hk => by
  rcases hk with hk | hk
  · exact h9.2.2 k hk
  · have := h10.2.2.1 k hk
    have := h9.2.1.size
    omega
theorem keep_off {a : An} {wA : World} (hq : QK w0.heap.size w gq gots wants ts v1 v2 much) (hlow : ∀ k, a.blk k → wA.heap.size ≤ k) {k : Nat} (hk : a.blk k) (e : QF gq gots wants v1 v2 k) (hz : w.heap.size ≤ wA.heap.size) : False := by
  have := hlow k hk
  have := (hq.range e).2
  omega
theorem keep_tk2 {B : Nat} {w6 w7 wA : World} {mk : Obj} {a : An} {t : Tx} {A8 : Option Addr} {c8 : Nat} {Aw : Option Addr} {cw : Nat} (hb : wx.heap[tk2]? = some (.cells (tdC (.slice A1 n1 c1) tv (.slice A2 n2 c2) te) 43 (0, 0))) (hm : Mid4 B gq w7 wx gots ts v1 (.slice Aw wants.length cw) q a t A8 c8) (hb10 : Below wx.heap.size wx w10) (h : (w10.alloc mk).grownBy w11 (Value.slice Aw wants.length cw).ownBlock)
    (hq : QK B w7 gq gots wants ts v1 (.slice Aw wants.length cw) q) (hlo : wA.heap.size ≤ tk2) (hz : w.heap.size ≤ wA.heap.size) (h67 : Same (fun k => k = gq) w6 w7) (hv : ∀ k, (Value.slice Aw wants.length cw).ownBlock = some k → k < w.heap.size) (hg : gq < w.heap.size) : ∀ (A11 : Option Addr) (c11 : Nat), (w11.cell? ⟨tk2, 0, none⟩ = some (.slice A1 n1 c1) ∧ w11.cell? ⟨tk2, 1, none⟩ = some (.int .i64 tv) ∧ w11.cell? ⟨tk2, 2, none⟩ = some (.slice A2 n2 c2) ∧ w11.cell? ⟨tk2, 3, none⟩ = some (.int .i64 te)) ∧
      ((w11.setCell ⟨gq, 1, none⟩ (.slice A11 (wants.length + 1) c11)).cell? ⟨tk2, 0, none⟩ = some (.slice A1 n1 c1) ∧ (w11.setCell ⟨gq, 1, none⟩ (.slice A11 (wants.length + 1) c11)).cell? ⟨tk2, 1, none⟩ = some (.int .i64 tv) ∧ (w11.setCell ⟨gq, 1, none⟩ (.slice A11 (wants.length + 1) c11)).cell? ⟨tk2, 2, none⟩ = some (.slice A2 n2 c2) ∧ (w11.setCell ⟨gq, 1, none⟩ (.slice A11 (wants.length + 1) c11)).cell? ⟨tk2, 3, none⟩ = some (.int .i64 te)) := by
  have s2 : Same (fun k => (Value.slice Aw wants.length cw).ownBlock = some k) wx w11 := (Same.below hb10).trans ((Same.below (below_alloc w10 mk)).trans (Same.grown h fun k e => .inl e))
  have h11 := s2.at hb fun e => by have := hv _ e; omega
  intro A11 c11
  have h12 : (w11.setCell ⟨gq, 1, none⟩ (.slice A11 (wants.length + 1) c11)).heap[tk2]? = some (.cells (tdC (.slice A1 n1 c1) tv (.slice A2 n2 c2) te) 43 (0, 0)) := (same9 w11 gq 1 (.slice A11 (wants.length + 1) c11)).at h11 (by omega)
  refine ⟨⟨?_, ?_, ?_, ?_⟩, ⟨?_, ?_, ?_, ?_⟩⟩
  · rw [Lib.cell_of_heap h11]; rfl
  · rw [Lib.cell_of_heap h11]; rfl
  · rw [Lib.cell_of_heap h11]; rfl
  · rw [Lib.cell_of_heap h11]; rfl
  · rw [Lib.cell_of_heap h12]; rfl
  · rw [Lib.cell_of_heap h12]; rfl
  · rw [Lib.cell_of_heap h12]; rfl
  · rw [Lib.cell_of_heap h12]; rfl
end
theorem ask_kept {w0 w wA w6 w7 wx wz : World} {p g h gq n' tk tk2 : Nat} {L L' : Lay} {F F' : Nat → Prop} {A A' : Option Addr} {gots wants : List An} {ts : List Tx} {v1 v2 v2' : Value} {much q : Int} {a b b' : An} {t : Tx} {A8 : Option Addr} {c8 : Nat}
    (k : AskW w0 wA w6 p g h L F A L' F' A' n' a t b tk tk2) (hq : QK w0.heap.size w gq gots wants ts v1 v2 much) (hqc : ∀ k, QF gq gots wants v1 v2 k → ¬ CF p L h A F k) (hb : Below w.heap.size w wA) (h7 : Same (fun k => k = gq) w6 w7) (m : Mid4 w0.heap.size gq w7 wx gots ts v1 v2 q a t A8 c8)
    (hE : QK w0.heap.size wz gq (gots ++ [a]) (wants ++ [b']) (ts ++ [t]) (.slice A8 (gots.length + 1) c8) v2' q ∧ Same (fun k => k = gq ∨ v1.ownBlock = some k ∨ v2.ownBlock = some k) w7 wz ∧ ∀ k, v2'.ownBlock = some k → v2.ownBlock = some k ∨ w7.heap.size ≤ k) (hbl : ∀ k, b'.blk k → wx.heap.size ≤ k)
    (hS : ∀ x, (x = gq ∨ v1.ownBlock = some x ∨ v2.ownBlock = some x) → w0.heap.size ≤ x ∧ x < wA.heap.size ∧ ¬ CF p L h A F x) :
    AskZ w0 w w6 wz p g h gq L F A gots wants v1 v2 L' F' A' n' a t b tk tk2 (gots ++ [a]) (wants ++ [b']) (ts ++ [t]) (.slice A8 (gots.length + 1) c8) v2' q := by
  have hs : Same (fun k => k = gq ∨ v1.ownBlock = some k ∨ v2.ownBlock = some k) w6 wz := (h7.imp fun _ => .inl).trans hE.2.1
  have z1 := hb.size
  have z2 := k.same.2.2.2.1
  have z3 := h7.2.2.2.1
  have z4 := m.2.2.1.2.2.2.1
  obtain ⟨m1, m2, m3, m4, m5⟩ := k.move hs hS
  have old : ∀ x, QF gq gots wants v1 v2 x → ¬ CF p L' h A' F' x := fun x hx e => by
    rcases k.foot x e with h2 | h2
    · exact hqc x hx h2
    · have := (hq.range hx).2; omega
  have new : ∀ x, w6.heap.size ≤ x → ¬ CF p L' h A' F' x := fun x hx e => by have := (k.core.range e).2; omega
  refine ⟨m1, hE.1, by simp, fun x hx => ?_, fun x hx => ?_, m2.reads, m3, m4, m5, hs⟩
  · rcases hx with rfl | hx | hx | ⟨y, hy, hx⟩ | ⟨y, hy, hx⟩
    · exact .inl (.inl rfl)
    · rcases m.2.2.2 x hx with h1 | h1
      · exact .inl (.inr (.inl h1))
      · right; omega
    · rcases hE.2.2 x hx with h1 | h1
      · exact .inl (.inr (.inr (.inl h1)))
      · right; omega
    · rcases List.mem_append.1 hy with hy | hy
      · exact .inl (.inr (.inr (.inr (.inl ⟨y, hy, hx⟩))))
      · simp at hy
        subst hy
        have := k.low x hx
        right; omega
    · rcases List.mem_append.1 hy with hy | hy
      · exact .inl (.inr (.inr (.inr (.inr ⟨y, hy, hx⟩))))
      · simp at hy
        subst hy
        have := hbl x hx
        right; omega
  · rcases hx with rfl | hx | hx | ⟨y, hy, hx⟩ | ⟨y, hy, hx⟩
    · exact old _ (.inl rfl)
    · rcases m.2.2.2 x hx with h1 | h1
      · exact old x (.inr (.inl h1))
      · exact new x (by omega)
    · rcases hE.2.2 x hx with h1 | h1
      · exact old x (.inr (.inr (.inl h1)))
      · exact new x (by omega)
    · rcases List.mem_append.1 hy with hy | hy
      · exact old x (.inr (.inr (.inr (.inl ⟨y, hy, hx⟩))))
      · simp at hy
        subst hy
        exact k.off x hx
    · rcases List.mem_append.1 hy with hy | hy
      · exact old x (.inr (.inr (.inr (.inr ⟨y, hy, hx⟩))))
      · simp at hy
        subst hy
        have := hbl x hx
        exact new x (by omega)
end Go.Proofs.YtancenklmfamnaaGreat.Sh
