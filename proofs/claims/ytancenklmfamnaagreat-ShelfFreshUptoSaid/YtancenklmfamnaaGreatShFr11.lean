/- ShelfFresh: what stands at a round's head, in both loops. -/
import Derived.Test.YtancenklmfamnaaGreatShFr10
set_option linter.unusedVariables false
set_option linter.unusedSimpArgs false
namespace Go.Proofs.YtancenklmfamnaaGreat.Sh
open Go.RowKit Go.Maps Go.Sort Go.Shelf
open Go.Proofs Go.MuLone
open Go.Proofs.YtancenklmfamnaaGreatW.PrintWords (Reps OwnRow Kd ReadsRow)
open PShelfPlays (S70 S104 S115 k70 k104 k115)

/-- a shelf and the document's, at rest beside all -/
structure Side (B : Nat) (w : World) (p g : Nat) (L : Lay) (F : Nat → Prop) : Prop where
  rest : Rest B w p L
  rl : RefL B w g F L
  dis : ∀ k, Foot p L k → ¬ F k
def SFoot (p : Nat) (L : Lay) (F : Nat → Prop) (k : Nat) : Prop := Foot p L k ∨ F k
theorem Side.range {B : Nat} {w : World} {p g : Nat} {L : Lay} {F : Nat → Prop} (t : Side B w p g L F) {k : Nat} (hk : SFoot p L F k) : B ≤ k ∧ k < w.heap.size := by
  rcases hk with hk | hk
  · exact ⟨foot_low t.rest hk, t.rest.is.foot_lt hk⟩
  · exact RefIs.foot t.rl k hk
theorem Side.off {B : Nat} {w w' : World} {p g : Nat} {L : Lay} {F P : Nat → Prop} (t : Side B w p g L F) (hs : Same P w w') (hP : ∀ k, SFoot p L F k → ¬ P k) : Side B w' p g L F :=
  ⟨t.rest.off hs fun k hk => hP k (.inl hk), RefIs.off t.rl hs fun k hk => hP k (.inr hk), t.dis⟩
/-- the first loop's head: the shelf asked, the other one, the book -/
structure P1 (w0 w : World) (p g h : Nat) (L : Lay) (F : Nat → Prop) (A : Option Addr) (n0 : Nat) (b1 b2 gb p' g' : Nat) (L0 : Lay) (F0 : Nat → Prop) (xs ls : List Value) (v1 v2 : Value) (much : Int) (i m : Nat) : Prop where
  core : Core w0 w p g L F h A n0
  side : Side w0.heap.size w p' g' L0 F0
  c1 : w.heap[b1]? = some (.cells #[.pointer (some ⟨p, 0, none⟩), .pointer (some ⟨g, 0, none⟩)] 32 (0, 0))
  c2 : w.heap[b2]? = some (.cells #[.pointer (some ⟨p', 0, none⟩), .pointer (some ⟨g', 0, none⟩)] 32 (0, 0))
  bk : BK w0.heap.size w gb xs ls v1 v2 much
  even : xs.length % 2 = 0 ∧ ls.length % 2 = 0
  len : xs.length ≤ m ∧ ls.length ≤ m
  touch : L.touch ≤ i
  o1 : ¬ CF p L h A F b1 ∧ ¬ CF p L h A F b2
  os : ∀ k, SFoot p' L0 F0 k → ¬ CF p L h A F k ∧ k ≠ b1 ∧ k ≠ b2 ∧ ¬ BF gb xs ls v1 v2 k
  ob : ∀ k, BF gb xs ls v1 v2 k → ¬ CF p L h A F k ∧ k ≠ b1 ∧ k ≠ b2
section
variable {w0 w w' : World} {p g h n0 n' b1 b2 gb p' g' i m : Nat} {L L' L0 : Lay} {F F' F0 : Nat → Prop} {A A' : Option Addr} {xs ls : List Value} {v1 v2 : Value} {much : Int}
theorem P1.below_ (t : P1 w0 w p g h L F A n0 b1 b2 gb p' g' L0 F0 xs ls v1 v2 much i m) (hb : Below w.heap.size w w') : P1 w0 w' p g h L F A n0 b1 b2 gb p' g' L0 F0 xs ls v1 v2 much i m :=
  have hs : Same (fun _ => False) w w' := Same.below hb
  ⟨t.core.below_ hb, t.side.off hs fun _ _ => id, hs.at t.c1 id, hs.at t.c2 id, t.bk.below_ hb, t.even, t.len, t.touch, t.o1, t.os, t.ob⟩
/-- the shelf was asked -/
theorem P1.move (t : P1 w0 w p g h L F A n0 b1 b2 gb p' g' L0 F0 xs ls v1 v2 much i m) {j : Nat} (hc : Core w0 w' p g L' F' h A' n') (hs : Same (CF p L h A F) w w') (hf : ∀ k, CF p L' h A' F' k → CF p L h A F k ∨ w.heap.size ≤ k) (hj : L'.touch ≤ j) :
    P1 w0 w' p g h L' F' A' n' b1 b2 gb p' g' L0 F0 xs ls v1 v2 much j m := by
  have key : ∀ k, ¬ CF p L h A F k → k < w.heap.size → ¬ CF p L' h A' F' k := fun k h1 h2 e => by
    rcases hf k e with h3 | h3
    · exact h1 h3
    · omega
  refine ⟨hc, t.side.off hs fun k hk => (t.os k hk).1, hs.at t.c1 t.o1.1, hs.at t.c2 t.o1.2, t.bk.off hs fun k hk => (t.ob k hk).1, t.even, t.len, hj, ⟨key _ t.o1.1 (at_lt t.c1), key _ t.o1.2 (at_lt t.c2)⟩, fun k hk => ?_, fun k hk => ?_⟩
  · obtain ⟨h1, h2⟩ := t.os k hk
    exact ⟨key k h1 (t.side.range hk).2, h2⟩
  · obtain ⟨h1, h2⟩ := t.ob k hk
    exact ⟨key k h1 (t.bk.range hk).2, h2⟩
/-- the book took an answer -/
theorem P1.took (t : P1 w0 w p g h L F A n0 b1 b2 gb p' g' L0 F0 xs ls v1 v2 much i m) {a1 a2 : Option Addr} (he : TakeEnd w0.heap.size gb w w' xs ls v1 v2 a1 a2) (ha : ∀ k, (a1.map (·.block) = some k ∨ a2.map (·.block) = some k) → w0.heap.size ≤ k ∧ ¬ CF p L h A F k ∧ k ≠ b1 ∧ k ≠ b2 ∧ ¬ SFoot p' L0 F0 k) :
    ∃ xs' ls' v1' v2' much', P1 w0 w' p g h L F A n0 b1 b2 gb p' g' L0 F0 xs' ls' v1' v2' much' i (m + 2) := by
  obtain ⟨xs', ls', v1', v2', much', hbk, hl1, hl2, hev, hs, hbf⟩ := he
  have hS : ∀ k, (k = gb ∨ v1.ownBlock = some k ∨ v2.ownBlock = some k ∨ a1.map (·.block) = some k ∨ a2.map (·.block) = some k) → w0.heap.size ≤ k ∧ ¬ CF p L h A F k ∧ k ≠ b1 ∧ k ≠ b2 ∧ ¬ SFoot p' L0 F0 k := fun k hk => by
    have old : BF gb xs ls v1 v2 k → w0.heap.size ≤ k ∧ ¬ CF p L h A F k ∧ k ≠ b1 ∧ k ≠ b2 ∧ ¬ SFoot p' L0 F0 k := fun e => ⟨(t.bk.range e).1, (t.ob k e).1, (t.ob k e).2.1, (t.ob k e).2.2, fun e2 => (t.os k e2).2.2.2 e⟩
    rcases hk with hk | hk | hk | hk | hk
    · exact old (.inl hk)
    · exact old (.inr (.inl hk))
    · exact old (.inr (.inr (.inl hk)))
    · exact ha k (.inl hk)
    · exact ha k (.inr hk)
  refine ⟨xs', ls', v1', v2', much', t.core.off_ hs fun k hk => ⟨(hS k hk).1, (hS k hk).2.1⟩, t.side.off hs fun k hk e => (hS k e).2.2.2.2 hk, hs.at t.c1 fun e => (hS _ e).2.2.1 rfl, hs.at t.c2 fun e => (hS _ e).2.2.2.1 rfl, hbk, hev, ⟨by have := t.len.1; omega, by have := t.len.2; omega⟩, t.touch, t.o1, fun k hk => ?_, fun k hk => ?_⟩
  · obtain ⟨h1, h2, h3, h4⟩ := t.os k hk
    refine ⟨h1, h2, h3, fun e => ?_⟩
    rcases hbf k e with h5 | h5 | h5 | h5
    · exact h4 h5
    · exact (ha k (.inl h5)).2.2.2.2 hk
    · exact (ha k (.inr h5)).2.2.2.2 hk
    · have := (t.side.range hk).2; omega
  · rcases hbf k hk with h5 | h5 | h5 | h5
    · exact t.ob k h5
    · obtain ⟨_, q1, q2, q3, _⟩ := ha k (.inl h5); exact ⟨q1, q2, q3⟩
    · obtain ⟨_, q1, q2, q3, _⟩ := ha k (.inr h5); exact ⟨q1, q2, q3⟩
    · have e1 := at_lt t.c1
      have e2 := at_lt t.c2
      exact ⟨fun e => by have := (t.core.range e).2; omega, by omega, by omega⟩
end
theorem P1.start {w w1 w2 w3 : World} {p g p' g' : Nat} {L L0 : Lay} {F F0 : Nat → Prop} (hb1 : Below w.heap.size w w1) (hb2 : Below w1.heap.size w1 w2) (h1 : (Seat.on p g L F).Is w1.heap.size w2) (ht : L.touch = 0) {o1 o2 : Obj} (ho1 : o1 = .cells #[.pointer (some ⟨p, 0, none⟩), .pointer (some ⟨g, 0, none⟩)] 32) (ho2 : o2 = .cells #[.pointer (some ⟨p', 0, none⟩), .pointer (some ⟨g', 0, none⟩)] 32)
    (hb3 : Below (w2.alloc o1).heap.size (w2.alloc o1) w3) (h2 : (Seat.on p' g' L0 F0).Is (w2.alloc o1).heap.size w3) :
    P1 w (((w3.alloc o2).alloc (.cells #[.slice none 0 0] 27)).alloc (.cells #[.slice none 0 0, .slice none 0 0, .int .i64 0] 55)) p g (w3.heap.size + 1) L F none 0 w2.heap.size w3.heap.size (w3.heap.size + 1 + 1) p' g' L0 F0 [] [] (.slice none 0 0) (.slice none 0 0) 0 0 0 := by
  have z1 := hb1.size
  have z2 := hb2.size
  have za : (w2.alloc o1).heap.size = w2.heap.size + 1 := by simp
  have z3 := hb3.size
  have hba : Below w2.heap.size w2 (w2.alloc o1) := below_alloc _ _
  have hbZ : Below w3.heap.size w3 (((w3.alloc o2).alloc (.cells #[.slice none 0 0] 27)).alloc (.cells #[.slice none 0 0, .slice none 0 0, .int .i64 0] 55)) := (((Below.refl _ w3).alloc (Nat.le_refl _) _).alloc (by simp) _).alloc (by simp; omega) _
  have hb23 : Below w2.heap.size w2 w3 := hba.trans (hb3.mono (by omega))
  have hbW : Below w.heap.size w w3 := (hb1.trans (hb2.mono z1)).trans (hb23.mono (by omega))
  have i1 := h1.off (S := fun _ => False) (Same.below (hb23.trans (hbZ.mono (by omega)))) fun _ _ => id
  have i2 := h2.off (S := fun _ => False) (Same.below hbZ) fun _ _ => id
  have r1 : ∀ k, (Seat.on p g L F).foot k → w1.heap.size ≤ k ∧ k < w2.heap.size := fun k hk => h1.range hk
  have r2 : ∀ k, (Seat.on p' g' L0 F0).foot k → w2.heap.size + 1 ≤ k ∧ k < w3.heap.size := fun k hk => by have := h2.range hk; rw [za] at this; exact this
  have l1 := i1.lower (B' := w.heap.size) z1
  have l2 := i2.lower (B' := w.heap.size) (by omega)
  obtain ⟨a1, a2, a3⟩ := l1
  obtain ⟨c1, c2, c3⟩ := l2
  have mv : ∀ (W : World) (o o' : Obj) (k : Nat), W.heap[k]? = some o → (W.alloc o').heap[k]? = some o := fun W o o' k h => by rw [Below.heap_alloc W _ _ (at_lt h)]; exact h
  have hh : (((w3.alloc o2).alloc (.cells #[.slice none 0 0] 27)).alloc (.cells #[.slice none 0 0, .slice none 0 0, .int .i64 0] 55)).heap[w3.heap.size + 1]? = some (.cells #[.slice none 0 0] 27 (0, 0)) := by
    refine mv _ _ _ _ ?_
    have := alloc_is (w3.alloc o2) (.cells #[.slice none 0 0] 27)
    simpa using this
  have hg : (((w3.alloc o2).alloc (.cells #[.slice none 0 0] 27)).alloc (.cells #[.slice none 0 0, .slice none 0 0, .int .i64 0] 55)).heap[w3.heap.size + 1 + 1]? = some (.cells #[.slice none 0 0, .slice none 0 0, .int .i64 0] 55 (0, 0)) := by
    have := alloc_is ((w3.alloc o2).alloc (.cells #[.slice none 0 0] 27)) (.cells #[.slice none 0 0, .slice none 0 0, .int .i64 0] 55)
    simpa using this
  have cfr : ∀ k, CF p L (w3.heap.size + 1) none F k → (w1.heap.size ≤ k ∧ k < w2.heap.size) ∨ k = w3.heap.size + 1 := fun k hk => by
    rcases hk with (hk | hk | hk) | hk
    · exact .inl (r1 k (.inl hk))
    · exact .inr hk
    · cases hk
    · exact .inl (r1 k (.inr hk))
  have hBF : ∀ k, BF (w3.heap.size + 1 + 1) [] [] (.slice none 0 0) (.slice none 0 0) k → k = w3.heap.size + 1 + 1 := fun k hk => by
    rcases hk with h | h | h | ⟨_, h, _⟩ | ⟨_, h, _⟩
    · exact h
    · simp [Value.ownBlock] at h
    · simp [Value.ownBlock] at h
    · cases h
    · cases h
  refine ⟨⟨hbW.trans (hbZ.mono (by omega)), ⟨a1, ⟨hh, .inl ⟨rfl, rfl⟩, by omega⟩, ⟨fun e => by have := r1 _ (.inl e); omega, fun k hk => by cases hk⟩⟩, a2, fun x hx e => ?_⟩, ⟨c1, c2, c3⟩, ?_, ?_, ⟨by omega, hg, World.ownsRow_nil _ _ _ _, World.ownsRow_nil _ _ _ _, (fun i x h => by simp at h), (fun i x h => by simp at h)⟩, ⟨rfl, rfl⟩, ⟨Nat.zero_le _, Nat.zero_le _⟩, by rw [ht]; exact Int.le_refl _, ⟨fun e => ?_, fun e => ?_⟩, fun k hk => ?_, fun k hk => ?_⟩
  · rcases e with e | e | e
    · exact a3 x e hx
    · have := r1 x (.inr hx); omega
    · cases e
  · subst ho1
    refine mv _ _ _ _ (mv _ _ _ _ (mv _ _ _ _ ((hb3.block _ (by omega)).trans (alloc_is w2 _))))
  · subst ho2
    exact mv _ _ _ _ (mv _ _ _ _ (alloc_is w3 _))
  · rcases cfr _ e with h | h <;> omega
  · rcases cfr _ e with h | h <;> omega
  · have := r2 k hk
    refine ⟨fun e => ?_, by omega, by omega, fun e => by have := hBF k e; omega⟩
    rcases cfr k e with h | h <;> omega
  · have := hBF k hk
    refine ⟨fun e => ?_, by omega, by omega⟩
    rcases cfr k e with h | h <;> omega
theorem OpAt.v {w : World} {ad : Addr} {Ab : Option Addr} {nb cb : Nat} {o : Op1} (t : OpAt w ad Ab nb cb o) : OpV w Ab nb cb o := ⟨t.rd, t.len, t.dat, t.nm, t.ver, t.which⟩
/-- behind the two answers -/
structure R13 (w0 w : World) (p g h : Nat) (L : Lay) (F : Nat → Prop) (A : Option Addr) (n0 : Nat) (b1 b2 gb p' g' : Nat) (L0 : Lay) (F0 : Nat → Prop) (xs ls : List Value) (v1 v2 : Value) (much : Int) (i m tk : Nat) (a : An) (t : Tx) : Prop where
  p1 : P1 w0 w p g h L F A n0 b1 b2 gb p' g' L0 F0 xs ls v1 v2 much i m
  own : OwnAn w0.heap.size w a t
  off : ∀ k, a.blk k → w0.heap.size ≤ k ∧ ¬ CF p L h A F k ∧ k ≠ b1 ∧ k ≠ b2 ∧ ¬ SFoot p' L0 F0 k ∧ ¬ BF gb xs ls v1 v2 k
  b : w.heap[tk]? = some (.cells (tdC (.slice a.a1 a.n1 a.c1) t.v (.slice a.a2 a.n2 a.c2) t.e) 43 (0, 0))
section
variable {w0 w w' w4 : World} {p g h n0 n' b1 b2 gb p' g' i m tk nt ct nl cl nb cb : Nat} {L L' L0 : Lay} {F F0 : Nat → Prop} {A A' At1 Al1 Ab : Option Addr} {xs ls : List Value} {v1 v2 : Value} {much : Int} {a : An} {t : Tx} {o : Op1} {ad : Addr} {tdat : List Int} {tv te : Int} {tls : List LM}
theorem R13.below (r : R13 w0 w p g h L F A n0 b1 b2 gb p' g' L0 F0 xs ls v1 v2 much i m tk a t) (hb : Below w.heap.size w w') : R13 w0 w' p g h L F A n0 b1 b2 gb p' g' L0 F0 xs ls v1 v2 much i m tk a t :=
  ⟨r.p1.below_ hb, r.own.far (Same.below (S := fun _ => False) hb) fun _ _ => id, r.off, (Same.below (S := fun _ => False) hb).at r.b id⟩
theorem R13.sw (r : R13 w0 w p g h L F A n0 b1 b2 gb p' g' L0 F0 xs ls v1 v2 much i m tk a t) (ho : OpAt w0 ad Ab nb cb o) : SW b1 p g tk a.a1 a.n1 a.c1 t.v a.a2 a.n2 a.c2 t.e ad o Ab nb cb w := by
  have h1 := ho.below r.p1.core.below
  refine ⟨?_, ?_, ?_, ?_, ?_, ?_, h1.c0, h1.c1, h1.c2, h1.c3, h1.c4⟩
  · rw [Lib.cell_of_heap r.p1.c1]; rfl
  · rw [Lib.cell_of_heap r.p1.c1]; rfl
  all_goals (rw [Lib.cell_of_heap r.b]; rfl)
theorem sw13 (t : P1 w0 w p g h L F A n0 b1 b2 gb p' g' L0 F0 xs ls v1 v2 much i m) (ht : ToldS w0.heap.size p h L A w o.kind o.nm o.ver o.dat w4 tk L' A' n' At1 nt ct tdat tv Al1 nl cl tls te) (ho : OpAt w0 ad Ab nb cb o) : SW b1 p g tk At1 nt ct tv Al1 nl cl te ad o Ab nb cb w4 := by
  have sF : Same (CF p L h A F) w w4 := ht.mv.1.imp fun k hk => by
    rcases hk with hk | hk
    · exact .inl (.inl (.inl hk))
    · exact .inl (.inr hk)
  have h1 := ho.below (same_below t.core.below sF fun x hx => (t.core.range hx).1)
  have hp := sF.at t.c1 t.o1.1
  refine ⟨?_, ?_, ?_, ?_, ?_, ?_, h1.c0, h1.c1, h1.c2, h1.c3, h1.c4⟩
  · rw [Lib.cell_of_heap hp]; rfl
  · rw [Lib.cell_of_heap hp]; rfl
  all_goals (rw [Lib.cell_of_heap ht.b]; rfl)
theorem ask13 (t : P1 w0 w p g h L F A n0 b1 b2 gb p' g' L0 F0 xs ls v1 v2 much i m) (ht : ToldS w0.heap.size p h L A w o.kind o.nm o.ver o.dat w4 tk L' A' n' At1 nt ct tdat tv Al1 nl cl tls te) (ho : OpAt w0 ad Ab nb cb o) (hi : i ≤ 1000000000000) :
    Calls Tryz.prog 10 #[.pointer (some ⟨g, 0, none⟩), .agg (opC o.kind o.which o.nm o.ver (.slice Ab nb cb))] w4.drew fun e w5 => ∃ A1 n1 c1 A2 n2 c2, e = .returned (.agg #[.slice A1 n1 c1, .int .i64 tv, .slice A2 n2 c2, .int .i64 te]) ∧
      Hid ((∃ F', R13 w0 w5 p g h L' F' A' n' b1 b2 gb p' g' L0 F0 xs ls v1 v2 much (i + 1) m tk ⟨At1, nt, ct, Al1, nl, cl⟩ ⟨tdat, tv, tls, te⟩) ∧ BytesAt w5 A1 n1 c1 tdat ∧ HeldAt w5 A2 n2 c2 tls) ∧ SW b1 p g tk At1 nt ct tv Al1 nl cl te ad o Ab nb cb w5 := by
  have htc := t.touch
  refine (want_k t.core ht (below_drewN (Below.refl _ _) 1) ho.v (by omega)).mono fun e w5 ⟨A1, n1, c1, A2, n2, c2, he, H⟩ => ?_
  obtain ⟨F', k⟩ := H.out
  have hsm := told_small ht.told t.core.lr.good t.core.lr.few
  have r : R13 w0 w5 p g h L' F' A' n' b1 b2 gb p' g' L0 F0 xs ls v1 v2 much (i + 1) m tk ⟨At1, nt, ct, Al1, nl, cl⟩ ⟨tdat, tv, tls, te⟩ := by
    refine ⟨t.move k.core k.same k.foot (by have := k.tch; omega), k.own, fun x hx => ?_, k.sF.at ht.b fun e => by have := k.Fr _ e; have := ht.lo; omega⟩
    have h1 := k.low x hx
    have h2 := at_lt t.c1
    have h3 := at_lt t.c2
    have h4 := t.core.below.size
    exact ⟨by omega, k.off x hx, by omega, by omega, fun e => by have := (t.side.range e).2; omega, fun e => by have := (t.bk.range e).2; omega⟩
  exact ⟨A1, n1, c1, A2, n2, c2, he, Lib.hid ⟨⟨F', r⟩, bytes_C k.rd (by have h5 : tdat.length ≤ 2000000000000 := hsm.2.1; show tdat.length ≤ _; omega), HeldAt.row k.ls⟩, r.sw ho⟩
theorem eq13 {A1 A2 : Option Addr} {n1 c1 n2 c2 : Nat} {F' : Nat → Prop} (r : R13 w0 w p g h L F' A n0 b1 b2 gb p' g' L0 F0 xs ls v1 v2 much i m tk ⟨At1, nt, ct, Al1, nl, cl⟩ ⟨tdat, tv, tls, te⟩) (ho : OpAt w0 ad Ab nb cb o) (h1 : BytesAt w A1 n1 c1 tdat) (h2 : HeldAt w A2 n2 c2 tls) :
    Calls Tryz.prog 9 #[.agg #[.slice At1 nt ct, .int .i64 tv, .slice Al1 nl cl, .int .i64 te], .agg #[.slice A1 n1 c1, .int .i64 tv, .slice A2 n2 c2, .int .i64 te]] w fun e w' => e = .returned (.bool true) ∧ Hid (∃ F', R13 w0 w' p g h L F' A n0 b1 b2 gb p' g' L0 F0 xs ls v1 v2 much i m tk ⟨At1, nt, ct, Al1, nl, cl⟩ ⟨tdat, tv, tls, te⟩) ∧ SW b1 p g tk At1 nt ct tv Al1 nl cl te ad o Ab nb cb w' := by
  have hd : tdat.length ≤ 2000000000000 := r.own.2.2.2.1
  have hl : tls.length ≤ 256 := r.own.2.2.2.2
  refine (eq_c tv te (dat := tdat) (tls := tls) hd (by omega) r.own.reads.1 r.own.reads.2 h1 h2).mono fun e w' ⟨he, hb⟩ => ⟨he, Lib.hid ⟨F', r.below hb⟩, (r.below hb).sw ho⟩
end
/-- a list that was told, of one's own -/
structure S13 (w0 w : World) (p g h : Nat) (L : Lay) (F : Nat → Prop) (A : Option Addr) (n0 : Nat) (b1 b2 gb p' g' : Nat) (L0 : Lay) (F0 : Nat → Prop) (xs ls : List Value) (v1 v2 : Value) (much : Int) (i m : Nat) (Al : Option Addr) (nl cl : Nat) : Prop where
  p1 : P1 w0 w p g h L F A n0 b1 b2 gb p' g' L0 F0 xs ls v1 v2 much i m
  row : OwnRow RL 70 4 w w0.heap.size (.slice Al nl cl) (sortedN L)
  off : ∀ k, Al.map (·.block) = some k → w0.heap.size ≤ k ∧ ¬ CF p L h A F k ∧ k ≠ b1 ∧ k ≠ b2 ∧ ¬ SFoot p' L0 F0 k ∧ ¬ BF gb xs ls v1 v2 k
section
variable {w0 w w' : World} {p g h n0 b1 b2 gb p' g' i m tk nl cl : Nat} {L L0 : Lay} {F F0 : Nat → Prop} {A Al : Option Addr} {xs ls : List Value} {v1 v2 : Value} {much : Int} {a : An} {t : Tx}
theorem took13 (r : R13 w0 w p g h L F A n0 b1 b2 gb p' g' L0 F0 xs ls v1 v2 much i m tk a t) (hm : m ≤ 1000000000) : Calls Tryz.prog 14 #[.pointer (some ⟨gb, 0, none⟩), .agg (tdC (.slice a.a1 a.n1 a.c1) t.v (.slice a.a2 a.n2 a.c2) t.e)] w fun e w' => e = .returned (.tuple #[]) ∧ Hid (∃ xs' ls' v1' v2' much', P1 w0 w' p g h L F A n0 b1 b2 gb p' g' L0 F0 xs' ls' v1' v2' much' i (m + 2)) := by
  obtain ⟨inner, o3, o4⟩ := r.own.2.2.1
  have e2 := own_capm o3
  have e1 := own_capm r.own.2.1
  have hd1 := r.own.2.2.2.1
  have hd2 := r.own.2.2.2.2
  have h1 := r.own.1
  have hl1 := r.p1.len.1
  have hl2 := r.p1.len.2
  have o3' : w.ownsRow w0.heap.size 70 4 (.slice a.a2 a.n2 a.c2) a.n2 inner := by have h2 := e2.2; rw [h2]; rw [h2] at o3; exact o3
  refine (book_take r.p1.bk (by omega) (by omega) r.p1.even (tv := t.v) (te := t.e) r.own.2.1 o3' (by omega) (by have := e2.2; omega) e1.1 e2.1 (fun x hx => (r.off x (.inl hx)).2.2.2.2.2) (fun x hx => (r.off x (.inr hx)).2.2.2.2.2)).mono fun e w' ⟨he, hT⟩ => ⟨he, Lib.hid (r.p1.took hT fun k hk => ?_)⟩
  obtain ⟨q1, q2, q3, q4, q5, _⟩ := r.off k hk
  exact ⟨q1, q2, q3, q4, q5⟩
theorem list13 (t : P1 w0 w p g h L F A n0 b1 b2 gb p' g' L0 F0 xs ls v1 v2 much i m) : Calls Tryz.prog 12 #[.pointer (some ⟨p, 0, none⟩)] w fun e w' => ∃ Al nl cl, e = .returned (.slice Al nl cl) ∧ Hid (S13 w0 w' p g h L F A n0 b1 b2 gb p' g' L0 F0 xs ls v1 v2 much i m Al nl cl) := by
  refine (list_yes t.core.at_.rest).mono fun e w' ⟨v, he, hrow, st, hr⟩ => ?_
  obtain ⟨hc, hs⟩ := t.core.step st hr
  have hw0 := t.core.below.size
  obtain ⟨inner, h1, h2⟩ := hrow
  obtain ⟨Al, cl, rfl⟩ := own_slice' h1
  refine ⟨Al, _, cl, he, Lib.hid ⟨t.move hc hs (fun k => .inl) t.touch, ⟨inner, World.ownsRow.mono h1 hw0, h2⟩, fun k hk => ?_⟩⟩
  have h3 := (row_tyN h1 (j := k) (by rw [block_map]; exact hk)).1
  have h4 := at_lt t.c1
  have h5 := at_lt t.c2
  exact ⟨by omega, fun e => by have := (t.core.range e).2; omega, by omega, by omega, fun e => by have := (t.side.range e).2; omega, fun e => by have := (t.bk.range e).2; omega⟩
theorem S13.below (r : S13 w0 w p g h L F A n0 b1 b2 gb p' g' L0 F0 xs ls v1 v2 much i m Al nl cl) (hb : Below w.heap.size w w') : S13 w0 w' p g h L F A n0 b1 b2 gb p' g' L0 F0 xs ls v1 v2 much i m Al nl cl := by
  obtain ⟨inner, h1, h2⟩ := r.row
  exact ⟨r.p1.below_ hb, ⟨inner, row_farN h1 (Same.below (S := fun _ => False) hb) fun _ _ => id, h2⟩, r.off⟩
theorem rlist13 (r : S13 w0 w p g h L F A n0 b1 b2 gb p' g' L0 F0 xs ls v1 v2 much i m Al nl cl) : Calls Tryz.prog 13 #[.pointer (some ⟨g, 0, none⟩)] w fun e w' => ∃ A2 n2 c2, e = .returned (.slice A2 n2 c2) ∧ Hid (S13 w0 w' p g h L F A n0 b1 b2 gb p' g' L0 F0 xs ls v1 v2 much i m Al nl cl ∧ HeldAt w' A2 n2 c2 (sortedN L)) :=
  (ref_list r.p1.core.rl r.p1.core.lr).mono fun e w' ⟨A2, n2, c2, he, hb, hN⟩ => ⟨A2, n2, c2, he, Lib.hid ⟨r.below hb, HeldAt.row hN⟩⟩
theorem eqs13 {A2 : Option Addr} {n2 c2 : Nat} (r : S13 w0 w p g h L F A n0 b1 b2 gb p' g' L0 F0 xs ls v1 v2 much i m Al nl cl) (h2 : HeldAt w A2 n2 c2 (sortedN L)) : Calls Tryz.prog 11 #[.slice Al nl cl, .slice A2 n2 c2] w fun e w' => e = .returned (.bool true) ∧ Hid (S13 w0 w' p g h L F A n0 b1 b2 gb p' g' L0 F0 xs ls v1 v2 much i m Al nl cl) := by
  have hf := r.p1.core.lr.few
  exact (Eq_c (by rw [sorted_len]; omega) (HeldAt.own r.row) h2).mono fun e w' ⟨he, hb⟩ => ⟨he, Lib.hid (r.below hb)⟩
theorem tookl13 (r : S13 w0 w p g h L F A n0 b1 b2 gb p' g' L0 F0 xs ls v1 v2 much i m Al nl cl) (hm : m ≤ 1000000000) : Calls Tryz.prog 14 #[.pointer (some ⟨gb, 0, none⟩), .agg (tdC (.slice none 0 0) 0 (.slice Al nl cl) 0)] w fun e w' => e = .returned (.tuple #[]) ∧ Hid (∃ xs' ls' v1' v2' much', P1 w0 w' p g h L F A n0 b1 b2 gb p' g' L0 F0 xs' ls' v1' v2' much' i (m + 2)) := by
  obtain ⟨inner, o3, o4⟩ := r.row
  have e2 := own_capm o3
  have hf := r.p1.core.lr.few
  have hsl := sorted_len L
  have hl1 := r.p1.len.1
  have hl2 := r.p1.len.2
  have o3' : w.ownsRow w0.heap.size 70 4 (.slice Al nl cl) nl inner := by have h2 := e2.2; rw [h2]; rw [h2] at o3; exact o3
  refine (book_take r.p1.bk (by omega) (by omega) r.p1.even (tv := 0) (te := 0) (At1 := none) (nt := 0) (ct := 0) (xt := []) (World.ownsRow_nil _ _ _ _) o3' (by omega) (by have := e2.2; omega) (Nat.zero_le _) e2.1 (fun x hx => by cases hx) (fun x hx => (r.off x hx).2.2.2.2.2)).mono fun e w' ⟨he, hT⟩ => ⟨he, Lib.hid (r.p1.took hT fun k hk => ?_)⟩
  rcases hk with hk | hk
  · cases hk
  · obtain ⟨q1, q2, q3, q4, q5, _⟩ := r.off k hk
    exact ⟨q1, q2, q3, q4, q5⟩
end
end Go.Proofs.YtancenklmfamnaaGreat.Sh
