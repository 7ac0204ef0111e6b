/- ShelfFresh: what stands at the second loop's head. -/
import Derived.Test.YtancenklmfamnaaGreatShFr11
import Derived.Test.YtancenklmfamnaaGreatShFr8a
set_option linter.unusedVariables false
set_option linter.unusedSimpArgs false
namespace Go.Proofs.YtancenklmfamnaaGreat.Sh
open Go.RowKit Go.Maps Go.Sort Go.Shelf
open Go.Proofs Go.MuLone
open Go.Proofs.YtancenklmfamnaaGreatW.PrintWords (Reps OwnRow Kd ReadsRow)
open PShelfPlays (S70 S104 S115 k70 k104 k115)

/-- the second loop's head: the other shelf with the hand, the first one at rest, the book, the quiet answers -/
structure P2 (w0 w : World) (p g h : Nat) (L : Lay) (F : Nat → Prop) (A : Option Addr) (n0 : Nat) (b1 b2 gb p' g' : Nat) (L0 : Lay) (F0 : Nat → Prop) (xs ls : List Value) (v1 v2 : Value) (much : Int) (gq : Nat) (gots wants : List An) (ts : List Tx) (u1 u2 : Value) (mq : Int) (m j : Nat) : Prop where
  core : Core w0 w p' g' L0 F0 h A n0
  side : Side w0.heap.size w p g L F
  c1 : w.heap[b1]? = some (.cells #[.pointer (some ⟨p, 0, none⟩), .pointer (some ⟨g, 0, none⟩)] 32 (0, 0))
  c2 : w.heap[b2]? = some (.cells #[.pointer (some ⟨p', 0, none⟩), .pointer (some ⟨g', 0, none⟩)] 32 (0, 0))
  bk : BK w0.heap.size w gb xs ls v1 v2 much
  qk : QK w0.heap.size w gq gots wants ts u1 u2 mq
  len : xs.length ≤ m ∧ ls.length ≤ m
  qlen : gots.length ≤ j
  touch : L0.touch ≤ j
  qc : ∀ k, QF gq gots wants u1 u2 k → ¬ CF p' L0 h A F0 k
  off : ∀ k, (SFoot p L F k ∨ k = b1 ∨ k = b2 ∨ BF gb xs ls v1 v2 k) → ¬ CF p' L0 h A F0 k ∧ ¬ QF gq gots wants u1 u2 k
  o2 : ∀ k, (k = b1 ∨ k = b2 ∨ BF gb xs ls v1 v2 k) → ¬ SFoot p L F k
section
variable {w0 w w' : World} {p g h n0 n' b1 b2 gb p' g' gq i m j : Nat} {L L' L0 : Lay} {F F' F0 : Nat → Prop} {A A' : Option Addr} {xs ls : List Value} {v1 v2 u1 u2 : Value} {much mq : Int} {gots wants : List An} {ts : List Tx}
theorem P2.range (t : P2 w0 w p g h L F A n0 b1 b2 gb p' g' L0 F0 xs ls v1 v2 much gq gots wants ts u1 u2 mq m j) {k : Nat} (hk : SFoot p L F k ∨ k = b1 ∨ k = b2 ∨ BF gb xs ls v1 v2 k) : k < w.heap.size := by
  rcases hk with hk | rfl | rfl | hk
  · exact (t.side.range hk).2
  · exact at_lt t.c1
  · exact at_lt t.c2
  · exact (t.bk.range hk).2
theorem P2.asked (t : P2 w0 w p g h L F A n0 b1 b2 gb p' g' L0 F0 xs ls v1 v2 much gq gots wants ts u1 u2 mq m j) (he : AskEnd w0 w w' p' g' h gq L0 F0 A gots wants u1 u2) :
    ∃ L0' F0' A' n' gots' wants' ts' u1' u2' mq', P2 w0 w' p g h L F A' n' b1 b2 gb p' g' L0' F0' xs ls v1 v2 much gq gots' wants' ts' u1' u2' mq' m (j + 1) := by
  obtain ⟨L', F', A', n', gots', wants', ts', v1', v2', much', hc, ht, hq, hl, hcf, hqf, hqc, hs⟩ := he
  have hP : ∀ k, (SFoot p L F k ∨ k = b1 ∨ k = b2 ∨ BF gb xs ls v1 v2 k) → ¬ (CF p' L0 h A F0 k ∨ k = gq ∨ u1.ownBlock = some k ∨ u2.ownBlock = some k) := fun k hk e => by
    obtain ⟨h1, h2⟩ := t.off k hk
    rcases e with e | e | e | e
    · exact h1 e
    · exact h2 (.inl e)
    · exact h2 (.inr (.inl e))
    · exact h2 (.inr (.inr (.inl e)))
  have htc := t.touch
  have hql := t.qlen
  refine ⟨L', F', A', n', gots', wants', ts', v1', v2', much', hc, t.side.off hs fun k hk => hP k (.inl hk), hs.at t.c1 (hP _ (.inr (.inl rfl))), hs.at t.c2 (hP _ (.inr (.inr (.inl rfl)))), t.bk.off hs fun k hk => hP k (.inr (.inr (.inr hk))), hq, t.len, by omega, by push_cast; omega, hqc, fun k hk => ?_, t.o2⟩
  obtain ⟨h1, h2⟩ := t.off k hk
  have h3 := t.range hk
  refine ⟨fun e => ?_, fun e => ?_⟩
  · rcases hcf k e with e | e
    · exact h1 e
    · omega
  · rcases hqf k e with e | e
    · exact h2 e
    · omega
theorem P2.below_ (t : P2 w0 w p g h L F A n0 b1 b2 gb p' g' L0 F0 xs ls v1 v2 much gq gots wants ts u1 u2 mq m j) (hb : Below w.heap.size w w') : P2 w0 w' p g h L F A n0 b1 b2 gb p' g' L0 F0 xs ls v1 v2 much gq gots wants ts u1 u2 mq m j :=
  have hs : Same (fun _ => False) w w' := Same.below hb
  ⟨t.core.below_ hb, t.side.off hs fun _ _ => id, hs.at t.c1 id, hs.at t.c2 id, t.bk.below_ hb, t.qk.below_ hb, t.len, t.qlen, t.touch, t.qc, t.off, t.o2⟩
theorem P2.start (t : P1 w0 w p g h L F A n0 b1 b2 gb p' g' L0 F0 xs ls v1 v2 much i m) (h0 : L0.touch = 0) :
    P2 w0 (w.alloc (.cells #[.slice none 0 0, .slice none 0 0, .int .i64 0] 60)) p g h L F A n0 b1 b2 gb p' g' L0 F0 xs ls v1 v2 much w.heap.size [] [] [] (.slice none 0 0) (.slice none 0 0) 0 m 0 := by
  have hb : Below w.heap.size w (w.alloc (.cells #[.slice none 0 0, .slice none 0 0, .int .i64 0] 60)) := below_alloc _ _
  have t1 := t.below_ hb
  have hz := t.core.below.size
  have hq : ∀ k, QF w.heap.size [] [] (.slice none 0 0) (.slice none 0 0) k → k = w.heap.size := fun k hk => by
    rcases hk with h | h | h | ⟨_, h, _⟩ | ⟨_, h, _⟩
    · exact h
    · simp [Value.ownBlock] at h
    · simp [Value.ownBlock] at h
    · cases h
    · cases h
  have hcf : ∀ k, CF p' L0 h A F0 k → SFoot p' L0 F0 k ∨ k = h ∨ A.map (·.block) = some k := fun k hk => by
    rcases hk with (hk | hk | hk) | hk
    · exact .inl (.inl hk)
    · exact .inr (.inl hk)
    · exact .inr (.inr hk)
    · exact .inl (.inr hk)
  have hcl : ∀ k, CF p' L0 h A F0 k → k < w.heap.size := fun k hk => by
    rcases hcf k hk with e | e | e
    · exact (t.side.range e).2
    · exact (t.core.range (.inl (.inr (.inl e)))).2
    · exact (t.core.range (.inl (.inr (.inr e)))).2
  refine ⟨⟨t1.core.below, ⟨t1.side.rest, t1.core.at_.hand, ⟨fun e => (t.os _ (.inl e)).1 (.inl (.inr (.inl rfl))), fun k hk e => (t.os _ (.inl e)).1 (.inl (.inr (.inr hk)))⟩⟩, t1.side.rl, fun x hx e => ?_⟩, ⟨t1.core.at_.rest, t1.core.rl, fun k hk e => t.core.off k e (.inl hk)⟩, t1.c1, t1.c2, t1.bk, ⟨hz, alloc_is w _, rfl, rfl, World.ownsRow_nil _ _ _ _, World.ownsRow_nil _ _ _ _, fun k hk => by simp [Value.ownBlock] at hk, fun i a t h => by simp at h, fun i a t h => by simp at h, fun i j a b h => by simp at h⟩, t.len, Nat.le_refl _, by rw [h0]; exact Int.le_refl _, fun k hk e => ?_, fun k hk => ⟨fun e => ?_, fun e => ?_⟩, fun k hk e => ?_⟩
  · rcases e with e | e | e
    · exact t.side.dis x e hx
    · exact (t.os x (.inr hx)).1 (.inl (.inr (.inl e)))
    · exact (t.os x (.inr hx)).1 (.inl (.inr (.inr e)))
  · have := hcl k e
    have := hq k hk
    omega
  · rcases hcf k e with e1 | e1 | e1
    · obtain ⟨q1, q2, q3, q4⟩ := t.os k e1
      rcases hk with hk | hk | hk | hk
      · rcases hk with hk | hk
        · exact q1 (.inl (.inl hk))
        · exact q1 (.inr hk)
      · exact q2 hk
      · exact q3 hk
      · exact q4 hk
    all_goals
      have hc : Foot2 p L h A k := by first | exact .inr (.inl e1) | exact .inr (.inr e1)
      rcases hk with hk | hk | hk | hk
      · rcases hk with hk | hk
        · first | exact t.core.at_.off.1 (by rw [← e1]; exact hk) | exact t.core.at_.off.2 k e1 hk
        · exact t.core.off k hk hc
      · exact t.o1.1 (by rw [← hk]; exact .inl hc)
      · exact t.o1.2 (by rw [← hk]; exact .inl hc)
      · exact (t.ob k hk).1 (.inl hc)
  · have h1 := hq k e
    have h2 : k < w.heap.size := by
      rcases hk with hk | hk | hk | hk
      · rcases hk with hk | hk
        · exact (t.core.range (.inl (.inl hk))).2
        · exact (t.core.range (.inr hk)).2
      · rw [hk]; exact at_lt t.c1
      · rw [hk]; exact at_lt t.c2
      · exact (t.bk.range hk).2
    omega
  · have e2 : CF p L h A F k := by
      rcases e with e | e
      · exact .inl (.inl e)
      · exact .inr e
    rcases hk with hk | hk | hk
    · exact t.o1.1 (by rw [← hk]; exact e2)
    · exact t.o1.2 (by rw [← hk]; exact e2)
    · exact (t.ob k hk).1 e2
/-- the first shelf was listed -/
theorem P2.listed (t : P2 w0 w p g h L F A n0 b1 b2 gb p' g' L0 F0 xs ls v1 v2 much gq gots wants ts u1 u2 mq m j) (st : Step w0.heap.size w w' p L L) (hr : Rest w0.heap.size w' p L) : P2 w0 w' p g h L F A n0 b1 b2 gb p' g' L0 F0 xs ls v1 v2 much gq gots wants ts u1 u2 mq m j := by
  have hs : Same (SFoot p L F) w w' := st.1.imp fun k hk => .inl (.inl hk)
  exact ⟨t.core.off_ hs fun k hk => ⟨(t.side.range hk).1, (t.off k (.inl hk)).1⟩, ⟨hr, RefIs.off t.side.rl st.1 fun k hk e => t.side.dis k (.inl e) hk, t.side.dis⟩, hs.at t.c1 (t.o2 _ (.inl rfl)), hs.at t.c2 (t.o2 _ (.inr (.inl rfl))), t.bk.off hs fun k hk => t.o2 k (.inr (.inr hk)), t.qk.off hs fun k hk e => (t.off k (.inl e)).2 hk, t.len, t.qlen, t.touch, t.qc, t.off, t.o2⟩
end
end Go.Proofs.YtancenklmfamnaaGreat.Sh
