/- heddlelaw31's Quiet.asked, walked. -/
import Derived.Test.YtfdioplenkcahaaFr3
import Derived.Test.YtfdioplenkcahaaPureFresh
import Derived.Outline
set_option linter.unusedVariables false
set_option linter.unusedSimpArgs false
namespace Go.Proofs.Ytfdioplenkcahaa.Fresh
open Go.RowKit Go.Proofs.Ytfdioplenkcahaa.PShellFresh Go.Proofs.YtfdioplenkcahaaW.PrintWords Go.Proofs.YtfdioplenkcahaaW.PrintLast Go.Proofs.YtfdioplenkcahaaW.PrintMore

/-- a row of strings of the call's own, from the head of its block on -/
def SOwn (W : World) (x : Value) (t : List ByteArray) : Prop :=
  ∃ A c, x = .slice A t.length c ∧ Lst W A t.length c ∧ ∀ b, A = some ⟨b, 0, none⟩ → ∀ j s, t[j]? = some s → W.cell? ⟨b, j, none⟩ = some (.string s)
theorem SOwn.move {W W1 : World} {x : Value} {t : List ByteArray} (h : SOwn W x t) (hm : ∀ k, x.ownBlock = some k → W1.heap[k]? = W.heap[k]?) : SOwn W1 x t := by
  obtain ⟨A, c, rfl, hl, hr⟩ := h
  refine ⟨A, c, rfl, hl.move fun k hk => hm k (by cases A with | none => cases hk | some a => exact hk), fun b hb j s hj => ?_⟩
  subst hb
  rw [World.cell?_of_block (w := W) (hm b rfl)]
  exact hr b rfl j s hj
theorem SOwn.typed {W : World} {x : Value} {t : List ByteArray} (h : SOwn W x t) {k : Nat} (hk : x.ownBlock = some k) : ∃ cur, W.heap[k]? = some (.cells cur 9 (0, 0)) := by
  obtain ⟨A, c, rfl, hl, _⟩ := h
  exact hl.typed (by cases A with | none => cases hk | some a => exact hk)
theorem SOwn.far {W W1 : World} {x : Value} {t : List ByteArray} {S : Nat → Prop} (h : SOwn W x t) (hs : Same S W W1) (hS : ∀ k, x.ownBlock = some k → ¬ S k) : SOwn W1 x t :=
  h.move fun k hk => by
    obtain ⟨cur, hc⟩ := h.typed hk
    exact hs.2.2.2.2 k (Array.getElem?_eq_some_iff.1 hc).1 (hS k hk)
theorem SOwn.reads {W : World} {A : Option Addr} {n c : Nat} {t : List ByteArray} (h : SOwn W (.slice A n c) t) : n = t.length ∧ n ≤ c ∧ Kd.C Kd.string W A t.length t := by
  obtain ⟨A', c', he, hl, hr⟩ := h
  simp only [Value.slice.injEq] at he
  obtain ⟨rfl, rfl, rfl⟩ := he
  rcases hl with ⟨rfl, h0, rfl⟩ | ⟨b, cur, rfl, h1, h2, h3, h4⟩
  · exact ⟨rfl, by omega, rfl, by omega, fun h => by omega⟩
  · unfold maxLen at h2
    refine ⟨rfl, h1, rfl, by omega, fun _ => ⟨_, rfl, fun j p hj => ⟨[.string p], rfl, rfl, fun i u hu => ?_⟩⟩⟩
    match i, hu with
    | 0, hu =>
      simp at hu
      subst hu
      rw [Addr.add_lit]
      simpa [Kd.string, Kd.scalar] using hr b rfl j p hj
/-- what Words answers -/
theorem SOwn.of_R {w : World} {base : Nat} {ok : Nat → Prop} {v : Value} {xs : List ByteArray} (h : Kd.R Kd.string 9 w base ok v xs) : SOwn w v xs ∧ ∀ k, v.ownBlock = some k → base ≤ k ∧ k < w.heap.size := by
  have ho := Kd.own_of_R (enc := Value.string) h
  obtain ⟨h1, h2⟩ := ho
  rcases h2 with ⟨rfl, h0⟩ | ⟨g, cap, cur, rfl, hg, hh, h3, h4, h5, h6⟩
  · refine ⟨⟨none, 0, by rw [h0], .inl ⟨rfl, h0, rfl⟩, fun b hb => by cases hb⟩, fun k hk => by cases hk⟩
  · refine ⟨⟨_, cap, rfl, .inr ⟨g, cur, rfl, h3, h4, hh, by simpa using h5⟩, fun b hb j s hj => ?_⟩, fun k hk => ?_⟩
    · simp only [Option.some.injEq, Addr.mk.injEq, and_true] at hb
      subst hb
      have hj' : j < xs.length := (List.getElem?_eq_some_iff.1 hj).1
      rw [Lib.cell_of_heap hh, ← Array.getElem?_toList]
      have : (List.take (xs.length * 1) cur.toList)[j]? = (encs Value.string xs)[j]? := by rw [h6]
      rw [List.getElem?_take_of_lt (by omega)] at this
      rw [this]
      simp [encs, hj]
    · obtain rfl := Option.some.inj hk
      exact ⟨hg, (Array.getElem?_eq_some_iff.1 hh).1⟩

/-- the answers that are left untouched -/
structure QuietIs (B : Nat) (W : World) (g : Nat) (gots wants : List Value) (txt : List (List ByteArray)) (much : Int) (vg vw : Value) : Prop where
  low : B ≤ g
  blk : W.heap[g]? = some (.cells #[vg, vw, .int .i64 much] 39 (0, 0))
  og : W.ownsRow B 22 1 vg gots.length gots
  ow : W.ownsRow B 22 1 vw wants.length wants
  apart : ∀ k, vg.ownBlock = some k → vw.ownBlock ≠ some k
  lg : gots.length = txt.length
  lw : wants.length = txt.length
  good : ∀ (i : Nat) (x : Value) (t : List ByteArray), gots[i]? = some x → txt[i]? = some t → SOwn W x t
  goodw : ∀ (i : Nat) (x : Value) (t : List ByteArray), wants[i]? = some x → txt[i]? = some t → SOwn W x t
  lowg : ∀ x ∈ gots, ∀ k, x.ownBlock = some k → B ≤ k
  dist : ∀ (i j : Nat) (x y : Value), gots[i]? = some x → gots[j]? = some y → i ≠ j → ∀ k, x.ownBlock = some k → y.ownBlock ≠ some k
  distw : ∀ x ∈ gots, ∀ y ∈ wants, ∀ k, x.ownBlock = some k → y.ownBlock ≠ some k
  short : ∀ t ∈ txt, t.length ≤ 65536

theorem own_slice {W : World} {B n : Nat} {v : Value} {xs : List Value} (h : W.ownsRow B 22 1 v n xs) : ∃ A c, v = .slice A n c := by
  rcases h.2 with ⟨rfl, h0⟩ | ⟨g, cap, cur, rfl, _⟩
  · exact ⟨none, 0, by rw [h0]⟩
  · exact ⟨_, _, rfl⟩

set_option maxHeartbeats 1000000 in
theorem qover_any (g : Nat) (vg vw : Value) (much n : Int) (w : World) (hg : w.heap[g]? = some (.cells #[vg, vw, .int .i64 much] 39 (0, 0))) :
    Calls Try.prog 26 #[.pointer (some ⟨g, 0, none⟩), .int .i64 n] w fun e w' => e = .returned (.bool (decide (33554432 < wrap64 (wrap64 (much + 400) + n)))) ∧ w' = w.setCell ⟨g, 2, none⟩ (.int .i64 (wrap64 (wrap64 (much + 400) + n))) := by
  have c1 : w.cell? ⟨g, 2, none⟩ = some (.int .i64 much) := by rw [Lib.cell_of_heap hg]; rfl
  have f1 : w.frozen? ⟨g, 2, none⟩ = false := Lib.frozen_of_heap hg 2
  go_enter Try.func26, Try.ntmps26
  go_wp2
  go_ret
  exact ⟨rfl, rfl⟩

/-- what asking leaves -/
def AskEnd (B : Nat) (w w' : World) (g : Nat) (n : Nat) : Prop :=
  ∃ gots' wants' txt' much' vg' vw', QuietIs B w' g gots' wants' txt' much' vg' vw' ∧ gots'.length ≤ n + 1 ∧ Below B w w'

theorem qupd_facts (w : World) (g : Nat) (vg vw : Value) (much q : Int) (w1 : World) (hg : w.heap[g]? = some (.cells #[vg, vw, .int .i64 much] 39 (0, 0))) (h : w1 = w.setCell ⟨g, 2, none⟩ (.int .i64 q)) :
    w1.heap[g]? = some (.cells #[vg, vw, .int .i64 q] 39 (0, 0)) ∧ Same (fun k => k = g) w w1 := by
  subst h
  refine ⟨?_, Same.set _ _ _ rfl⟩
  have := blk_set hg 2 (.int .i64 q)
  simpa using this

theorem one_one (A : Option Addr) {n c : Nat} : ∀ u ∈ [Value.slice A n c], u.oneCell' = true := by
  intro u hu
  simp at hu
  subst hu
  rfl
theorem cell_new_set (w : World) (p : Addr) (v x : Value) (t : TypeId) : ∀ j u, [x][j]? = some u → ((w.setCell p v).alloc (.cells #[x] t)).cell? ((⟨w.heap.size, 0, none⟩ : Addr).add j) = some u := by
  have := cell_one_new (w.setCell p v) x t
  rw [show (w.setCell p v).heap.size = w.heap.size by simp [World.setCell]] at this
  exact this
theorem set0 {w : World} {g : Nat} {a b c : Value} (h : w.heap[g]? = some (.cells #[a, b, c] 39 (0, 0))) (v : Value) : (w.setCell ⟨g, 0, none⟩ v).heap[g]? = some (.cells #[v, b, c] 39 (0, 0)) := by
  have := blk_set h 0 v
  simpa using this
theorem set1 {w : World} {g : Nat} {a b c : Value} (h : w.heap[g]? = some (.cells #[a, b, c] 39 (0, 0))) (v : Value) : (w.setCell ⟨g, 1, none⟩ v).heap[g]? = some (.cells #[a, v, c] 39 (0, 0)) := by
  have := blk_set h 1 v
  simpa using this
theorem ow_set {w3 w4 : World} {o : Obj} {B n g : Nat} {vg vw : Value} {xs : List Value} (h : w3.ownsRow B 22 1 vw n xs) (hg : (w3.alloc o).grownBy w4 vg.ownBlock) (ha : ∀ k, vg.ownBlock = some k → vw.ownBlock ≠ some k) (ht : ∀ k, vw.ownBlock = some k → g ≠ k) (u : Value) :
    (w4.setCell ⟨g, 0, none⟩ u).ownsRow B 22 1 vw n xs := by
  refine own_move h fun k hk => ?_
  obtain ⟨_, cur, hc⟩ := own_ty h hk
  rw [Below.heap_setCell w4 ⟨g, 0, none⟩ u k (fun e => ht k hk e.symm)]
  exact (grown_at hg (blk_alloc hc o) (fun k' hk' e => by subst e; exact ha k hk' hk)).trans hc.symm
theorem ask_same {w3 w4 w5 : World} {o1 o2 : Obj} {g : Nat} {vg vw a : Value} (h4 : (w3.alloc o1).grownBy w4 vg.ownBlock) (h5 : ((w4.setCell ⟨g, 0, none⟩ a).alloc o2).grownBy w5 vw.ownBlock) (b : Value) :
    Same (fun k => k = g ∨ vg.ownBlock = some k ∨ vw.ownBlock = some k) w3 (w5.setCell ⟨g, 1, none⟩ b) :=
  ((((((Same.below ((Below.refl _ w3).alloc (Nat.le_refl _) o1)).trans (Same.grown h4 (fun k hk => .inr (.inl hk)))).trans (Same.set _ _ _ (.inl rfl))).trans (Same.below ((Below.refl _ _).alloc (Nat.le_refl _) o2))).trans (Same.grown h5 (fun k hk => .inr (.inr hk)))).trans (Same.set _ _ _ (.inl rfl)))

theorem Same.toBelow {S : Nat → Prop} {a b : World} {B : Nat} (h : Same S a b) (hB : B ≤ a.heap.size) (hS : ∀ k, k < B → ¬ S k) : Below B a b :=
  ⟨h.1, h.2.1, h.2.2.1, h.2.2.2.1, fun k hk => h.2.2.2.2 k (by omega) (hS k hk)⟩
theorem Same.drewN {S : Nat → Prop} {a b : World} (h : Same S a b) (n : Nat) : Same S a (b.drewN n) := h
theorem SOwn.old {W : World} {x : Value} {t : List ByteArray} (h : SOwn W x t) {k : Nat} (hk : x.ownBlock = some k) : k < W.heap.size := by
  obtain ⟨cur, hc⟩ := h.typed hk
  exact (Array.getElem?_eq_some_iff.1 hc).1
theorem at_txt {xs : List Value} {txt : List (List ByteArray)} (hl : xs.length = txt.length) {i : Nat} {x : Value} (hx : xs[i]? = some x) : ∃ t, txt[i]? = some t := by
  have := (List.getElem?_eq_some_iff.1 hx).1
  exact ⟨_, List.getElem?_eq_getElem (by omega)⟩
theorem QuietIs.oldg {B g : Nat} {gots wants : List Value} {txt : List (List ByteArray)} {much : Int} {vg vw : Value} {w : World} (h : QuietIs B w g gots wants txt much vg vw) {x : Value} (hx : x ∈ gots) {k : Nat} (hk : x.ownBlock = some k) : k < w.heap.size := by
  obtain ⟨i, hi⟩ := List.getElem?_of_mem hx
  obtain ⟨t, ht⟩ := at_txt h.lg hi
  exact (h.good i x t hi ht).old hk
theorem QuietIs.oldw {B g : Nat} {gots wants : List Value} {txt : List (List ByteArray)} {much : Int} {vg vw : Value} {w : World} (h : QuietIs B w g gots wants txt much vg vw) {x : Value} (hx : x ∈ wants) {k : Nat} (hk : x.ownBlock = some k) : k < w.heap.size := by
  obtain ⟨i, hi⟩ := List.getElem?_of_mem hx
  obtain ⟨t, ht⟩ := at_txt h.lw hi
  exact (h.goodw i x t hi ht).old hk
theorem QuietIs.far {B g : Nat} {gots wants : List Value} {txt : List (List ByteArray)} {much q : Int} {vg vw : Value} {w w1 : World} (h : QuietIs B w g gots wants txt much vg vw) (hs : Same (fun k => k = g) w w1)
    (h1 : w1.heap[g]? = some (.cells #[vg, vw, .int .i64 q] 39 (0, 0))) : QuietIs B w1 g gots wants txt q vg vw where
  low := h.low
  blk := h1
  og := own_far h.og hs fun k hk e => by obtain ⟨_, cur, hc⟩ := own_ty h.og hk; exact ty_ne hc h.blk (by decide) e
  ow := own_far h.ow hs fun k hk e => by obtain ⟨_, cur, hc⟩ := own_ty h.ow hk; exact ty_ne hc h.blk (by decide) e
  apart := h.apart
  lg := h.lg
  lw := h.lw
  good i x t hx ht := (h.good i x t hx ht).far hs fun k hk e => by obtain ⟨cur, hc⟩ := (h.good i x t hx ht).typed hk; exact ty_ne hc h.blk (by decide) e
  goodw i x t hx ht := (h.goodw i x t hx ht).far hs fun k hk e => by obtain ⟨cur, hc⟩ := (h.goodw i x t hx ht).typed hk; exact ty_ne hc h.blk (by decide) e
  lowg := h.lowg
  dist := h.dist
  distw := h.distw
  short := h.short

/-- asked, and nothing kept -/
theorem quiet_asked {B g : Nat} {gots wants : List Value} {txt : List (List ByteArray)} {much q : Int} {vg vw : Value} {w w2 w3 : World} (hq : QuietIs B w g gots wants txt much vg vw) (hb : Below B w w2)
    (h3 : w3.heap[g]? = some (.cells #[vg, vw, .int .i64 q] 39 (0, 0))) (hs : Same (fun k => k = g) w2 w3) (nd : Nat) (hs0 : Below w.heap.size w w2) : AskEnd B w (w3.drewN nd) g gots.length := by
  have hs1 : Same (fun k => k = g) w (w3.drewN nd) := ((Same.below hs0).trans hs).drewN nd
  have hgl : g < w.heap.size := (Array.getElem?_eq_some_iff.1 hq.blk).1
  have := hq.low
  exact ⟨gots, wants, txt, q, vg, vw, hq.far hs1 h3, by omega, hs1.toBelow (by omega) fun k hk e => by omega⟩

/-- asked, and both answers kept -/
theorem quiet_added {B g : Nat} {gots wants : List Value} {txt : List (List ByteArray)} {ws : List ByteArray} {much q : Int} {Ag Aw A1 A2 A4 A5 : Option Addr} {cg cw c1 c2 c4 c5 : Nat} {w w1 w3 w4 w5 : World} {o1 o2 : Obj}
    (hq : QuietIs B w g gots wants txt much (.slice Ag gots.length cg) (.slice Aw wants.length cw)) (hBw : B ≤ w.heap.size) (h3 : w3.heap[g]? = some (.cells #[.slice Ag gots.length cg, .slice Aw wants.length cw, .int .i64 q] 39 (0, 0)))
    (hs : Same (fun k => k = g) w w3) (so1 : SOwn w3 (.slice A1 ws.length c1) ws) (so2 : SOwn w3 (.slice A2 ws.length c2) ws) (h01 : w.heap.size ≤ w1.heap.size)
    (hn1 : ∀ k, (Value.slice A1 ws.length c1).ownBlock = some k → w.heap.size ≤ k ∧ k < w1.heap.size) (hn2 : ∀ k, (Value.slice A2 ws.length c2).ownBlock = some k → w1.heap.size ≤ k)
    (hown4 : w4.ownsRow B 22 1 (.slice A4 (gots.length + 1) c4) (gots.length + 1) (gots ++ [Value.slice A1 ws.length c1])) (hgw4 : (w3.alloc o1).grownBy w4 (Value.slice Ag gots.length cg).ownBlock)
    (hat4 : (Value.slice A4 (gots.length + 1) c4).ownBlock = (Value.slice Ag gots.length cg).ownBlock ∨ (Value.slice A4 (gots.length + 1) c4).ownBlock = some (w3.alloc o1).heap.size)
    (hown5 : w5.ownsRow B 22 1 (.slice A5 (wants.length + 1) c5) (wants.length + 1) (wants ++ [Value.slice A2 ws.length c2])) (hgw5 : ((w4.setCell ⟨g, 0, none⟩ (.slice A4 (gots.length + 1) c4)).alloc o2).grownBy w5 (Value.slice Aw wants.length cw).ownBlock)
    (hat5 : (Value.slice A5 (wants.length + 1) c5).ownBlock = (Value.slice Aw wants.length cw).ownBlock ∨ (Value.slice A5 (wants.length + 1) c5).ownBlock = some ((w4.setCell ⟨g, 0, none⟩ (.slice A4 (gots.length + 1) c4)).alloc o2).heap.size)
    (h5 : w5.heap[g]? = some (.cells #[.slice A4 (gots.length + 1) c4, .slice Aw wants.length cw, .int .i64 q] 39 (0, 0))) (hws : ws.length ≤ 65536) (nd : Nat) :
    AskEnd B w ((w5.setCell ⟨g, 1, none⟩ (.slice A5 (wants.length + 1) c5)).drewN nd) g gots.length := by
  have hgl : g < w.heap.size := (Array.getElem?_eq_some_iff.1 hq.blk).1
  have hlow := hq.low
  have hs3 := hs.2.2.2.1
  have hs4 := hgw4.size
  have hs5 := hgw5.size
  simp at hs4
  simp [World.setCell] at hs5
  have sf : Same (fun k => k = g ∨ (Value.slice Ag gots.length cg).ownBlock = some k ∨ (Value.slice Aw wants.length cw).ownBlock = some k) w3 ((w5.setCell ⟨g, 1, none⟩ (.slice A5 (wants.length + 1) c5)).drewN nd) := (ask_same hgw4 hgw5 (.slice A5 (wants.length + 1) c5)).drewN nd
  have sw := (same_imp hs (fun k e => .inl e : ∀ k, k = g → (k = g ∨ (Value.slice Ag gots.length cg).ownBlock = some k ∨ (Value.slice Aw wants.length cw).ownBlock = some k))).trans sf
  have tg : ∀ k, (Value.slice Ag gots.length cg).ownBlock = some k → B ≤ k ∧ k < w.heap.size := fun k hk => by obtain ⟨h1, cur, hc⟩ := own_ty hq.og hk; exact ⟨h1, (Array.getElem?_eq_some_iff.1 hc).1⟩
  have tw : ∀ k, (Value.slice Aw wants.length cw).ownBlock = some k → B ≤ k ∧ k < w.heap.size := fun k hk => by obtain ⟨h1, cur, hc⟩ := own_ty hq.ow hk; exact ⟨h1, (Array.getElem?_eq_some_iff.1 hc).1⟩
  have apart : ∀ k, (Value.slice A4 (gots.length + 1) c4).ownBlock = some k → (Value.slice A5 (wants.length + 1) c5).ownBlock ≠ some k := by
    intro k hk e
    have k4 : k < w4.heap.size := by obtain ⟨_, cur, hc⟩ := own_ty hown4 hk; exact (Array.getElem?_eq_some_iff.1 hc).1
    rcases hat5 with e5 | e5
    · rw [e5] at e
      rcases hat4 with e4 | e4
      · rw [e4] at hk
        exact hq.apart k hk e
      · rw [e4] at hk
        have := (tw k e).2
        simp at hk
        omega
    · rw [e5] at e
      simp [World.setCell] at e
      omega
  have far1 : ∀ {x : Value} {t : List ByteArray}, SOwn w x t → SOwn ((w5.setCell ⟨g, 1, none⟩ (.slice A5 (wants.length + 1) c5)).drewN nd) x t := fun h => h.far sw fun k hk e => by
    obtain ⟨cur, hc⟩ := h.typed hk
    rcases e with e | e | e
    · exact ty_ne hc hq.blk (by decide) e
    · obtain ⟨_, cur2, hc2⟩ := own_ty hq.og e; exact ty_ne hc hc2 (by decide) rfl
    · obtain ⟨_, cur2, hc2⟩ := own_ty hq.ow e; exact ty_ne hc hc2 (by decide) rfl
  have far3 : ∀ {x : Value} {t : List ByteArray}, SOwn w3 x t → (∀ k, x.ownBlock = some k → w.heap.size ≤ k) → SOwn ((w5.setCell ⟨g, 1, none⟩ (.slice A5 (wants.length + 1) c5)).drewN nd) x t := fun h hk' => h.far sf fun k hk e => by
    have := hk' k hk
    rcases e with e | e | e
    · omega
    · have := (tg k e).2; omega
    · have := (tw k e).2; omega
  have pick : ∀ {xs : List Value} {y z : Value} {i : Nat}, (xs ++ [y])[i]? = some z → (i < xs.length ∧ xs[i]? = some z) ∨ (i = xs.length ∧ z = y) := by
    intro xs y z i h
    by_cases hi : i < xs.length
    · rw [List.getElem?_append_left hi] at h
      exact .inl ⟨hi, h⟩
    · rw [List.getElem?_append_right (by omega)] at h
      have h0 := (List.getElem?_eq_some_iff.1 h).1
      simp at h0
      obtain rfl : i = xs.length := by omega
      simp at h
      exact .inr ⟨rfl, h.symm⟩
  refine ⟨gots ++ [.slice A1 ws.length c1], wants ++ [.slice A2 ws.length c2], txt ++ [ws], q, .slice A4 (gots.length + 1) c4, .slice A5 (wants.length + 1) c5, ?_, by simp, sw.toBelow hBw fun k hk e => ?_⟩
  · refine ⟨hlow, set1 h5 _, ?_, ?_, apart, by simp [hq.lg], by simp [hq.lw], ?_, ?_, ?_, ?_, ?_, ?_⟩
    · rw [show (gots ++ [Value.slice A1 ws.length c1]).length = gots.length + 1 by simp]
      refine own_move hown4 fun k hk => ?_
      obtain ⟨_, cur, hc⟩ := own_ty hown4 hk
      have h4g : k ≠ g := by
        rintro rfl
        have h5b := h5
        have hx := grown_at hgw5 (blk_alloc (blk_set hc 0 (.slice A4 (gots.length + 1) c4)) o2) (fun k' hk' e => by
          subst e
          have := (tw k hk').2
          obtain ⟨_, cur2, hc2⟩ := own_ty hq.ow hk'
          exact ty_ne hc2 hq.blk (by decide) rfl)
        exact ty_ne hx h5 (by decide) rfl
      have hvw : (Value.slice Aw wants.length cw).ownBlock ≠ some k := by
        intro e
        rcases hat4 with e4 | e4
        · rw [e4] at hk
          exact hq.apart k hk e
        · rw [e4] at hk
          have := (tw k e).2
          simp at hk
          omega
      rw [hc]
      have e1 : (w4.setCell ⟨g, 0, none⟩ (.slice A4 (gots.length + 1) c4)).heap[k]? = some (.cells cur 22 (0, 0)) := (Below.heap_setCell w4 ⟨g, 0, none⟩ _ k h4g).trans hc
      have e2 := grown_at hgw5 (blk_alloc e1 o2) (fun k' hk' e => by subst e; exact hvw hk')
      exact (Below.heap_setCell w5 ⟨g, 1, none⟩ _ k h4g).trans e2
    · rw [show (wants ++ [Value.slice A2 ws.length c2]).length = wants.length + 1 by simp]
      refine own_far (S := fun k => k = g) hown5 ((Same.set (S := fun k => k = g) w5 ⟨g, 1, none⟩ (.slice A5 (wants.length + 1) c5) rfl).drewN nd) fun k hk e => ?_
      obtain ⟨_, cur, hc⟩ := own_ty hown5 hk
      exact ty_ne hc h5 (by decide) e
    · intro i x t hx ht
      rcases pick hx with ⟨hi, hx⟩ | ⟨rfl, rfl⟩
      · rw [List.getElem?_append_left (by rw [← hq.lg]; exact hi)] at ht
        exact far1 (hq.good i x t hx ht)
      · rw [hq.lg] at ht
        simp at ht
        subst ht
        exact far3 so1 fun k hk => (hn1 k hk).1
    · intro i x t hx ht
      rcases pick hx with ⟨hi, hx⟩ | ⟨rfl, rfl⟩
      · rw [List.getElem?_append_left (by rw [← hq.lw]; exact hi)] at ht
        exact far1 (hq.goodw i x t hx ht)
      · rw [hq.lw] at ht
        simp at ht
        subst ht
        exact far3 so2 fun k hk => by have := hn2 k hk; omega
    · intro x hx k hk
      rcases List.mem_append.1 hx with hx | hx
      · exact hq.lowg x hx k hk
      · simp at hx
        subst hx
        have := (hn1 k hk).1
        omega
    · intro i j x y hx hy hij k hk e
      rcases pick hx with ⟨hi, hx⟩ | ⟨rfl, rfl⟩
      · have ox := hq.oldg (List.mem_of_getElem? hx) hk
        rcases pick hy with ⟨hj, hy⟩ | ⟨rfl, rfl⟩
        · exact hq.dist i j x y hx hy hij k hk e
        · have := (hn1 k e).1
          omega
      · rcases pick hy with ⟨hj, hy⟩ | ⟨rfl, rfl⟩
        · have ox := hq.oldg (List.mem_of_getElem? hy) e
          have := (hn1 k hk).1
          omega
        · exact hij rfl
    · intro x hx y hy k hk e
      rcases List.mem_append.1 hx with hx | hx
      · have ox := hq.oldg hx hk
        rcases List.mem_append.1 hy with hy | hy
        · exact hq.distw x hx y hy k hk e
        · simp at hy
          subst hy
          have := hn2 k e
          omega
      · simp at hx
        subst hx
        rcases List.mem_append.1 hy with hy | hy
        · have oy := hq.oldw hy e
          have := (hn1 k hk).1
          omega
        · simp at hy
          subst hy
          have := hn2 k e
          have := (hn1 k hk).2
          omega
    · intro t ht
      rcases List.mem_append.1 ht with ht | ht
      · exact hq.short t ht
      · simp at ht
        subst ht
        exact hws
  · rcases e with e | e | e
    · omega
    · have := (tg k e).1; omega
    · have := (tw k e).1; omega

set_option maxHeartbeats 8000000 in
set_option maxRecDepth 1000000 in
theorem asked_any (B g : Nat) (gots wants : List Value) (txt : List (List ByteArray)) (much : Int) (vg vw : Value) (line : ByteArray) (w : World) (hq : QuietIs B w g gots wants txt much vg vw) (hBw : B ≤ w.heap.size) (hl : gots.length ≤ 1099511627)
    (hs : line.size ≤ 1048576) :
    Calls Try.prog 15 #[.pointer (some ⟨g, 0, none⟩), .string line] w fun e w' => e = .returned (.bool true) ∧ AskEnd B w w' g gots.length := by
  obtain ⟨R, ev1, ev2, hR⟩ := PureFresh.words_alike line hs
  obtain ⟨k, hk1, hk2⟩ := together (shell_Words.mono line) (heddleref31_Words.mono line) ev1.rounds ev2.rounds
  obtain ⟨kt, hkt⟩ := (PureFresh.texts_refl R.1 (by omega)).rounds
  obtain ⟨ws, en⟩ := R
  simp only at hR hkt
  have HQ := Lib.hid hq
  have HRL : Hid (ws.length ≤ 65536) := Lib.hid hR
  have HK1 := Lib.hid hk1
  have HK2 := Lib.hid hk2
  have HKT := Lib.hid hkt
  clear hq hk1 hk2 hkt ev1 ev2
  go_enter Try.func15, Try.ntmps15
  go_wp2_with (go_at_call 7; ((with_reducible refine (shell_Words.calls k line ws en w HK1.out).mono ?_); rintro e w1 ⟨v1, rfl, hr1, hb1⟩; have HR1 := Lib.hid (SOwn.of_R hr1); have HB1 := Lib.hid hb1; clear hr1 hb1; obtain ⟨A1, c1, rfl⟩ : ∃ A1 c1, v1 = .slice A1 ws.length c1 := HR1.out.1.imp fun _ h => h.imp fun _ h => h.1))
  go_wp2_with (go_at_call 8; ((with_reducible refine (heddleref31_Words.calls k line ws en w1 HK2.out).mono ?_); rintro e w2 ⟨v2, rfl, hr2, hb2⟩; have HR2 := Lib.hid (SOwn.of_R hr2); have HB2 := Lib.hid hb2; clear hr2 hb2; obtain ⟨A2, c2, rfl⟩ : ∃ A2 c2, v2 = .slice A2 ws.length c2 := HR2.out.1.imp fun _ h => h.imp fun _ h => h.1))
  have hg2 : w2.heap[g]? = some (.cells #[vg, vw, .int .i64 much] 39 (0, 0)) := (Same.below (S := fun _ => False) HB2.out).at ((Same.below (S := fun _ => False) HB1.out).at HQ.out.blk (fun e => e)) (fun e => e)
  obtain ⟨Ag, cg, rfl⟩ := own_slice HQ.out.og
  obtain ⟨Aw, cw, rfl⟩ := own_slice HQ.out.ow
  have HG2 := Lib.hid hg2
  clear hg2
  have HNG : Hid (∀ k, ((Value.slice A1 ws.length c1).ownBlock = some k ∨ (Value.slice A2 ws.length c2).ownBlock = some k) → k ≠ g) := Lib.hid (fun k hk e => by
    subst e
    have h1 := Array.getElem?_eq_some_iff.1 HQ.out.blk
    have h2 := HB1.out.size
    rcases hk with hk | hk
    · have := HR1.out.2 _ hk; obtain ⟨h1, _⟩ := h1; omega
    · have := HR2.out.2 _ hk; obtain ⟨h1, _⟩ := h1; omega)
  go_upto_if 28 with (go_at_call 26; ((with_reducible refine (qover_any g (.slice Ag gots.length cg) (.slice Aw wants.length cw) much _ w2 HG2.out).mono ?_); rintro e w3 ⟨rfl, hw3⟩; have hu := Lib.hid (qupd_facts w2 g _ _ much _ w3 HG2.out hw3); clear hw3; generalize wrap64 (wrap64 (much + 400) + (40 * (ws.length : Int) + 2 * (line.size : Int))) = q at *; obtain ⟨h3g, hs3⟩ := hu.out; clear hu; have H3G := Lib.hid h3g; have HS3 := Lib.hid hs3; clear h3g hs3))
  have bw2 : Below B w w2 := (HB1.out.mono hBw).trans (HB2.out.mono (Nat.le_trans hBw HB1.out.size))
  by_cases hq : 33554432 < q
  · rw [show decide (33554432 < q) = true from decide_eq_true hq]
    have rd1 := Lib.hid (SOwn.reads ((HR1.out.1.far (Same.below (S := fun _ => False) HB2.out) (fun _ _ e => e)).far HS3.out (fun k hk e => HNG.out k (.inl hk) e)))
    have rd2 := Lib.hid (SOwn.reads (HR2.out.1.far HS3.out (fun k hk e => HNG.out k (.inr hk) e)))
    go_wp2_with (go_at_call 9; ((with_reducible refine (heddlelaw31_texts.calls kt A1 c1 ws A2 c2 ws true w3 rd1.out.2.2 rd1.out.2.1 rd2.out.2.2 rd2.out.2.1 HKT.out).mono ?_); rintro e w4 ⟨rfl, ⟨⟨nd, rfl⟩⟩⟩))
    go_ret
    exact ⟨rfl, quiet_asked HQ.out bw2 H3G.out HS3.out nd (HB1.out.trans (HB2.out.mono HB1.out.size))⟩
  · rw [show decide (33554432 < q) = false from decide_eq_false hq]
    obtain ⟨i0, hi, hz0, hz1, hz2⟩ := info_parts info22
    have s23 : Same (fun k => k = g) w w3 := (Same.below HB1.out).trans ((Same.below HB2.out).trans HS3.out)
    have og3 := own_far HQ.out.og s23 (fun k hk e => by obtain ⟨_, cur, hc⟩ := own_ty HQ.out.og hk; exact ty_ne hc HQ.out.blk (by decide) e)
    have ow3 := own_far HQ.out.ow s23 (fun k hk e => by obtain ⟨_, cur, hc⟩ := own_ty HQ.out.ow hk; exact ty_ne hc HQ.out.blk (by decide) e)
    have hB3 : B ≤ w3.heap.size := Nat.le_trans hBw s23.2.2.2.1
    have OG3 := Lib.hid og3
    have OW3 := Lib.hid ow3
    have S23 := Lib.hid s23
    have c30 : w3.cell? ⟨g, 0, none⟩ = some (.slice Ag gots.length cg) := by rw [Lib.cell_of_heap H3G.out]; rfl
    clear og3 ow3 s23
    have HNV : Hid (∀ k, ((Value.slice A1 ws.length c1).ownBlock = some k ∨ (Value.slice A2 ws.length c2).ownBlock = some k) → ¬ (k = g ∨ (Value.slice Ag gots.length cg).ownBlock = some k ∨ (Value.slice Aw wants.length cw).ownBlock = some k)) := Lib.hid (fun k hk e => by
      have hlt : ∀ {o}, w.heap[k]? = some o → False := fun h => by
        have h1 := (Array.getElem?_eq_some_iff.1 h).1
        have h2 := HB1.out.size
        rcases hk with hk | hk
        · have := (HR1.out.2 _ hk).1; omega
        · have := (HR2.out.2 _ hk).1; omega
      rcases e with e | e | e
      · exact HNG.out k hk e
      · obtain ⟨_, cur, hc⟩ := own_ty HQ.out.og e; exact hlt hc
      · obtain ⟨_, cur, hc⟩ := own_ty HQ.out.ow e; exact hlt hc)
    have tyg : Hid (∀ k, (Value.slice Ag gots.length cg).ownBlock = some k → g ≠ k) := Lib.hid (fun k hk e => by obtain ⟨_, cur, hc⟩ := own_ty OG3.out hk; exact ty_ne hc H3G.out (by decide) e.symm)
    have tyw : Hid (∀ k, (Value.slice Aw wants.length cw).ownBlock = some k → g ≠ k) := Lib.hid (fun k hk e => by obtain ⟨_, cur, hc⟩ := own_ty OW3.out hk; exact ty_ne hc H3G.out (by decide) e.symm)
    have so1 := Lib.hid ((HR1.out.1.far (Same.below (S := fun _ => False) HB2.out) (fun _ _ e => e)).far HS3.out (fun k hk e => HNG.out k (.inl hk) e))
    have so2 := Lib.hid (HR2.out.1.far HS3.out (fun k hk e => HNG.out k (.inr hk) e))
    have HLW : Hid (wants.length = gots.length) := Lib.hid (by rw [HQ.out.lw, HQ.out.lg])
    go_wp2_with (first
      | (at_builtin; refine wpList_append_own_at _ rfl (.tmp 33) (.tmp 35) 33 rfl B 22 i0 (.slice none 0 0) 1 24 Try.underlying33 hi hz0 hz1 hz2 rfl (by decide) _ _ _ rfl (OG3.out.alloc _) ⟨w3.heap.size, 0, none⟩ 1 1 [.slice A1 ws.length c1] rfl rfl (cell_one_new w3 _ _) (one_one _) (by unfold maxLen; omega) (by omega) (by simp; omega) ?_; intro v4 w4 hown4 hgw4 _ hat4; obtain ⟨A4, c4, rfl⟩ := own_slice hown4; have h4g := Lib.hid (grown_at hgw4 (blk_alloc H3G.out _) tyg.out); have e40 : w4.cell? ⟨g, 0, none⟩ = some (.slice Ag gots.length cg) := (Lib.cell_of_heap h4g.out 0).trans rfl; have e4f := Lib.frozen_of_heap h4g.out 0; have e41 : w4.cell? ⟨g, 1, none⟩ = some (.slice Aw wants.length cw) := (Lib.cell_of_heap h4g.out 1).trans rfl; have OW4 := Lib.hid (ow_set OW3.out hgw4 HQ.out.apart tyw.out (.slice A4 (gots.length + 1) c4)); have HO4 := Lib.hid hown4; have HG4 := Lib.hid hgw4; have HA4 := Lib.hid hat4; clear hown4 hgw4 hat4)
      | (at_builtin; go_must (refine wpList_append_own_at _ rfl (.tmp 43) (.tmp 45) 33 rfl B 22 i0 (.slice none 0 0) 1 24 Try.underlying33 hi hz0 hz1 hz2 rfl (by decide) _ _ _ rfl (OW4.out.alloc _) ⟨w4.heap.size, 0, none⟩ 1 1 [.slice A2 ws.length c2] rfl rfl (cell_new_set w4 _ _ _ _) (one_one _) (by have := HLW.out; unfold maxLen; omega) (by have := HLW.out; omega) (by have := HG4.out.size; simp [World.setCell] at this ⊢; omega) ?_; intro v5 w5 hown5 hgw5 _ hat5; obtain ⟨A5, c5, rfl⟩ := own_slice hown5; have h5g := Lib.hid (grown_at hgw5 (blk_alloc (set0 h4g.out _) _) tyw.out); have e51 : w5.cell? ⟨g, 1, none⟩ = some (.slice Aw wants.length cw) := (Lib.cell_of_heap h5g.out 1).trans rfl; have e5f := Lib.frozen_of_heap h5g.out 1; have sf := Lib.hid (ask_same HG4.out hgw5 (.slice A5 (wants.length + 1) c5)); have rd1 := Lib.hid (so1.out.far sf.out (fun k hk e => HNV.out k (.inl hk) e)).reads; have rd2 := Lib.hid (so2.out.far sf.out (fun k hk e => HNV.out k (.inr hk) e)).reads; have HO5 := Lib.hid hown5; have HG5 := Lib.hid hgw5; have HA5 := Lib.hid hat5; clear hown5 hgw5 hat5))
      | (go_at_call 9; ((with_reducible refine (heddlelaw31_texts.calls kt A1 c1 ws A2 c2 ws true _ rd1.out.2.2 rd1.out.2.1 rd2.out.2.2 rd2.out.2.1 HKT.out).mono ?_); rintro e w6 ⟨rfl, ⟨⟨nd, rfl⟩⟩⟩)))
    go_ret
    exact ⟨rfl, quiet_added HQ.out hBw H3G.out S23.out so1.out so2.out HB1.out.size (fun k hk => HR1.out.2 k hk) (fun k hk => (HR2.out.2 k hk).1) HO4.out HG4.out HA4.out HO5.out HG5.out HA5.out h5g.out HRL.out nd⟩
end Go.Proofs.Ytfdioplenkcahaa.Fresh
