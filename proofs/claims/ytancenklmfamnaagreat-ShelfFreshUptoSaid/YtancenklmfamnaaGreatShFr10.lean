/- ShelfFresh: untouched. -/
import Derived.Test.YtancenklmfamnaaGreatShFr9
set_option linter.unusedVariables false
set_option linter.unusedSimpArgs false
namespace Go.Proofs.YtancenklmfamnaaGreat.Sh
open Go.RowKit Go.Maps Go.Sort Go.Shelf
open Go.Proofs Go.MuLone
open Go.Proofs.YtancenklmfamnaaGreatW.PrintWords (Reps OwnRow Kd ReadsRow)
open PShelfPlays (S70 S104 S115 k70 k104 k115)

/-- four cells of an answer, read -/
theorem ans_read {w : World} {B : Nat} {A : Option Addr} {c n : Nat} {gs : List An} {ts : List Tx} (ho : w.ownsRow B 43 4 (.slice A n c) n (ansC gs ts)) (hn : n = gs.length) {i : Nat} {a : An} {t : Tx} (ha : gs[i]? = some a) (ht : ts[i]? = some t) :
    ∃ b, A = some ⟨b, 0, none⟩ ∧ w.cell? ⟨b, i * 4, none⟩ = some (.slice a.a1 a.n1 a.c1) ∧ w.cell? ⟨b, i * 4 + 1, none⟩ = some (.int .i64 t.v) ∧ w.cell? ⟨b, i * 4 + 2, none⟩ = some (.slice a.a2 a.n2 a.c2) ∧ w.cell? ⟨b, i * 4 + 3, none⟩ = some (.int .i64 t.e) := by
  have hi := (List.getElem?_eq_some_iff.1 ha).1
  obtain ⟨b, hA, _, _, _, hcell⟩ := own_cell ho (by omega)
  have h := fun (r : Nat) (hr : r < 4) => ansC_at ha ht hr
  refine ⟨b, hA, hcell _ _ ?_, hcell _ _ ?_, hcell _ _ ?_, hcell _ _ ?_⟩
  · exact h 0 (by decide)
  · exact h 1 (by decide)
  · exact h 2 (by decide)
  · exact h 3 (by decide)
/-- in the loop that writes the answers over -/
structure UK (B : Nat) (w wr : World) (gq : Nat) (gots wants : List An) (ts : List Tx) (v1 v2 : Value) (much : Int) (gb i : Nat) (xs ls : List Value) (u1 u2 : Value) (m2 : Int) : Prop where
  below : Below B w wr
  bk : BK B wr gb xs ls u1 u2 m2
  even : xs.length % 2 = 0 ∧ ls.length % 2 = 0
  len : xs.length ≤ 2 * i ∧ ls.length ≤ 2 * i
  blk : wr.heap[gq]? = some (.cells #[v1, v2, .int .i64 much] 60 (0, 0))
  o1 : wr.ownsRow B 43 4 v1 gots.length (ansC gots ts)
  g1 : ∀ (j : Nat) (a : An) (t : Tx), i ≤ j → gots[j]? = some a → ts[j]? = some t → OwnAn B wr a t ∧ ∀ k, a.blk k → ¬ BF gb xs ls u1 u2 k
  off : ∀ k, (k = gq ∨ v1.ownBlock = some k) → ¬ BF gb xs ls u1 u2 k
theorem own_capm {w : World} {B e sz n c k : Nat} {A : Option Addr} {xs : List Value} (h : w.ownsRow B e sz (.slice A n c) k xs) : c ≤ maxLen ∧ n = k := by
  rcases h.2 with ⟨h1, h0⟩ | ⟨g, cap, cur, h1, _, _, _, h2, _⟩
  · injection h1 with _ h3 h4
    exact ⟨by rw [h4]; exact Nat.zero_le _, by omega⟩
  · injection h1 with _ h3 h4
    exact ⟨by rw [h4]; exact h2, h3⟩
section
variable {B gq : Nat} {w wr w' : World} {gots wants : List An} {ts : List Tx} {v1 v2 : Value} {much : Int}
theorem UK.start (hq : QK B w gq gots wants ts v1 v2 much) (hb : Below w.heap.size w wr) (hB : B ≤ w.heap.size) : UK B w (wr.alloc (.cells #[.slice none 0 0, .slice none 0 0, .int .i64 0] 55)) gq gots wants ts v1 v2 much wr.heap.size 0 [] [] (.slice none 0 0) (.slice none 0 0) 0 := by
  have hz := hb.size
  have hba := hb.trans ((below_alloc wr (.cells #[.slice none 0 0, .slice none 0 0, .int .i64 0] 55)).mono hz)
  have q := hq.below_ hba
  have hBF : ∀ k, BF wr.heap.size [] [] (.slice none 0 0) (.slice none 0 0) k → k = wr.heap.size := fun k hk => by
    rcases hk with h | h | h | ⟨_, h, _⟩ | ⟨_, h, _⟩
    · exact h
    · simp [Value.ownBlock] at h
    · simp [Value.ownBlock] at h
    · cases h
    · cases h
  refine ⟨hba.mono hB, ⟨by omega, alloc_is wr _, World.ownsRow_nil _ _ _ _, World.ownsRow_nil _ _ _ _, (fun i x h => by simp at h), (fun i x h => by simp at h)⟩, ⟨rfl, rfl⟩, ⟨Nat.zero_le _, Nat.zero_le _⟩, q.blk, q.o1, fun j a t _ ha ht => ⟨q.g1 j a t ha ht, fun k hk e => ?_⟩, fun k hk e => ?_⟩
  · have h1 := hBF k e
    have h2 := (hq.range (k := k) (.inr (.inr (.inr (.inl ⟨a, List.mem_of_getElem? ha, hk⟩))))).2
    omega
  · have h1 := hBF k e
    have h2 := (hq.range (k := k) (by
      rcases hk with hk | hk
      · exact .inl hk
      · exact .inr (.inl hk))).2
    omega
theorem UK.next {gb i : Nat} {xs ls : List Value} {u1 u2 : Value} {m2 : Int} {wq : World} (hq : QK B w gq gots wants ts v1 v2 much) (k : UK B w wq gq gots wants ts v1 v2 much gb i xs ls u1 u2 m2) {a : An} {t : Tx} (ha : gots[i]? = some a) (ht : ts[i]? = some t) (he : TakeEnd B gb wq w' xs ls u1 u2 a.a1 a.a2) :
    ∃ xs' ls' u1' u2' m2', UK B w w' gq gots wants ts v1 v2 much gb (i + 1) xs' ls' u1' u2' m2' ∧ Same (fun x => ¬ (x = gq ∨ v1.ownBlock = some x)) wq w' := by
  obtain ⟨xs', ls', u1', u2', m2', hbk, hl1, hl2, hev, hs, hbf⟩ := he
  obtain ⟨hga, hgaf⟩ := k.g1 i a t (Nat.le_refl _) ha ht
  have hS : ∀ x, (x = gb ∨ u1.ownBlock = some x ∨ u2.ownBlock = some x ∨ a.a1.map (·.block) = some x ∨ a.a2.map (·.block) = some x) → (B ≤ x ∧ x < wq.heap.size) ∧ (BF gb xs ls u1 u2 x ∨ a.blk x) := fun x hx => by
    rcases hx with hx | hx | hx | hx | hx
    · exact ⟨k.bk.range (.inl hx), .inl (.inl hx)⟩
    · exact ⟨k.bk.range (.inr (.inl hx)), .inl (.inr (.inl hx))⟩
    · exact ⟨k.bk.range (.inr (.inr (.inl hx))), .inl (.inr (.inr (.inl hx)))⟩
    · obtain ⟨h1, c, ty, h2, _⟩ := hga.typed (k := x) (.inl hx); exact ⟨⟨h1, at_lt h2⟩, .inr (.inl hx)⟩
    · obtain ⟨h1, c, ty, h2, _⟩ := hga.typed (k := x) (.inr hx); exact ⟨⟨h1, at_lt h2⟩, .inr (.inr hx)⟩
  have keep : ∀ x, (x = gq ∨ v1.ownBlock = some x) → ¬ (BF gb xs ls u1 u2 x ∨ a.blk x) := fun x hx e => by
    rcases e with e | e
    · exact k.off x hx e
    · obtain ⟨_, c, ty, h2, h3⟩ := hga.typed e
      rcases hx with hx | hx
      · exact ty_ne2 h2 k.blk (by rcases h3 with rfl | rfl <;> decide) hx
      · obtain ⟨_, c', h4⟩ := row_tyN k.o1 hx
        exact ty_ne2 h2 h4 (by rcases h3 with rfl | rfl <;> decide) rfl
  have lo : ∀ x, (x = gq ∨ v1.ownBlock = some x) → x < wq.heap.size := fun x hx => by
    rcases hx with rfl | hx
    · exact at_lt k.blk
    · obtain ⟨_, c', h4⟩ := row_tyN k.o1 hx; exact at_lt h4
  refine ⟨xs', ls', u1', u2', m2', ⟨?_, hbk, hev, ⟨by have := k.len.1; omega, by have := k.len.2; omega⟩, hs.at k.blk fun e => keep gq (.inl rfl) (hS gq e).2, row_farN k.o1 hs fun x hx e => keep x (.inr hx) (hS x e).2, fun j b t' hj hb ht' => ?_, fun x hx e => ?_⟩, hs.imp fun x hx e => keep x e (hS x hx).2⟩
  · have hb := k.below
    exact ⟨hs.1.trans hb.os, hs.2.1.trans hb.tape, hs.2.2.1.trans hb.output, Nat.le_trans hb.size hs.2.2.2.1, fun x hx => (hs.2.2.2.2 x (by
      have := hq.range (k := gq) (.inl rfl)
      have := hb.size
      omega) fun e => by have := (hS x e).1.1; omega).trans (hb.block x hx)⟩
  · obtain ⟨h1, h2⟩ := k.g1 j b t' (by omega) hb ht'
    have hd : ∀ x, b.blk x → ¬ a.blk x := fun x h3 h4 => hq.dist i j a b ha hb (by omega) x h4 h3
    refine ⟨h1.far hs fun x hx e => ?_, fun x hx e => ?_⟩
    · rcases (hS x e).2 with h3 | h3
      · exact h2 x hx h3
      · exact hd x hx h3
    · obtain ⟨_, c, ty, h5, _⟩ := h1.typed hx
      have := at_lt h5
      rcases hbf x e with h3 | h3 | h3 | h3
      · exact h2 x hx h3
      · exact hd x hx (.inl h3)
      · exact hd x hx (.inr h3)
      · omega
  · have h4 := lo x hx
    rcases hbf x e with h3 | h3 | h3 | h3
    · exact keep x hx (.inl h3)
    · exact keep x hx (.inr (.inl h3))
    · exact keep x hx (.inr (.inr h3))
    · omega
end
theorem UK.take {B gq gb i b1 c1 : Nat} {w wq W : World} (hbd : Below wq.heap.size wq W) {gots wants : List An} {ts : List Tx} {v2 u1 u2 : Value} {much m2 : Int} {xs ls : List Value} (hq : QK B w gq gots wants ts (.slice (some ⟨b1, 0, none⟩) gots.length c1) v2 much) (k : UK B w wq gq gots wants ts (.slice (some ⟨b1, 0, none⟩) gots.length c1) v2 much gb i xs ls u1 u2 m2) {a : An} {t : Tx} (ha : gots[i]? = some a) (ht : ts[i]? = some t)
    (c0 : wq.cell? ⟨gq, 0, none⟩ = some (.slice (some ⟨b1, 0, none⟩) gots.length c1)) (p0 : wq.cell? ⟨b1, i * 4, none⟩ = some (.slice a.a1 a.n1 a.c1)) (p1 : wq.cell? ⟨b1, i * 4 + 1, none⟩ = some (.int .i64 t.v)) (p2 : wq.cell? ⟨b1, i * 4 + 2, none⟩ = some (.slice a.a2 a.n2 a.c2)) (p3 : wq.cell? ⟨b1, i * 4 + 3, none⟩ = some (.int .i64 t.e)) (hi : i ≤ 10000000000) :
    Calls Tryz.prog 14 #[.pointer (some ⟨gb, 0, none⟩), .agg (tdC (.slice a.a1 a.n1 a.c1) t.v (.slice a.a2 a.n2 a.c2) t.e)] W fun e w' => e = .returned (.tuple #[]) ∧ Hid (∃ xs' ls' u1' u2' m2', UK B w w' gq gots wants ts (.slice (some ⟨b1, 0, none⟩) gots.length c1) v2 much gb (i + 1) xs' ls' u1' u2' m2') ∧
      w'.cell? ⟨gq, 0, none⟩ = some (.slice (some ⟨b1, 0, none⟩) gots.length c1) ∧ w'.cell? ⟨b1, i * 4, none⟩ = some (.slice a.a1 a.n1 a.c1) ∧ w'.cell? ⟨b1, i * 4 + 1, none⟩ = some (.int .i64 t.v) ∧ w'.cell? ⟨b1, i * 4 + 2, none⟩ = some (.slice a.a2 a.n2 a.c2) ∧ w'.cell? ⟨b1, i * 4 + 3, none⟩ = some (.int .i64 t.e) := by
  obtain ⟨hga, hgaf⟩ := k.g1 i a t (Nat.le_refl _) ha ht
  obtain ⟨inner, o3, o4⟩ := hga.2.2.1
  have e2 := own_capm o3
  have e1 := own_capm hga.2.1
  have hl1 := k.len.1
  have hl2 := k.len.2
  have hd1 := hga.2.2.2.1
  have hd2 := hga.2.2.2.2
  have h1 := hga.1
  have o3' : wq.ownsRow B 70 4 (.slice a.a2 a.n2 a.c2) a.n2 inner := by have h2 := e2.2; rw [h2]; rw [h2] at o3; exact o3
  refine (book_take (k.bk.below_ hbd) (by omega) (by omega) k.even (tv := t.v) (te := t.e) (row_farN hga.2.1 (Same.below (S := fun _ => False) hbd) fun _ _ => id) (row_farN o3' (Same.below (S := fun _ => False) hbd) fun _ _ => id) (by omega) (by have := e2.2; omega) e1.1 e2.1 (fun x hx => hgaf x (.inl hx)) (fun x hx => hgaf x (.inr hx))).mono fun e w' ⟨he, hT⟩ => ?_
  have hT' : TakeEnd B gb wq w' xs ls u1 u2 a.a1 a.a2 := by
    obtain ⟨x1, x2, x3, x4, x5, y1, y2, y3, y4, y5, y6⟩ := hT
    exact ⟨x1, x2, x3, x4, x5, y1, y2, y3, y4, (Same.below hbd).trans y5, fun k hk => (y6 k hk).imp id fun h => h.imp id fun h => h.imp id fun h => Nat.le_trans hbd.size h⟩
  obtain ⟨xs', ls', u1', u2', m2', hk, hs⟩ := k.next hq ha ht hT'
  have mv : ∀ (x : Addr) (u : Value), (x.block = gq ∨ x.block = b1) → wq.cell? x = some u → w'.cell? x = some u := fun x u hx hc => by
    have hlt := cell_in hc
    refine (World.cell?_of_block (hs.2.2.2.2 x.block hlt fun e => e ?_)).trans hc
    rcases hx with hx | hx
    · exact .inl hx
    · exact .inr (by rw [hx]; rfl)
  exact ⟨he, Lib.hid ⟨xs', ls', u1', u2', m2', hk⟩, mv _ _ (.inl rfl) c0, mv _ _ (.inr rfl) p0, mv _ _ (.inr rfl) p1, mv _ _ (.inr rfl) p2, mv _ _ (.inr rfl) p3⟩
set_option maxHeartbeats 8000000 in
set_option maxRecDepth 1000000 in
theorem untouched_any {B gq : Nat} {w : World} {gots wants : List An} {ts : List Tx} {v1 v2 : Value} {much : Int} (hq : QK B w gq gots wants ts v1 v2 much) (hn : gots.length ≤ 10000000000) (hB : B ≤ w.heap.size) :
    Calls Tryz.prog 17 #[.pointer (some ⟨gq, 0, none⟩)] w fun e w' => e = .returned (.bool true) ∧ Below B w w' := by
  obtain ⟨A1, c1, rfl⟩ := own_slice' hq.o1
  obtain ⟨A2, c2, rfl⟩ := own_slice' hq.o2
  have HQ := Lib.hid hq
  have hl := hq.l1
  have hl2 := hq.l2
  have hwl : wants.length = gots.length := by omega
  have HL := Lib.hid (And.intro hl (And.intro hl2 hwl))
  clear hq hl hl2 hwl
  go_enter Tryz.func17, Tryz.ntmps17
  go_wp2
  go_loopw [3] (fun v3 wr => ∃ i : Nat, i ≤ gots.length ∧ v3 = .int .i64 i ∧ Hid (Below w.heap.size w wr)) (fun v3 wr => gots.length - (intOf v3).toNat)
  case atStart => exact ⟨0, Nat.zero_le _, rfl, Lib.hid (Below.refl _ _)⟩
  case round =>
    obtain ⟨i, hi, rfl, HBL⟩ := hrel
    have qr := HQ.out.below_ HBL.out
    have c0 : wr.cell? ⟨gq, 0, none⟩ = some (.slice A1 gots.length c1) := by rw [Lib.cell_of_heap qr.blk]; rfl
    have c00 : wr.cell? ⟨gq, 1, none⟩ = some (.slice A2 wants.length c2) := by rw [Lib.cell_of_heap qr.blk]; rfl
    by_cases hlt : i < gots.length
    · obtain ⟨a, ha⟩ : ∃ a, gots[i]? = some a := ⟨_, List.getElem?_eq_getElem hlt⟩
      obtain ⟨b, hb⟩ : ∃ b, wants[i]? = some b := ⟨_, List.getElem?_eq_getElem (by have := HL.out.2.2; omega)⟩
      obtain ⟨t, ht⟩ : ∃ t, ts[i]? = some t := ⟨_, List.getElem?_eq_getElem (by have := HL.out.1; omega)⟩
      have hga := qr.g1 i a t ha ht
      have hgb := qr.g2 i b t hb ht
      obtain ⟨b1, rfl, p0, p1, p2, p3⟩ := ans_read qr.o1 rfl ha ht
      obtain ⟨b2, rfl, q0, q1, q2, q3⟩ := ans_read qr.o2 rfl hb ht
      obtain ⟨a1, n1, d1, a2, n2, d2⟩ := a
      obtain ⟨b1', m1, f1, b2', m2, f2⟩ := b
      obtain ⟨dat, v, tl, er⟩ := t
      have hwl : i < wants.length := by have := HL.out.2.2; omega
      have hbd : Below wr.heap.size wr wr.drew := below_drewN (Below.refl _ _) 1
      have HEQ := Lib.hid ((eq_c v er (dat := dat) (tls := tl) (by have := hga.2.2.2.1; exact this) (by have h2 : tl.length ≤ 256 := hga.2.2.2.2; omega) (hga.reads.1.below hbd) (hga.reads.2.below hbd) (hgb.reads.1.below hbd) (hgb.reads.2.below hbd)).mono fun e w' hh => (show e = .returned (.bool true) ∧ Hid (Below w.heap.size w w') ∧ w'.cell? ⟨gq, 0, none⟩ = some (.slice (some ⟨b1, 0, none⟩) gots.length c1) ∧ w'.cell? ⟨gq, 1, none⟩ = some (.slice (some ⟨b2, 0, none⟩) wants.length c2) ∧
        (w'.cell? ⟨b1, i * 4, none⟩ = some (.slice a1 n1 d1) ∧ w'.cell? ⟨b1, i * 4 + 1, none⟩ = some (.int .i64 v) ∧ w'.cell? ⟨b1, i * 4 + 2, none⟩ = some (.slice a2 n2 d2) ∧ w'.cell? ⟨b1, i * 4 + 3, none⟩ = some (.int .i64 er)) ∧
        w'.cell? ⟨b2, i * 4, none⟩ = some (.slice b1' m1 f1) ∧ w'.cell? ⟨b2, i * 4 + 1, none⟩ = some (.int .i64 v) ∧ w'.cell? ⟨b2, i * 4 + 2, none⟩ = some (.slice b2' m2 f2) ∧ w'.cell? ⟨b2, i * 4 + 3, none⟩ = some (.int .i64 er) from by
          obtain ⟨he, hb⟩ := hh
          have hw := hbd.trans hb
          exact ⟨he, Lib.hid (HBL.out.trans (hw.mono HBL.out.size)), cell_below c0 hw, cell_below c00 hw, ⟨cell_below p0 hw, cell_below p1 hw, cell_below p2 hw, cell_below p3 hw⟩, cell_below q0 hw, cell_below q1 hw, cell_below q2 hw, cell_below q3 hw⟩))
      clear ha hb ht hga hgb qr hbd
      go_wp2_with fail
      go_region_held3 (fun w' => w'.cell? ⟨gq, 0, none⟩ = some (.slice (some ⟨b1, 0, none⟩) gots.length c1) ∧ w'.cell? ⟨gq, 1, none⟩ = some (.slice (some ⟨b2, 0, none⟩) wants.length c2) ∧
        w'.cell? ⟨b1, i * 4, none⟩ = some (.slice a1 n1 d1) ∧ w'.cell? ⟨b1, i * 4 + 1, none⟩ = some (.int .i64 v) ∧ w'.cell? ⟨b1, i * 4 + 2, none⟩ = some (.slice a2 n2 d2) ∧ w'.cell? ⟨b1, i * 4 + 3, none⟩ = some (.int .i64 er) ∧
        w'.cell? ⟨b2, i * 4, none⟩ = some (.slice b1' m1 f1) ∧ w'.cell? ⟨b2, i * 4 + 1, none⟩ = some (.int .i64 v) ∧ w'.cell? ⟨b2, i * 4 + 2, none⟩ = some (.slice b2' m2 f2) ∧ w'.cell? ⟨b2, i * 4 + 3, none⟩ = some (.int .i64 er))
        ((first | assumption | (refine ⟨?_, ?_, ?_, ?_, ?_, ?_, ?_, ?_, ?_, ?_⟩ <;> assumption)))
        (first | (go_at_call 9; refine HEQ.out.mono ?_; rintro e w9 ⟨rfl, HB9, t0, t1, ⟨t2, t3, t4, t5⟩, t6, t7, t8, t9⟩) | fail)
      go_wp2
      go_roundw
      case rel => exact ⟨i + 1, by omega, by go_num, HB9⟩
      case measure => simp [intOf]; omega
    · have HK0 := Lib.hid (UK.start (much := much) HQ.out HBL.out hB)
      obtain ⟨wo, hwo⟩ : ∃ x, x = wr := ⟨_, rfl⟩
      subst hwo
      clear qr c00
      go_wp2_with fail
      go_loopw [5] (fun v5 wq => ∃ (i : Nat) (xs ls : List Value) (u1 u2 : Value) (m2 : Int), i ≤ gots.length ∧ v5 = .int .i64 i ∧ Hid (UK B w wq gq gots wants ts (.slice A1 gots.length c1) (.slice A2 wants.length c2) much wo.heap.size i xs ls u1 u2 m2)) (fun v5 _ => gots.length - (intOf v5).toNat)
      case atStart => exact ⟨0, [], [], _, _, _, Nat.zero_le _, rfl, HK0⟩
      case round =>
        clear HK0 c0
        obtain ⟨i, xs, ls, u1, u2, m2, hi, rfl, HK⟩ := hrel
        have c0 : wr.cell? ⟨gq, 0, none⟩ = some (.slice A1 gots.length c1) := by rw [Lib.cell_of_heap HK.out.blk]; rfl
        by_cases hlt2 : i < gots.length
        · obtain ⟨a, ha⟩ : ∃ a, gots[i]? = some a := ⟨_, List.getElem?_eq_getElem hlt2⟩
          obtain ⟨t, ht⟩ : ∃ t, ts[i]? = some t := ⟨_, List.getElem?_eq_getElem (by have := HL.out.1; omega)⟩
          obtain ⟨b1, rfl, p0, p1, p2, p3⟩ := ans_read HK.out.o1 rfl ha ht
          have HT := Lib.hid (UK.take (Below.refl _ wr) HQ.out HK.out ha ht c0 p0 p1 p2 p3 (by omega))
          obtain ⟨a1, n1, d1, a2, n2, d2⟩ := a
          obtain ⟨dat, v, tl, er⟩ := t
          clear ha ht
          go_wp2_with fail
          refine HT.out.mono ?_
          rintro e w9 ⟨rfl, H9, t0, t1, t2, t3, t4⟩
          go_wp2
          obtain ⟨xs', ls', u1', u2', m2', H9'⟩ := H9.out
          have HK9 := Lib.hid H9'
          clear H9'
          go_roundw
          case rel => exact ⟨i + 1, xs', ls', u1', u2', m2', by omega, by go_num, HK9⟩
          case measure => simp [intOf]; omega
        · obtain rfl : i = gots.length := by omega
          have HWH := Lib.hid (whole_any HK.out.bk (by have := HK.out.len.1; omega) (by have := HK.out.len.2; omega))
          go_wp2_with (refine HWH.out.mono ?_; rintro e w9 ⟨rfl, hb9⟩; have HB9 := Lib.hid hb9; clear hb9)
          go_ret
          have hbb := HK.out.below
          exact ⟨rfl, hbb.trans (HB9.out.mono (Nat.le_trans hB hbb.size))⟩
end Go.Proofs.YtancenklmfamnaaGreat.Sh
