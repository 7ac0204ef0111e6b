/- heddlelaw31's Quiet.untouched, walked. -/
import Derived.Test.YtfdioplenkcahaaFr4
set_option linter.unusedVariables false
set_option linter.unusedSimpArgs false
namespace Go.Proofs.Ytfdioplenkcahaa.Fresh
open Go.RowKit Go.Proofs.Ytfdioplenkcahaa.PShellFresh Go.Proofs.YtfdioplenkcahaaW.PrintWords Go.Proofs.YtfdioplenkcahaaW.PrintLast Go.Proofs.YtfdioplenkcahaaW.PrintMore

theorem below_drewN (B : Nat) (w : World) (n : Nat) : Below B w (w.drewN n) := ⟨rfl, rfl, rfl, Nat.le_refl _, fun _ _ => rfl⟩
theorem own_read {W : World} {B : Nat} {A : Option Addr} {c : Nat} {xs : List Value} (h : W.ownsRow B 22 1 (.slice A xs.length c) xs.length xs) {i : Nat} {x : Value} (hx : xs[i]? = some x) :
    ∃ b, A = some ⟨b, 0, none⟩ ∧ W.cell? ⟨b, i, none⟩ = some x := by
  have hi := (List.getElem?_eq_some_iff.1 hx).1
  rcases h.2 with ⟨_, h0⟩ | ⟨g, cap, cur, h1, _, h2, h3, h4, h5, h6⟩
  · omega
  · simp only [Value.slice.injEq] at h1
    obtain ⟨rfl, _, rfl⟩ := h1
    refine ⟨g, rfl, ?_⟩
    rw [Lib.cell_of_heap h2]
    rw [← h6, List.getElem?_take_of_lt (by omega)] at hx
    simpa using hx

/-- the book of untouched: after i rounds -/
structure Round (wd : Nat → ByteArray) (w W : World) (gots : List Value) (i : Nat) : Prop where
  os : W.os = w.os
  tape : W.tape = w.tape
  output : W.output = w.output
  size : w.heap.size ≤ W.heap.size
  old : ∀ k, k < w.heap.size → (∀ j x, j < i → gots[j]? = some x → x.ownBlock ≠ some k) → W.heap[k]? = w.heap[k]?
  book : ∃ xs much, BookIs w.heap.size W w.heap.size xs much ∧ Good wd W xs ∧ xs.length % 2 = 0 ∧ xs.length ≤ 2 * i ∧ ∀ x ∈ xs, ∀ k, x.ownBlock = some k → w.heap.size ≤ k ∨ ∃ j y, j < i ∧ gots[j]? = some y ∧ y.ownBlock = some k

theorem round_step {wd : Nat → ByteArray} {w W W' : World} {gots xs : List Value} {i : Nat} {A : Option Addr} {n c : Nat} (h : Round wd w W gots i) (hx : gots[i]? = some (.slice A n c)) (hl : xs.length ≤ 2 * i)
    (hb : ∀ x ∈ xs, ∀ k, x.ownBlock = some k → w.heap.size ≤ k ∨ ∃ j y, j < i ∧ gots[j]? = some y ∧ y.ownBlock = some k) (he : TakeEnd wd w.heap.size W W' w.heap.size xs A) : Round wd w W' gots (i + 1) := by
  obtain ⟨xs', much', h1, h2, h3, h4, h5, h6, h7, h8, h9, h10⟩ := he
  refine ⟨h6.trans h.os, h7.trans h.tape, h8.trans h.output, Nat.le_trans h.size h9, fun k hk hne => ?_, xs', much', h1, h2, h3, by omega, fun x hx' k hk => ?_⟩
  · rw [h10 k hk ?_, h.old k hk fun j x hj hjx => hne j x (by omega) hjx]
    intro e
    refine hne i _ (by omega) hx ?_
    cases A with
    | none => cases e
    | some a => exact e.symm
  · rcases h5 x hx' with hm | e | ⟨k', hk', hk2⟩
    · rcases hb x hm k hk with hb1 | ⟨j, y, hj, hy, hyk⟩
      · exact .inl hb1
      · exact .inr ⟨j, y, by omega, hy, hyk⟩
    · refine .inr ⟨i, _, by omega, hx, ?_⟩
      rw [← hk, e]
      cases A <;> rfl
    · rw [hk] at hk'
      obtain rfl := Option.some.inj hk'
      have := h.size
      exact .inl (by omega)

theorem round_keep {wd : Nat → ByteArray} {w W : World} {i B g : Nat} {gots wants : List Value} {txt : List (List ByteArray)} {much : Int} {vg vw : Value} (hq : QuietIs B w g gots wants txt much vg vw) (R : Round wd w W gots i)
    {k : Nat} {cur : Array Value} {t : TypeId} (hc : w.heap[k]? = some (.cells cur t (0, 0))) (ht : t ≠ 9) : W.heap[k]? = some (.cells cur t (0, 0)) := by
  rw [R.old k (Array.getElem?_eq_some_iff.1 hc).1 fun j x _ hx e => ?_, hc]
  obtain ⟨tx, htx⟩ := at_txt hq.lg hx
  obtain ⟨cur2, hc2⟩ := (hq.good j x tx hx htx).typed e
  exact ty_ne hc hc2 ht rfl
theorem round_lst {wd : Nat → ByteArray} {w W : World} {i B g n c : Nat} {A : Option Addr} {gots wants : List Value} {txt : List (List ByteArray)} {much : Int} {vg vw : Value} (hq : QuietIs B w g gots wants txt much vg vw) (R : Round wd w W gots i)
    (hx : gots[i]? = some (.slice A n c)) (hl : Lst w A n c) : Lst W A n c :=
  hl.move fun k hk => by
    have hk' : (Value.slice A n c).ownBlock = some k := by cases A with | none => cases hk | some a => exact hk
    obtain ⟨cur, hc⟩ := hl.typed hk
    exact R.old k (Array.getElem?_eq_some_iff.1 hc).1 fun j x hj hjx e => hq.dist i j _ x hx hjx (by omega) k hk' e
theorem round_dis {w : World} {i B g n c : Nat} {A : Option Addr} {gots wants xs : List Value} {txt : List (List ByteArray)} {much : Int} {vg vw : Value} (hq : QuietIs B w g gots wants txt much vg vw)
    (hx : gots[i]? = some (.slice A n c)) (hl : Lst w A n c) (hb : ∀ x ∈ xs, ∀ k, x.ownBlock = some k → w.heap.size ≤ k ∨ ∃ j y, j < i ∧ gots[j]? = some y ∧ y.ownBlock = some k) :
    ∀ x ∈ xs, ∀ k, x.ownBlock = some k → A.map (·.block) ≠ some k := by
  intro x hxm k hk e
  have hk' : (Value.slice A n c).ownBlock = some k := by cases A with | none => cases e | some a => exact e
  obtain ⟨cur, hc⟩ := hl.typed e
  have hlt := (Array.getElem?_eq_some_iff.1 hc).1
  rcases hb x hxm k hk with h | ⟨j, y, hj, hy, hyk⟩
  · omega
  · exact hq.dist i j _ y hx hy (by omega) k hk' hyk
theorem round_below {wd : Nat → ByteArray} {w W : World} {i B g : Nat} {gots wants : List Value} {txt : List (List ByteArray)} {much : Int} {vg vw : Value} (hq : QuietIs B w g gots wants txt much vg vw) (R : Round wd w W gots i) (hB : B ≤ w.heap.size) : Below B w W :=
  ⟨R.os, R.tape, R.output, R.size, fun k hk => R.old k (by omega) fun j x _ hx e => by have := hq.lowg x (List.mem_of_getElem? hx) k e; omega⟩
theorem round_zero {wd : Nat → ByteArray} {w W : World} {gots : List Value} (hb : Below w.heap.size w W) (hn : W.heap[w.heap.size]? = some (.cells #[.slice none 0 0, .int .i64 0] 35 (0, 0))) : Round wd w W gots 0 :=
  ⟨hb.os, hb.tape, hb.output, hb.size, fun k hk _ => hb.block k hk, [], 0, ⟨Nat.le_refl _, .slice none 0 0, hn, World.ownsRow_nil W _ 22 1⟩, fun i x hx => by simp at hx, rfl, by simp, fun x hx => by simp at hx⟩

set_option maxHeartbeats 8000000 in
set_option maxRecDepth 1000000 in
theorem untouched_any (wd : Nat → ByteArray) (hwd : ∀ n : Nat, n ≤ 1099511627776 → ∃ k : Nat, heddlelaw31_word.f k (n : Int) = some (wd n)) (B g : Nat) (gots wants : List Value) (txt : List (List ByteArray)) (much : Int) (vg vw : Value) (w : World) (hq : QuietIs B w g gots wants txt much vg vw) (hBw : B ≤ w.heap.size) (hl : gots.length ≤ 109951162) :
    Calls Try.prog 16 #[.pointer (some ⟨g, 0, none⟩)] w fun e w' => e = .returned (.bool true) ∧ Below B w w' := by
  obtain ⟨Ag, cg, rfl⟩ := own_slice hq.og
  obtain ⟨Aw, cw, rfl⟩ := own_slice hq.ow
  have hlg : gots.length = txt.length := hq.lg
  have hlw : wants.length = txt.length := hq.lw
  have hgl : g < w.heap.size := (Array.getElem?_eq_some_iff.1 hq.blk).1
  have c0 : w.cell? ⟨g, 0, none⟩ = some (.slice Ag gots.length cg) := by rw [Lib.cell_of_heap hq.blk]; rfl
  have c1 : w.cell? ⟨g, 1, none⟩ = some (.slice Aw wants.length cw) := by rw [Lib.cell_of_heap hq.blk]; rfl
  have HQ := Lib.hid hq
  have HW := Lib.hid hwd
  have HC0 : Hid (w.cell? ⟨g, 0, none⟩ = some (.slice Ag gots.length cg)) := Lib.hid c0
  have HC1 : Hid (w.cell? ⟨g, 1, none⟩ = some (.slice Aw wants.length cw)) := Lib.hid c1
  have HLG := Lib.hid hlg
  have HLW := Lib.hid hlw
  clear hq hwd c0 c1 hlg hlw
  go_enter Try.func16, Try.ntmps16
  go_wp2
  go_loopw [3] (fun v3 wr => ∃ i nd : Nat, i ≤ gots.length ∧ v3 = .int .i64 i ∧ wr = w.drewN nd) (fun v3 wr => gots.length - (intOf v3).toNat)
  case atStart => exact ⟨0, 0, Nat.zero_le _, rfl, rfl⟩
  case round =>
    obtain ⟨i, nd, hi, rfl, rfl⟩ := hrel
    have d0 : (w.drewN nd).cell? ⟨g, 0, none⟩ = some (.slice Ag gots.length cg) := HC0.out
    by_cases hlt : i < gots.length
    · have hx : gots[i]? = some gots[i] := List.getElem?_eq_getElem hlt
      have hlt2 : i < wants.length := by rw [HLW.out, ← HLG.out]; exact hlt
      have hy : wants[i]? = some wants[i] := List.getElem?_eq_getElem hlt2
      obtain ⟨t, ht⟩ := at_txt HQ.out.lg hx
      have so1 := HQ.out.good i _ t hx ht
      have so2 := HQ.out.goodw i _ t hy ht
      have htl : t.length ≤ 65536 := HQ.out.short t (List.mem_of_getElem? ht)
      obtain ⟨kt, hkt⟩ := (PureFresh.texts_refl t (by omega)).rounds
      obtain ⟨bg, hbg, hcg⟩ := own_read HQ.out.og hx
      obtain ⟨bw, hbw, hcw⟩ := own_read HQ.out.ow hy
      subst hbg
      subst hbw
      generalize gots[i] = x1 at *
      generalize wants[i] = x2 at *
      obtain ⟨A1, c1, e1, l1, _⟩ := id so1
      obtain ⟨A2, c2, e2, l2, _⟩ := id so2
      subst e1
      subst e2
      have HX := Lib.hid hx
      have HC2 : Hid (w.cell? ⟨bg, i, none⟩ = some (.slice A1 t.length c1)) := Lib.hid hcg
      have HC3 : Hid (w.cell? ⟨bw, i, none⟩ = some (.slice A2 t.length c2)) := Lib.hid hcw
      have RD1 := Lib.hid (SOwn.move (W1 := (w.drewN nd).drew) so1 (fun _ _ => rfl)).reads
      have RD2 := Lib.hid (SOwn.move (W1 := (w.drewN nd).drew) so2 (fun _ _ => rfl)).reads
      have HKT := Lib.hid hkt
      clear hx hy ht so1 so2 hkt hcg hcw l1 l2
      go_wp2
      refine start_ (n := 16) (S := fun w' => w'.cell? ⟨g, 0, none⟩ = some (.slice (some ⟨bg, 0, none⟩) gots.length cg) ∧ w'.cell? ⟨g, 1, none⟩ = some (.slice (some ⟨bw, 0, none⟩) wants.length cw) ∧ w'.cell? ⟨bg, i, none⟩ = some (.slice A1 t.length c1) ∧ w'.cell? ⟨bw, i, none⟩ = some (.slice A2 t.length c2)) (ds := []) #[false, false, false, false, false, false, false, false, false, false, false, false, false, false, false, false] (by kernel_rfl) rfl rfl ⟨HC0.out, HC1.out, HC2.out, HC3.out⟩ (fun hHeld => ?_)
      refine pure_ (i := 0) (N := some 15) (v := ?_) (a' := ?_) #[true, false, false, false, false, false, false, false, false, false, false, false, false, false, false, false] rfl rfl (by kernel_rfl) (fun _ _ _ h => h) (Or.inl ⟨by rfl, ?_⟩) ?_ ?_
      rotate_left
      · intro w'
        go_simp
        with_reducible rfl
      rotate_left
      · simp only [Act.put, List.setIfInBounds_toArray, List.set_cons_zero, List.set_cons_succ, i64_w, i32_w]
        rfl
      refine pure_ (i := 1) (N := some 16) (v := ?_) (a' := ?_) #[true, true, false, false, false, false, false, false, false, false, false, false, false, false, false, false] rfl rfl (by kernel_rfl) (fun _ _ _ h => h) (Or.inl ⟨by rfl, ?_⟩) ?_ ?_
      rotate_left
      · intro w'
        go_simp
        with_reducible rfl
      rotate_left
      · simp only [Act.put, List.setIfInBounds_toArray, List.set_cons_zero, List.set_cons_succ, i64_w, i32_w]
        rfl
      refine pure_ (i := 2) (N := some 17) (v := ?_) (a' := ?_) #[true, true, true, false, false, false, false, false, false, false, false, false, false, false, false, false] rfl rfl (by kernel_rfl) (fun _ _ _ h => h) (Or.inl ⟨by rfl, ?_⟩) ?_ ?_
      rotate_left
      · intro w'
        go_simp
        with_reducible rfl
      rotate_left
      · simp only [Act.put, List.setIfInBounds_toArray, List.set_cons_zero, List.set_cons_succ, i64_w, i32_w]
        rfl
      refine pure_ (i := 4) (N := some 19) (v := ?_) (a' := ?_) #[true, true, true, false, true, false, false, false, false, false, false, false, false, false, false, false] rfl rfl (by kernel_rfl) (fun _ _ _ h => h) (Or.inl ⟨by rfl, ?_⟩) ?_ ?_
      rotate_left
      · intro w'
        go_simp
        with_reducible rfl
      rotate_left
      · simp only [Act.put, List.setIfInBounds_toArray, List.set_cons_zero, List.set_cons_succ, i64_w, i32_w]
        rfl
      refine pure_ (i := 7) (N := some 22) (v := ?_) (a' := ?_) #[true, true, true, false, true, false, false, true, false, false, false, false, false, false, false, false] rfl rfl (by kernel_rfl) (fun _ _ _ h => h) (Or.inl ⟨by rfl, ?_⟩) ?_ ?_
      rotate_left
      · intro w'
        go_simp
        with_reducible rfl
      rotate_left
      · simp only [Act.put, List.setIfInBounds_toArray, List.set_cons_zero, List.set_cons_succ, i64_w, i32_w]
        rfl
      refine pure_ (i := 8) (N := some 23) (v := ?_) (a' := ?_) #[true, true, true, false, true, false, false, true, true, false, false, false, false, false, false, false] rfl rfl (by kernel_rfl) (fun _ _ _ h => h) (Or.inl ⟨by rfl, ?_⟩) ?_ ?_
      rotate_left
      · intro w'
        go_simp
        with_reducible rfl
      rotate_left
      · simp only [Act.put, List.setIfInBounds_toArray, List.set_cons_zero, List.set_cons_succ, i64_w, i32_w]
        rfl
      refine pure_ (i := 9) (N := some 24) (v := ?_) (a' := ?_) #[true, true, true, false, true, false, false, true, true, true, false, false, false, false, false, false] rfl rfl (by kernel_rfl) (fun _ _ _ h => h) (Or.inl ⟨by rfl, ?_⟩) ?_ ?_
      rotate_left
      · intro w'
        go_simp
        with_reducible rfl
      rotate_left
      · simp only [Act.put, List.setIfInBounds_toArray, List.set_cons_zero, List.set_cons_succ, i64_w, i32_w]
        rfl
      refine pure_ (i := 11) (N := some 26) (v := ?_) (a' := ?_) #[true, true, true, false, true, false, false, true, true, true, false, true, false, false, false, false] rfl rfl (by kernel_rfl) (fun _ _ _ h => h) (Or.inl ⟨by rfl, ?_⟩) ?_ ?_
      rotate_left
      · intro w'
        go_simp
        with_reducible rfl
      rotate_left
      · simp only [Act.put, List.setIfInBounds_toArray, List.set_cons_zero, List.set_cons_succ, i64_w, i32_w]
        rfl
      refine take_ (i := 3) (N := some 18) (v := ?_) (a' := ?_) #[true, true, true, true, true, false, false, true, true, true, false, true, false, false, false, false] rfl rfl (by kernel_rfl) (fun _ _ _ h => h) (Or.inl ⟨by rfl, ?_⟩) hHeld ?_ ?_
      rotate_left
      · rintro w' ⟨s0, s1, s2, s3⟩
        go_simp
        with_reducible rfl
      rotate_left
      · simp only [Act.put, List.setIfInBounds_toArray, List.set_cons_zero, List.set_cons_succ, i64_w, i32_w]
        rfl
      refine pure_ (i := 5) (N := some 20) (v := ?_) (a' := ?_) #[true, true, true, true, true, true, false, true, true, true, false, true, false, false, false, false] rfl rfl (by kernel_rfl) (fun _ _ _ h => h) (Or.inl ⟨by rfl, ?_⟩) ?_ ?_
      rotate_left
      · intro w'
        go_simp
        with_reducible rfl
      rotate_left
      · simp only [Act.put, List.setIfInBounds_toArray, List.set_cons_zero, List.set_cons_succ, i64_w, i32_w]
        rfl
      refine take_ (i := 6) (N := some 21) (v := ?_) (a' := ?_) #[true, true, true, true, true, true, true, true, true, true, false, true, false, false, false, false] rfl rfl (by kernel_rfl) (fun _ _ _ h => h) (Or.inl ⟨by rfl, ?_⟩) hHeld ?_ ?_
      rotate_left
      · rintro w' ⟨s0, s1, s2, s3⟩
        go_simp
        with_reducible rfl
      rotate_left
      · simp only [Act.put, List.setIfInBounds_toArray, List.set_cons_zero, List.set_cons_succ, i64_w, i32_w]
        rfl
      refine take_ (i := 10) (N := some 25) (v := ?_) (a' := ?_) #[true, true, true, true, true, true, true, true, true, true, true, true, false, false, false, false] rfl rfl (by kernel_rfl) (fun _ _ _ h => h) (Or.inl ⟨by rfl, ?_⟩) hHeld ?_ ?_
      rotate_left
      · rintro w' ⟨s0, s1, s2, s3⟩
        go_simp
        with_reducible rfl
      rotate_left
      · simp only [Act.put, List.setIfInBounds_toArray, List.set_cons_zero, List.set_cons_succ, i64_w, i32_w]
        rfl
      refine pure_ (i := 12) (N := some 27) (v := ?_) (a' := ?_) #[true, true, true, true, true, true, true, true, true, true, true, true, true, false, false, false] rfl rfl (by kernel_rfl) (fun _ _ _ h => h) (Or.inl ⟨by rfl, ?_⟩) ?_ ?_
      rotate_left
      · intro w'
        go_simp
        with_reducible rfl
      rotate_left
      · simp only [Act.put, List.setIfInBounds_toArray, List.set_cons_zero, List.set_cons_succ, i64_w, i32_w]
        rfl
      refine take_ (i := 13) (N := some 28) (v := ?_) (a' := ?_) #[true, true, true, true, true, true, true, true, true, true, true, true, true, true, false, false] rfl rfl (by kernel_rfl) (fun _ _ _ h => h) (Or.inl ⟨by rfl, ?_⟩) hHeld ?_ ?_
      rotate_left
      · rintro w' ⟨s0, s1, s2, s3⟩
        go_simp
        with_reducible rfl
      rotate_left
      · simp only [Act.put, List.setIfInBounds_toArray, List.set_cons_zero, List.set_cons_succ, i64_w, i32_w]
        rfl
      refine one_ (i := 14) (N := some 29) #[true, true, true, true, true, true, true, true, true, true, true, true, true, true, true, false] rfl rfl (by kernel_rfl) (by decide) (fun K hK => ?_)
      refine goes_ Try.func9 (by kernel_rfl) rfl #[.slice A1 t.length c1, .slice A2 t.length c2] (by rfl) rfl rfl (by simp only [List.map_toArray, List.map_cons, List.map_nil]; rfl) ?_
      with_reducible refine (heddlelaw31_texts.calls kt A1 c1 t A2 c2 t true ((w.drewN nd).drew) (by exact RD1.out.2.2) RD1.out.2.1 (by exact RD2.out.2.2) RD2.out.2.1 HKT.out).mono ?_
      rintro e w3 ⟨rfl, ⟨⟨nd2, rfl⟩⟩⟩
      refine ⟨_, rfl, ?_⟩
      refine hK.out _ _ ⟨HC0.out, HC1.out, HC2.out, HC3.out⟩ (fun hHeld => ?_)
      clear hK K
      refine norm_ (a' := ?_) ?_ ?_
      rotate_left
      · show Act.put _ (some 29) _ = _
        simp only [Act.put, List.setIfInBounds_toArray, List.set_cons_zero, List.set_cons_succ, i64_w, i32_w]
        rfl
      refine pure_ (i := 15) (N := some 30) (v := ?_) (a' := ?_) #[true, true, true, true, true, true, true, true, true, true, true, true, true, true, true, true] rfl rfl (by kernel_rfl) (fun _ _ _ h => h) (Or.inl ⟨by rfl, ?_⟩) ?_ ?_
      rotate_left
      · intro w'
        go_simp
        with_reducible rfl
      rotate_left
      · simp only [Act.put, List.setIfInBounds_toArray, List.set_cons_zero, List.set_cons_succ, i64_w, i32_w]
        rfl
      refine done_ (by kernel_rfl) ?_
      go_wp2
      go_roundw
      case rel => exact ⟨i + 1, nd + 1 + nd2, by omega, by go_num, rfl⟩
      case measure => simp [intOf]; omega
    · go_wp2
      go_loopw [5] (fun v5 wr => ∃ i : Nat, i ≤ gots.length ∧ v5 = .int .i64 i ∧ Round wd w wr gots i) (fun v5 wr => gots.length - (intOf v5).toNat)
      case atStart =>
        refine ⟨0, Nat.zero_le _, rfl, round_zero ?_ ?_⟩
        · exact ((below_drewN _ w nd).alloc (Nat.le_refl _) _)
        · exact heap_alloc_new (w.drewN nd) _
      case round =>
        obtain ⟨i, hi, rfl, hR⟩ := hrel
        have HR := Lib.hid hR
        have e0 : wr.cell? ⟨g, 0, none⟩ = some (.slice Ag gots.length cg) := (Lib.cell_of_heap (round_keep HQ.out hR HQ.out.blk (by decide)) 0).trans rfl
        clear hR
        by_cases hlt : i < gots.length
        · have hx : gots[i]? = some gots[i] := List.getElem?_eq_getElem hlt
          obtain ⟨t, ht⟩ := at_txt HQ.out.lg hx
          have so1 := HQ.out.good i _ t hx ht
          have htl : t.length ≤ 65536 := HQ.out.short t (List.mem_of_getElem? ht)
          obtain ⟨bg, hbg, hcg⟩ := own_read HQ.out.og hx
          subst hbg
          generalize gots[i] = x1 at *
          obtain ⟨A1, c1, e1, l1, _⟩ := id so1
          subst e1
          have e1 : wr.cell? ⟨bg, i, none⟩ = some (.slice A1 t.length c1) := by
            obtain ⟨_, cur, hc⟩ := own_ty HQ.out.og (k := bg) rfl
            rw [World.cell?_of_block (w := w) ((round_keep HQ.out HR.out hc (by decide)).trans hc.symm)]
            exact hcg
          obtain ⟨xs, m2, hbk, hgd, hev, hxl, hxb⟩ := HR.out.book
          have HX := Lib.hid hx
          have HL1 := Lib.hid (round_lst HQ.out HR.out hx l1)
          have HD1 := Lib.hid (round_dis HQ.out hx l1 hxb)
          have HBK := Lib.hid hbk
          have HGD := Lib.hid hgd
          have HEV := Lib.hid hev
          have HXB := Lib.hid hxb
          clear hx ht so1 hcg l1 hbk hgd hev hxb
          go_wp2_with (go_at_call 13; go_must ((refine (take_any wd HW.out w.heap.size w.heap.size xs m2 A1 t.length c1 wr HBK.out HGD.out HEV.out (by omega) (by omega) HL1.out HD1.out HR.out.size).mono ?_); rintro e w1 ⟨rfl, hte⟩; have HTE := Lib.hid hte; clear hte))
          go_roundw
          case rel => exact ⟨i + 1, by omega, by go_num, round_step HR.out HX.out hxl HXB.out HTE.out⟩
          case measure => simp [intOf]; omega
        · obtain ⟨xs, m2, hbk, hgd, hev, hxl, hxb⟩ := HR.out.book
          have HBK := Lib.hid hbk
          have HGD := Lib.hid hgd
          clear hbk hgd hev hxb
          go_wp2_with (go_at_call 14; go_must ((refine (whole_any wd HW.out w.heap.size w.heap.size xs m2 wr HBK.out HGD.out (by omega)).mono ?_); rintro e w1 ⟨rfl, hbe⟩; have HBE := Lib.hid hbe; clear hbe))
          go_ret
          exact ⟨rfl, (round_below HQ.out HR.out hBw).trans (HBE.out.mono (Nat.le_trans hBw HR.out.size))⟩
end Go.Proofs.Ytfdioplenkcahaa.Fresh
