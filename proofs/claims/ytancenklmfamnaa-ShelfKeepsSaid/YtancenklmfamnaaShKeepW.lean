/- ShelfKeeps: the walk. -/
import Derived.Test.YtancenklmfamnaaShKeepA
import Derived.Deep.CutBlock
set_option linter.unusedVariables false
set_option linter.unusedSimpArgs false
namespace Go.Proofs.Ytancenklmfamnaa.Sh
open Go.RowKit Go.Maps Go.Sort Go.Shelf
open Go.Proofs Go.MuLone
open Go.Proofs.YtancenklmfamnaaW.PrintWords (Reps OwnRow Kd)
open PShelfKeeps (S39 S55 k39 k55)

/-- one call of a script -/
structure Op1 where
  kind : Int
  which : Int
  nm : ByteArray
  ver : Int
  dat : List Int
structure OpAt (w : World) (a : Addr) (Ab : Option Addr) (nb cb : Nat) (o : Op1) : Prop where
  c0 : w.cell? a = some (.int .i64 o.kind)
  c1 : w.cell? ⟨a.block, a.off + 1, none⟩ = some (.int .i64 o.which)
  c2 : w.cell? ⟨a.block, a.off + 2, none⟩ = some (.string o.nm)
  c3 : w.cell? ⟨a.block, a.off + 3, none⟩ = some (.int .i64 o.ver)
  c4 : w.cell? ⟨a.block, a.off + 4, none⟩ = some (.slice Ab nb cb)
  rd : RdA w (.slice Ab nb cb) o.dat
  len : o.dat.length = nb
  dat : o.dat.length ≤ 140737488351232
  nm : o.nm.size ≤ 140737488351232
  ver : (Lit.int .i64 o.ver).wf = true
/-- the script, as it came in -/
def Script (w : World) (A : Option Addr) (n : Nat) (ops : List Op1) : Prop := ops.length = n ∧ ∀ i o, ops[i]? = some o → ∃ ad Ab nb cb, A = some ad ∧ OpAt w (ad.add (i * 5)) Ab nb cb o
theorem cell_in {w : World} {a : Addr} {v : Value} (h : w.cell? a = some v) : a.block < w.heap.size := by
  by_cases hg : a.block < w.heap.size
  · exact hg
  · have h2 : w.heap[a.block]? = none := Array.getElem?_eq_none (by omega)
    simp [World.cell?, h2] at h
theorem cell_below {w w' : World} {a : Addr} {v : Value} (h : w.cell? a = some v) (hb : Below w.heap.size w w') : w'.cell? a = some v :=
  (World.cell?_of_block (hb.block _ (cell_in h))).trans h
theorem OpAt.below {w w' : World} {a : Addr} {Ab : Option Addr} {nb cb : Nat} {o : Op1} (t : OpAt w a Ab nb cb o) (hb : Below w.heap.size w w') : OpAt w' a Ab nb cb o :=
  ⟨cell_below t.c0 hb, cell_below t.c1 hb, cell_below t.c2 hb, cell_below t.c3 hb, cell_below t.c4 hb, t.rd.far (S := fun _ => False) (Same.below hb) (fun _ _ _ h => h), t.len, t.dat, t.nm, t.ver⟩
/-- at a round's head -/
structure KS (w wr : World) (B p h : Nat) (room : Int) (i : Nat) (L : Lay) (A : Option Addr) (n0 : Nat) (Ak : Option Addr) (nk ck : Nat) (l : List S55) : Prop where
  at_ : At B wr p L h A n0
  below : Below w.heap.size w wr
  kn : Kn L l
  row : Krow B p h L A wr (.slice Ak nk ck) l
  len : l.length = nk
  few : nk ≤ i
  touch : L.touch ≤ i
  room : L.room = room
/-- behind the calls -/
structure K5 (w wr : World) (B p h : Nat) (room : Int) (i b : Nat) (L : Lay) (A : Option Addr) (n0 : Nat) (Ak : Option Addr) (nk ck : Nat) (l : List S55) (Al : Option Addr) (nl cl : Nat) : Prop where
  at_ : At B wr p L h A n0
  below : Below w.heap.size w wr
  row : Krow B p h L A wr (.slice Ak nk ck) l
  len : l.length = nk
  few : nk ≤ i
  touch : L.touch ≤ i
  room : L.room = room
  lst : ListIs B wr b L Al nl cl

theorem below_same {S : Nat → Prop} {b : Nat} {w0 w w' : World} (hb : Below b w0 w) (hs : Same S w w') (hS : ∀ k, S k → b ≤ k) (hw : b ≤ w0.heap.size) : Below b w0 w' :=
  ⟨hs.1.trans hb.os, hs.2.1.trans hb.tape, hs.2.2.1.trans hb.output, Nat.le_trans hb.size hs.2.2.2.1, fun k hk => (hs.2.2.2.2 k (Nat.lt_of_lt_of_le (Nat.lt_of_lt_of_le hk hw) hb.size) (fun e => by have := hS k e; omega)).trans (hb.block k hk)⟩
theorem alloc_at {w : World} {o o2 : Obj} {k : Nat} (h : w.heap[k]? = some o) : (w.alloc o2).heap[k]? = some o := by rw [Below.heap_alloc w _ _ (at_lt h)]; exact h
theorem quiet_add {P : Program} {f : FuncId} {args : Array Value} {w : World} {a x : Nat} {v : Value} (h : Calls P f args (w.drewN (a + x)) fun e w' => e = .returned v ∧ ∃ m, w' = (w.drewN (a + x)).drewN m) : Calls P f args (w.drewN (a + x)) fun e w'' => e = .returned v ∧ ∃ n, w'' = w.drewN (a + n) :=
  h.mono fun _ _ ⟨he, m, hm⟩ => ⟨he, x + m, by rw [hm, World.drewN_drewN, Nat.add_assoc]⟩
theorem step_append_run {P : Program} {w : World} {ops : Array Oper} {o : Oper} {a : Act} {K : Act → World → Prop} {Q : Exit → Act → World → Prop} {E : Prop} (hgd : o.guard = none) (s x : Operand) (t : TypeId)
    (ho : o.op = .call { callee := .builtin .append, args := #[s, x], argTypes := #[t, t] }) (vs vx : Value) (hs : a.eval s = vs) (hx : a.eval x = vx)
    (v' : Value) (w' : World) (hr : (Builtin.append_ #[t, t] o.type #[vs, vx]).run P w = .ok v' w') (h : K (a.put o.dst v') w') : if Region.wanted o (yielded ops a.tmps) = true then Oper.wp P o a w K Q else E := by
  have hw : Region.wanted o (yielded ops a.tmps) = true := by simp [Region.wanted, hgd]
  rw [if_pos hw]
  unfold Oper.wp
  simp [execOp, ho, resolve, invoke, builtin, hs, hx, hr, Result.andThen]
  exact h
theorem K5.drawn {w wr : World} {B p h : Nat} {room : Int} {i b : Nat} {L : Lay} {A : Option Addr} {n0 : Nat} {Ak : Option Addr} {nk ck : Nat} {l : List S55} {Al : Option Addr} {nl cl : Nat} (k : K5 w wr B p h room i b L A n0 Ak nk ck l Al nl cl) (a : Nat) : K5 w (wr.drewN a) B p h room i b L A n0 Ak nk ck l Al nl cl := by
  have hb := below_drewN (Below.refl wr.heap.size wr) a
  exact ⟨k.at_.below hb, k.below.trans (hb.mono k.below.size), k.row.below hb, k.len, k.few, k.touch, k.room, k.lst.below hb⟩
theorem K5.put {w wr : World} {B p h : Nat} {room : Int} {i b : Nat} {L : Lay} {A : Option Addr} {n0 : Nat} {g nk ck : Nat} {l : List S55} {Al : Option Addr} {nl cl : Nat} (t : K5 w wr B p h room i b L A n0 (some ⟨g, 0, none⟩) nk ck l Al nl cl) (hB : w.heap.size ≤ B) {k : Nat} {c : S55} (hc : l[k]? = some c) (u : Int) :
    K5 w (wr.setCell ⟨g, k * 4 + 3, none⟩ (.int .i64 u)) B p h room i b L A n0 (some ⟨g, 0, none⟩) nk ck (l.set k { c with f3 := u }) Al nl cl := by
  obtain ⟨g', cap', e, hg, hoff, ⟨cells, hty⟩, _, _, _, _, _, hset⟩ := t.row.at hc
  injection e with e1 e2 e3
  injection e1 with e1
  injection e1 with e1
  subst e1
  have hs : Same (fun k => k = g) wr (wr.setCell ⟨g, k * 4 + 3, none⟩ (.int .i64 u)) := Same.set _ _ _ rfl
  refine ⟨t.at_.off_ hs fun k hk e => hoff (e ▸ hk), below_same t.below hs (fun k e => by subst e; omega) (Nat.le_refl _), hset u, by rw [List.length_set]; exact t.len, t.few, t.touch, t.room, t.lst.far hs fun k h1 h2 h3 e => ?_⟩
  subst e
  obtain ⟨cells2, h3⟩ := h3
  rw [hty] at h3
  injection h3 with h3
  injection h3 with _ h3
  exact absurd h3 (by decide)
theorem K5.push {w wr : World} {B p h : Nat} {room : Int} {i b : Nat} {L : Lay} {A : Option Addr} {n0 : Nat} {Ak : Option Addr} {nk ck : Nat} {l : List S55} {Al : Option Addr} {nl cl : Nat} (t : K5 w wr B p h room (i + 1) b L A n0 Ak nk ck l Al nl cl) {Ab : Option Addr} {nb cb : Nat} {dat : List Int} (hr : RdA wr (.slice Ab nb cb) dat) (hd : dat.length ≤ 140737488351232) (hB : w.heap.size ≤ B)
    (nm : ByteArray) (ver : Int) (hnk : nk ≤ i) (hi : i ≤ 300) (hk : Kn L (l ++ [⟨nm, ver, dat, 0⟩])) (n : Nat) :
    ∃ A1 n1 c1 W1, (Builtin.append_ #[22, 22] 22 #[.slice none 0 0, .slice Ab nb cb]).run Try.prog (wr.drewN n) = .ok (.slice A1 n1 c1) W1 ∧ Below (wr.drewN n).heap.size (wr.drewN n) W1 ∧ ∃ A2 n2 c2 W2, (Builtin.append_ #[43, 43] 43 #[.slice Ak nk ck, .slice (some ⟨W1.heap.size, 0, none⟩) 1 1]).run Try.prog (W1.alloc (.cells #[.string nm, .int .i64 ver, .slice A1 n1 c1, .int .i64 0] 55)) = .ok (.slice A2 n2 c2) W2 ∧
      Hid (K5 w W2 B p h room (i + 1) b L A n0 A2 n2 c2 (l ++ [⟨nm, ver, dat, 0⟩]) Al nl cl ∧ Kn L (l ++ [⟨nm, ver, dat, 0⟩])) := by
  have tn := t.drawn n
  have hBw : B ≤ (wr.drewN n).heap.size := Nat.le_trans tn.at_.hand.low (Nat.le_of_lt (at_lt tn.at_.hand.blk))
  obtain ⟨A1, n1, c1, W1, h1, h2, h3, h4⟩ := app_new (p := p) (h := h) (A := A) (L := L) (hr.far (S := fun _ => False) (Same.drewN wr n) (fun _ _ _ h => h)) hd (fun k hk => tn.at_.lt hk) hBw 22
  have hat1 := tn.at_.below h3
  have hb1 := tn.below.trans (h3.mono tn.below.size)
  have hr1 := tn.row.below h3
  have hl1 := tn.lst.below h3
  obtain ⟨A2, n2, c2, W2, q1, q2, q3, q4⟩ := hr1.push nm ver h2 h4 (fun k hk => hat1.lt hk) (by rw [t.len]; omega) (Nat.le_trans hBw h3.size) 43
  have hba := below_alloc W1 (.cells #[.string nm, .int .i64 ver, .slice A1 n1 c1, .int .i64 0] 55)
  have hs : Same (fun k => (Value.slice Ak nk ck).ownBlock = some k) (W1.alloc (.cells #[.string nm, .int .i64 ver, .slice A1 n1 c1, .int .i64 0] 55)) W2 := Same.grown q4 fun k hk => .inl hk
  have hr2 := hr1.below hba
  refine ⟨A1, n1, c1, W1, h1, h3, A2, n2, c2, W2, q1, Lib.hid ⟨⟨(hat1.below hba).off_ hs fun k hk e => hr2.1 k e hk, below_same (hb1.trans (hba.mono hb1.size)) hs (fun k hk => Nat.le_trans hB (Kd.R_base hr2 k hk)) (Nat.le_refl _), q2, by rw [List.length_append, t.len, q3, t.len]; rfl, by rw [q3, t.len]; omega, t.touch, t.room, (hl1.below hba).far hs fun k _ _ h3 e => ?_⟩, hk⟩⟩
  obtain ⟨cells, hc⟩ := Kd.R_typed hr2 k e
  obtain ⟨cells2, h3⟩ := h3
  rw [hc] at h3
  injection h3 with h3
  injection h3 with _ h3
  exact absurd h3 (by decide)
theorem K5.spot {w wr : World} {B p h : Nat} {room : Int} {i b : Nat} {L : Lay} {A : Option Addr} {n0 : Nat} {Ak : Option Addr} {nk ck : Nat} {l : List S55} {Al : Option Addr} {nl cl : Nat} (t : K5 w wr B p h room i b L A n0 Ak nk ck l Al nl cl) {k : Nat} {c : S55} (hc : l[k]? = some c) :
    k < nk ∧ ∃ g, Ak = some ⟨g, 0, none⟩ ∧ wr.cell? ⟨g, k * 4 + 3, none⟩ = some (.int .i64 c.f3) ∧ wr.frozen? ⟨g, k * 4 + 3, none⟩ = false ∧ wr.cell? ⟨g, k * 4, none⟩ = some (.string c.f0) ∧ wr.cell? ⟨g, k * 4 + 1, none⟩ = some (.int .i64 c.f1) ∧
      ∃ A2 n2 c2, wr.cell? ⟨g, k * 4 + 2, none⟩ = some (.slice A2 n2 c2) ∧ n2 = c.f2.length ∧ n2 ≤ c2 ∧ (Kd.int .u8).C wr A2 c.f2.length c.f2 := by
  have hk := (List.getElem?_eq_some_iff.1 hc).1
  obtain ⟨g, cap', e, _, _, _, f3, fz, f0, f1, f2, _⟩ := t.row.at hc
  injection e with e1 e2 e3
  exact ⟨by rw [e2]; exact hk, g, e1, f3, fz, f0, f1, f2⟩
theorem K5.next {w wr : World} {B p h : Nat} {room : Int} {i b : Nat} {L : Lay} {A : Option Addr} {n0 : Nat} {Ak : Option Addr} {nk ck : Nat} {l : List S55} {Al : Option Addr} {nl cl : Nat} (k : K5 w wr B p h room i b L A n0 Ak nk ck l Al nl cl) (hk : Kn L l) (a : Nat) : KS w (wr.drewN a) B p h room i L A n0 Ak nk ck l := by
  have t := k.drawn a
  exact ⟨t.at_, t.below, hk, t.row, t.len, t.few, t.touch, t.room⟩
section
variable {w wr w3 w4 w5 : World} {B p h : Nat} {room : Int} {i : Nat} {L L' : Lay} {A A' : Option Addr} {n0 n' : Nat} {Ak : Option Addr} {nk ck : Nat} {l : List S55} {ob tbo : Obj} {Al Bl : Option Addr} {nl cl ml dl : Nat}
/-- told and both lists -/
theorem round5 (hM : KS w wr B p h room i L A n0 Ak nk ck l) (hB : w.heap.size ≤ B) (st1 : Step B (wr.alloc ob) w3 p L L) (hr1 : Rest B w3 p L) (hl1 : ListIs B w3 (wr.alloc ob).heap.size L Al nl cl) (hat4 : At B w4 p L' h A' n') (mv : Move w3 w4 p L L' h A A')
    (st5 : Step B (w4.alloc tbo) w5 p L' L') (hr5 : Rest B w5 p L') (hl5 : ListIs B w5 (w4.alloc tbo).heap.size L' Bl ml dl) (hroom : L'.room = L.room ∧ L'.touch ≤ L.touch + 1) {tb : Value} {tdat : List Int} (hrd : RdB w4 tb tdat) (hrdo : ∀ k, tb.ownBlock = some k → w3.heap.size ≤ k ∧ k < w4.heap.size ∧ ¬ Foot2 p L' h A' k) :
    K5 w w5 B p h room (i + 1) (w4.alloc tbo).heap.size L' A' n' Ak nk ck l Bl ml dl ∧ ListIs B w5 (wr.alloc ob).heap.size L Al nl cl ∧ w5.heap[wr.heap.size]? = some ob ∧ w5.heap[w4.heap.size]? = some tbo ∧ RdB w5 tb tdat := by
  have hba := below_alloc wr ob
  have hat3 := (hM.at_.below hba).step st1 hr1
  have hkr3 := (hM.row.below hba).step st1
  have hb3 := st1.base (hM.at_.below hba).rest (hM.below.trans (hba.mono hM.below.size)) hB (Nat.le_refl _)
  have hb4 : Below w.heap.size w w4 := below_same hb3 mv.1 (fun k hk => Nat.le_trans hB (hat3.low (Owned.foot2 hk))) (Nat.le_refl _)
  have hba4 := below_alloc w4 tbo
  have hat4' := hat4.below hba4
  have hat5 := hat4'.step st5 hr5
  have hb5 := st5.base hat4'.rest (hb4.trans (hba4.mono hb4.size)) hB (Nat.le_refl _)
  have hkr5 := ((hkr3.moved mv).below hba4).step st5
  have hsz3 : wr.heap.size + 1 ≤ w3.heap.size := by have := st1.size; simpa using this
  have hsz4 : w3.heap.size ≤ w4.heap.size := mv.1.2.2.2.1
  -- all that was written since w3
  have hs : Same (fun k => Foot2 p L h A k ∨ Owned p L' k) w3 w5 := ((mv.1.imp fun k hk => .inl (Owned.foot2 hk)).trans (Same.below hba4)).trans (st5.1.imp fun k hk => .inr hk)
  have hfar : ∀ k, wr.heap.size ≤ k → k < w3.heap.size → ¬ (Foot2 p L h A k ∨ Owned p L' k) := fun k h1 h2 e => by
    have key : ¬ Foot2 p L h A k := fun e => by have := hM.at_.lt e; omega
    rcases e with e | e
    · exact key e
    · rcases mv.2 k (.inl (.inl e)) with e | e
      · exact key e
      · omega
  refine ⟨⟨hat5, hb5, hkr5, hM.len, by have := hM.few; omega, by have := hM.touch; omega, hroom.1.trans hM.room, hl5⟩, hl1.far hs fun k h1 h2 _ => hfar k (by simp at h1; omega) h2, ?_, ?_, ?_⟩
  · refine hs.at (st1.1.at (alloc_is wr ob) fun e => ?_) (hfar _ (Nat.le_refl _) (by omega))
    have := hM.at_.lt (.inl (.inl e))
    omega
  · refine st5.1.at (alloc_is w4 tbo) fun e => ?_
    have := hat4.lt (.inl (.inl e))
    omega
  · exact (hrd.far (S := fun _ => False) (Same.below hba4) fun _ _ h => h).far st5.1 fun k hk e => (hrdo k hk).2.2 (.inl (.inl e))
end
set_option maxHeartbeats 16000000 in
set_option maxRecDepth 1000000 in
theorem keeps_any (room : Int) (As : Option Addr) (n cs : Nat) (ops : List Op1) (w : World) (hs : Script w As n ops) (hn : n ≤ 140737488351232) :
    Calls Try.prog 5 #[.int .i64 room, .slice As n cs] w fun e w' => e = .returned (.bool true) ∧ Below w.heap.size w w' := by
  have HS := Lib.hid hs
  clear hs
  go_enter Try.func5, Try.ntmps5
  go_wp2_with fail
  refine (begun_any _).mono ?_
  rintro e w1 ⟨rfl, hb1⟩
  have B1 := Lib.hid hb1
  clear hb1
  go_upto_region 3 with (fail)
  go_cut [27] from 22 to 27 (fun c wc => c = .bool (decide (room < 1 ∨ 1099511627776 < room)) ∧ w1 = wc)
  case first =>
    by_cases h1 : room < 1
    · go_wp2
      go_meet
      case rel => exact ⟨congrArg Value.bool (decide_eq_true (p := room < 1 ∨ 1099511627776 < room) (by omega)).symm, rfl⟩
    · by_cases h2 : 1099511627776 < room
      · go_wp2
        go_meet
        case rel => exact ⟨congrArg Value.bool (decide_eq_true (p := room < 1 ∨ 1099511627776 < room) (by omega)).symm, rfl⟩
      · go_wp2
        go_meet
        case rel => exact ⟨congrArg Value.bool (decide_eq_false (p := room < 1 ∨ 1099511627776 < room) (by omega)).symm, rfl⟩
  case rest =>
  obtain ⟨rfl, rfl⟩ := hcut
  go_upto_if 27 with (fail)
  go_cut [0] from 22 to 28 (fun v wc => ∃ r : Int, v = .int .i64 r ∧ Hid (1 ≤ r ∧ r ≤ 1099511627776) ∧ w1 = wc)
  case first =>
    by_cases h1 : room < 1 ∨ 1099511627776 < room
    · have h2 := decide_eq_true h1
      rw [h2]
      go_wp2
      go_meet
      case rel => exact ⟨20, rfl, Lib.hid (by omega), rfl⟩
    · have h2 := decide_eq_false h1
      rw [h2]
      go_wp2
      go_meet
      case rel => exact ⟨room, rfl, Lib.hid (by omega), rfl⟩
  case rest =>
  obtain ⟨r, rfl, HR, rfl⟩ := hcut
  go_wp2_with fail
  refine (new_yes r _ HR.out.1 HR.out.2).mono ?_
  rintro e w2 ⟨p, mm, ml, rfl, hb2, hr2⟩
  have hB : w.heap.size ≤ w1.heap.size := B1.out.size
  have hb12 := B1.out.trans (hb2.mono hB)
  have I1 : Hid (KS w (w2.alloc (.cells #[.slice none 0 0] 46)) w1.heap.size p w2.heap.size r 0 (Lay.start r mm ml) none 0 none 0 0 []) := Lib.hid ⟨At.start hr2 (Nat.le_trans (hr2.low (.inl rfl)) (Nat.le_of_lt (hr2.is.lt (.inl rfl)))), hb12.alloc hb12.size _, Kn.start _ _ _, Kd.R_nil _ _ _ _ _, rfl, Nat.le_refl _, Int.le_refl _, rfl⟩
  clear hb2 hr2 hb12
  go_wp2_with fail
  go_loopw [7, 9] (fun v7 v9 wr => ∃ (i : Nat) (L : Lay) (A : Option Addr) (n0 : Nat) (Ak : Option Addr) (nk ck : Nat) (l : List S55), i ≤ 300 ∧ i ≤ n ∧ v7 = .slice Ak nk ck ∧ v9 = .int .i64 i ∧ Hid (KS w wr w1.heap.size p w2.heap.size r i L A n0 Ak nk ck l)) (fun _ v9 _ => 300 - (intOf v9).toNat)
  case atStart => exact ⟨0, _, _, _, _, _, _, _, by omega, by omega, rfl, rfl, I1⟩
  case round =>
    obtain ⟨i, L, A, n0, Ak, nk, ck, l, hi, hin, rfl, rfl, HM⟩ := hrel
    by_cases hlt1 : i < n
    · by_cases hlt2 : i < 300
      · obtain ⟨⟨kind, which, nm, ver, dat⟩, ho⟩ : ∃ o, ops[i]? = some o := ⟨_, List.getElem?_eq_getElem (by have := HS.out.1; omega)⟩
        obtain ⟨ad, Ab, nb, cb, rfl, hop⟩ := HS.out.2 i _ ho
        have hopr := hop.below HM.out.below
        have x0 := hopr.c0
        have x1 := hopr.c1
        have x2 := hopr.c2
        have x3 := hopr.c3
        have x4 := hopr.c4
        have HO := Lib.hid hop
        clear hop hopr ho
        -- the op's own block; List ahead
        have hba : Below wr.heap.size wr (wr.alloc (.cells (opC kind which nm ver (.slice Ab nb cb)) 48)) := below_alloc wr _
        have HL1 := Lib.hid (list_c (HM.out.at_.below hba).rest)
        have HBA := Lib.hid hba
        clear hba
        go_wp2_with fail
        clear x0 x1 x2 x3 x4
        refine HL1.out.mono ?_
        rintro e w3 ⟨Al, nl, cl, rfl, hl1, st1, hr1⟩
        have hat3 := (HM.out.at_.below HBA.out).step st1 hr1
        have hkr3 := (HM.out.row.below HBA.out).step st1
        have hb3 := st1.base (HM.out.at_.below HBA.out).rest (HM.out.below.trans (HBA.out.mono HM.out.below.size)) hB (Nat.le_refl _)
        have ho3 : w3.heap[wr.heap.size]? = some (.cells (opC kind which nm ver (.slice Ab nb cb)) 48 (0, 0)) := st1.1.at (alloc_is wr _) fun e => by
          have := (HM.out.at_.below HBA.out).low (.inl (.inl e))
          have := HM.out.at_.lt (.inl (.inl e))
          omega
        have x0 : w3.cell? ⟨wr.heap.size, 0, none⟩ = some (.int .i64 kind) := by rw [Lib.cell_of_heap ho3]; rfl
        have x1 : w3.cell? ⟨wr.heap.size, 1, none⟩ = some (.int .i64 which) := by rw [Lib.cell_of_heap ho3]; rfl
        have x2 : w3.cell? ⟨wr.heap.size, 2, none⟩ = some (.string nm) := by rw [Lib.cell_of_heap ho3]; rfl
        have x3 : w3.cell? ⟨wr.heap.size, 3, none⟩ = some (.int .i64 ver) := by rw [Lib.cell_of_heap ho3]; rfl
        have x4 : w3.cell? ⟨wr.heap.size, 4, none⟩ = some (.slice Ab nb cb) := by rw [Lib.cell_of_heap ho3]; rfl
        have HT := Lib.hid (told_any w1.heap.size p w2.heap.size L A n0 w3 hat3 (by have := HM.out.touch; omega) kind which nm HO.out.nm ver HO.out.ver Ab nb cb dat HO.out.len (HO.out.below hb3).rd HO.out.dat (fun k hk hd => by
          have h1 := HO.out.rd.lt (k := k) (by rw [block_map]; exact hk) hd
          refine ⟨fun e => ?_, Nat.lt_of_lt_of_le h1 hb3.size⟩
          have := hat3.low e
          omega))
        have H3 := Lib.hid (And.intro st1 (And.intro hr1 hl1))
        clear hat3 hkr3 hb3 ho3 hl1 st1 hr1
        go_wp2_with fail
        refine HT.out.mono ?_
        rintro e w4 ⟨L', A', n', tb, tdat, tv, tl, tls, te, rfl, hat4, mv, hR, hrd, hrdo, hls, hlso⟩
        obtain ⟨At1, ct1, rfl⟩ := hrd.len
        obtain ⟨Al1, cl1, rfl, _⟩ := hls.reads
        generalize hnt : tdat.length = nt at hrd hrdo ⊢
        generalize tls.length = nl1 at hls hlso ⊢
        have H4 := Lib.hid (And.intro hat4 (And.intro mv (And.intro hR (And.intro hrd hrdo))))
        have HNT := Lib.hid hnt
        have HL5 := Lib.hid (list_c (hat4.below (below_alloc w4 (.cells (tdC (.slice At1 nt ct1) tv (.slice Al1 nl1 cl1) te) 50))).rest)
        clear hat4 mv hR hrd hrdo hls hlso HT HL1 hnt
        go_wp2_with fail
        refine HL5.out.mono ?_
        rintro e w5 ⟨Bl, ml, dl, rfl, hl5, st5, hr5⟩
        have hR := H4.out.2.2.1
        obtain ⟨k5, hl5a, ho5, ht5, hrd5⟩ := round5 HM.out hB H3.out.1 H3.out.2.1 H3.out.2.2 H4.out.1 H4.out.2.1 st5 hr5 hl5 (told_room hR HM.out.at_.rest.good) H4.out.2.2.2.1 H4.out.2.2.2.2
        have x0 : w5.cell? ⟨wr.heap.size, 0, none⟩ = some (.int .i64 kind) := by rw [Lib.cell_of_heap ho5]; rfl
        have x2 : w5.cell? ⟨wr.heap.size, 2, none⟩ = some (.string nm) := by rw [Lib.cell_of_heap ho5]; rfl
        have x3 : w5.cell? ⟨wr.heap.size, 3, none⟩ = some (.int .i64 ver) := by rw [Lib.cell_of_heap ho5]; rfl
        have x4 : w5.cell? ⟨wr.heap.size, 4, none⟩ = some (.slice Ab nb cb) := by rw [Lib.cell_of_heap ho5]; rfl
        have y0 : w5.cell? ⟨w4.heap.size, 0, none⟩ = some (.slice At1 nt ct1) := by rw [Lib.cell_of_heap ht5]; rfl
        have y1 : w5.cell? ⟨w4.heap.size, 1, none⟩ = some (.int .i64 tv) := by rw [Lib.cell_of_heap ht5]; rfl
        have y3 : w5.cell? ⟨w4.heap.size, 3, none⟩ = some (.int .i64 te) := by rw [Lib.cell_of_heap ht5]; rfl
        have HK := Lib.hid (And.intro k5 hl5a)
        have HRB := Lib.hid hrd5
        clear hrd5 k5 hl5a ho5 ht5 hl5 st5 hr5 HL5 hR
        have HFEW := Lib.hid HM.out.at_.rest.is.few
        go_upto_region 17 with (fail)
        go_cut [78] from 66 to 78 (fun v78 wc => v78 = .bool false ∧ ∃ a, w5.drewN a = wc)
        case first =>
          by_cases hte : te = 0
          · subst hte
            go_wp2
            go_meet
            case rel => exact ⟨rfl, 0, rfl⟩
          · as_aux_lemma => -- eq0
              have hL : L' = L := told_refused H4.out.2.2.1 hte
              have hte2 : (te != 0) = true := by simpa using hte
              have HQ := Lib.hid (Eq_c HK.out.2 (by have := HK.out.1.lst; rw [hL] at this; exact this) HFEW.out)
              clear hL hte
              go_wp2_with (refine HQ.out.mono ?_; rintro e w6 ⟨rfl, a, rfl⟩)
              go_outline
              go_meet
              case rel => exact ⟨rfl, a, rfl⟩
        case rest =>
        obtain ⟨rfl, a, hwc⟩ := hcut
        have HD := Lib.hid (hwc ▸ HK.out.1.drawn a)
        have HAL := Lib.hid (hwc ▸ HK.out.2.below (below_drewN (Below.refl w5.heap.size w5) a))
        have HRD : Hid (RdA w5 (.slice Ab nb cb) dat) := Lib.hid (HO.out.below HK.out.1.below).rd
        have HRD2 := Lib.hid (hwc ▸ HRD.out.far (S := fun _ => False) (Same.drewN w5 a) (fun _ _ _ h => h))
        have HRB2 := Lib.hid (hwc ▸ HRB.out.far (S := fun _ => False) (Same.drewN w5 a) (fun _ _ h => h))
        have z0 : wc.cell? ⟨wr.heap.size, 0, none⟩ = some (.int .i64 kind) := by rw [← hwc]; exact x0
        have z2 : wc.cell? ⟨wr.heap.size, 2, none⟩ = some (.string nm) := by rw [← hwc]; exact x2
        have z3 : wc.cell? ⟨wr.heap.size, 3, none⟩ = some (.int .i64 ver) := by rw [← hwc]; exact x3
        have z4 : wc.cell? ⟨wr.heap.size, 4, none⟩ = some (.slice Ab nb cb) := by rw [← hwc]; exact x4
        have t0 : wc.cell? ⟨w4.heap.size, 0, none⟩ = some (.slice At1 nt ct1) := by rw [← hwc]; exact y0
        have t1 : wc.cell? ⟨w4.heap.size, 1, none⟩ = some (.int .i64 tv) := by rw [← hwc]; exact y1
        have t3 : wc.cell? ⟨w4.heap.size, 3, none⟩ = some (.int .i64 te) := by rw [← hwc]; exact y3
        clear x0 x2 x3 x4 y0 y1 y3 hwc HK HRD
        go_upto_if 81 with (fail)
        go_cut [7] from 82 to 260 (fun v7 wc => ∃ (Ak : Option Addr) (nk ck : Nat) (l : List S55) (b : Nat), v7 = .slice Ak nk ck ∧ Hid (K5 w wc w1.heap.size p w2.heap.size r (i + 1) b L' A' n' Ak nk ck l Bl ml dl ∧ Kn L' l))
        case first =>
          by_cases hte : te = 0
          · subst hte
            have hR := Lib.hid H4.out.2.2.1
            by_cases k1 : kind = 1
            · as_aux_lemma => -- k1
                subst k1
                obtain ⟨hT, hlast⟩ := told_put hR.out HM.out.at_.rest.good
                have hdl := hT.few
                have HLOW := Lib.hid (HM.out.kn.vers hlast)
                obtain ⟨u1, ⟨j, u2⟩, u3⟩ := keep_lay hT HM.out.kn HM.out.at_.rest.good HM.out.at_.rest.is.blks HM.out.at_.rest.is.few HD.out.at_.rest.is.few
                have HT1 := Lib.hid (fun (n : Nat) => there_c (HAL.out.below (below_drewN (Below.refl wc.heap.size wc) n)) u1)
                have HT2 := Lib.hid (fun (n : Nat) => there_c (HD.out.lst.below (below_drewN (Below.refl wc.heap.size wc) n)) u2)
                have HKN := Lib.hid u3
                clear u1 u2 u3 hT hlast
                go_upto_block 3 with (fail)
                go_cut [16] from 94 to 116 (fun v16 wd => ∃ a, wc.drewN a = wd)
                case first =>
                  have hln := HM.out.len
                  have hfw := HM.out.few
                  go_wp2_with fail
                  go_loopw [16] (fun v16 wr' => ∃ (j a : Nat), j ≤ nk ∧ v16 = .int .i64 j ∧ wr' = wc.drewN a) (fun v16 _ => nk - (intOf v16).toNat)
                  case atStart => exact ⟨0, 0, by omega, rfl, rfl⟩
                  case round =>
                    obtain ⟨j, a, hj, rfl, rfl⟩ := hrel
                    by_cases hlt : j < nk
                    · obtain ⟨c, hc⟩ : ∃ c, l[j]? = some c := ⟨_, List.getElem?_eq_getElem (by omega)⟩
                      have hlow := HLOW.out c (List.mem_of_getElem? hc)
                      obtain ⟨_, g, rfl, _, _, f0, f1, _⟩ := HD.out.spot hc
                      clear hc
                      by_cases hn : c.f0 = nm
                      · have hlt2 := hlow hn
                        have s1 : (c.f0.toList == nm.toList) = true := by rw [hn]; simp
                        have s2 : (c.f0.toList != nm.toList) = false := by rw [hn]; simp
                        have s3 : decide (tv ≤ c.f1) = false := decide_eq_false (by omega)
                        clear hlow hn hln
                        go_wp2_with fail
                        go_quiet (fail)
                        go_wp2
                        go_roundw
                        case rel => exact ⟨j + 1, _, by omega, by go_num, rfl⟩
                        case measure => simp [intOf]; omega
                      · have hn' : c.f0.toList ≠ nm.toList := fun e => hn (toList_inj (by rw [ByteArray.toList_eq, ByteArray.toList_eq] at e; exact e))
                        have s1 : (c.f0.toList == nm.toList) = false := beq_eq_false_iff_ne.mpr hn'
                        have s2 : (c.f0.toList != nm.toList) = true := bne_iff_ne.mpr hn'
                        clear hlow hn hn' hln
                        go_wp2_with fail
                        go_quiet (fail)
                        go_wp2
                        go_roundw
                        case rel => exact ⟨j + 1, _, by omega, by go_num, rfl⟩
                        case measure => simp [intOf]; omega
                    · clear hln
                      go_wp2
                      go_meet
                      case rel => exact ⟨_, rfl⟩
                case rest =>
                obtain ⟨a1, rfl⟩ := hcut
                go_wp2_with fail
                refine (HT1.out _).mono ?_
                rintro e w8 ⟨rfl, a3, rfl⟩
                go_wp2_with fail
                refine (HT2.out _).mono ?_
                rintro e w9 ⟨rfl, a4, rfl⟩
                go_wp2_with fail
                have z2' : (wc.drewN (a1 + a3 + a4)).cell? ⟨wr.heap.size, 2, none⟩ = some (.string nm) := z2
                have z4' : (wc.drewN (a1 + a3 + a4)).cell? ⟨wr.heap.size, 4, none⟩ = some (.slice Ab nb cb) := z4
                generalize hwd : wc.drewN (a1 + a3 + a4) = wd at z2' z4' ⊢
                have HD2 := Lib.hid (hwd ▸ HD.out.drawn (a1 + a3 + a4))
                have HR3 := Lib.hid (hwd ▸ HRD2.out.far (S := fun _ => False) (Same.drewN wc (a1 + a3 + a4)) (fun _ _ _ h => h))
                clear hwd z0 z2 z3 z4 t0 t1 t3
                obtain ⟨A1, n1, c1, W1, e1, hbw, A2, n2, c2, W2, e2, HX⟩ := HD2.out.push HR3.out HO.out.dat hB nm tv HM.out.few hi HKN.out 1
                rw [← World.drew_is_drewN] at e1 hbw
                have z2'' : W1.cell? ⟨wr.heap.size, 2, none⟩ = some (.string nm) := cell_below (w := wd.drew) z2' hbw
                have hlt9 : wr.heap.size < W1.heap.size := cell_in z2''
                clear hbw
                go_region_law ((first | (refine step_append_run (by rfl) _ _ 22 (by rfl) _ _ (by rfl) (by rfl) _ _ e1 ?_) | (refine step_append_run (by rfl) _ _ 43 (by rfl) _ _ (by rfl) (by rfl) _ _ e2 ?_)))
                all_goals
                  go_wp2
                  go_meet
                  case rel => exact ⟨A2, n2, c2, _, _, rfl, HX⟩
            · by_cases k2 : kind = 2
              · as_aux_lemma => -- k2
                  subst k2
                  have hT := told_lay hR.out
                  have hdl := hT.few
                  obtain ⟨u1, ⟨j, u2⟩, u3⟩ := keep_lay hT HM.out.kn HM.out.at_.rest.good HM.out.at_.rest.is.blks HM.out.at_.rest.is.few HD.out.at_.rest.is.few
                  have HT1 := Lib.hid (fun (n : Nat) => there_c (HAL.out.below (below_drewN (Below.refl wc.heap.size wc) n)) u1)
                  have HT2 := Lib.hid (fun (n : Nat) => there_c (HD.out.lst.below (below_drewN (Below.refl wc.heap.size wc) n)) u2)
                  have HKN := Lib.hid u3
                  clear u1 u2 u3 hT
                  go_wp2_with fail
                  refine (HT1.out 0).mono ?_
                  rintro e w8 ⟨rfl, a3, rfl⟩
                  go_wp2_with fail
                  refine (HT2.out _).mono ?_
                  rintro e w9 ⟨rfl, a4, rfl⟩
                  go_wp2_with fail
                  have z2' : (wc.drewN (a3 + a4)).cell? ⟨wr.heap.size, 2, none⟩ = some (.string nm) := z2
                  have z4' : (wc.drewN (a3 + a4)).cell? ⟨wr.heap.size, 4, none⟩ = some (.slice Ab nb cb) := z4
                  generalize hwd : wc.drewN (a3 + a4) = wd at z2' z4' ⊢
                  have HD2 := Lib.hid (hwd ▸ HD.out.drawn (a3 + a4))
                  have HR3 := Lib.hid (hwd ▸ HRD2.out.far (S := fun _ => False) (Same.drewN wc (a3 + a4)) (fun _ _ _ h => h))
                  clear hwd z0 z2 z3 z4 t0 t1 t3
                  obtain ⟨A1, n1, c1, W1, e1, hbw, A2, n2, c2, W2, e2, HX⟩ := HD2.out.push HR3.out HO.out.dat hB nm ver HM.out.few hi HKN.out 1
                  rw [← World.drew_is_drewN] at e1 hbw
                  have z2'' : W1.cell? ⟨wr.heap.size, 2, none⟩ = some (.string nm) := cell_below (w := wd.drew) z2' hbw
                  have hlt9 : wr.heap.size < W1.heap.size := cell_in z2''
                  clear hbw
                  go_region_law ((first | (refine step_append_run (by rfl) _ _ 22 (by rfl) _ _ (by rfl) (by rfl) _ _ e1 ?_) | (refine step_append_run (by rfl) _ _ 43 (by rfl) _ _ (by rfl) (by rfl) _ _ e2 ?_)))
                  all_goals
                    go_wp2
                    go_meet
                    case rel => exact ⟨A2, n2, c2, _, _, rfl, HX⟩
              · by_cases k3 : kind = 3
                · as_aux_lemma => -- k3
                    subst k3
                    obtain ⟨m, hm, e1, e2, e3, hv, hL, hu⟩ := told_take hR.out HM.out.at_.rest.good
                    obtain ⟨k, c, q1, q2, q3, q4, q5⟩ := known_at HM.out.kn hm (by have h2 := HM.out.len; have h3 := HM.out.few; omega)
                    have hur := HM.out.at_.rest.good.used m hm
                    have hvr := HM.out.at_.rest.good.vers m hm
                    have hml : m.dat.length ≤ 2000000000000 := by
                      have h2 := HM.out.at_.rest.good.size_le hm
                      have h3 := HM.out.at_.rest.good.fits
                      have h4 := HM.out.at_.rest.good.room
                      omega
                    have HKN := Lib.hid (keep_take HM.out.kn HM.out.at_.rest.is.blks HM.out.at_.rest.is.keys hm q1 q2 q4)
                    obtain ⟨j, u4⟩ := lst_yes HM.out.at_.rest.is.few hm
                    rw [e1, e2] at q5 u4
                    have HAT := Lib.hid (at_c HD.out.row q5)
                    have HT1 := Lib.hid (fun (n : Nat) => there_c (HAL.out.below (below_drewN (Below.refl wc.heap.size wc) n)) u4)
                    obtain ⟨hknk, g, rfl, f3, fz, _, _, A2, n2, c2, f2, g1, g2, g3⟩ := HD.out.spot q2
                    have hsame : ∀ n : Nat, Calls Try.prog 17 #[.slice At1 nt ct1, .slice A2 n2 c2] (wc.drewN n) fun e w' => e = .returned (.bool true) ∧ ∃ a, w' = (wc.drewN n).drewN a := fun n => by
                      have h1 := bytes_C (HRB2.out.toA) (by rw [e3]; omega)
                      rw [e3] at h1
                      rw [q3] at g1 g3
                      exact Same_c hml ⟨h1.1, h1.2.1, Kd.C_below h1.2.2 (below_drewN (Below.refl wc.heap.size wc) n)⟩ ⟨g1, g2, Kd.C_below g3 (below_drewN (Below.refl wc.heap.size wc) n)⟩
                    have HSM := Lib.hid hsame
                    have HLL := Lib.hid hL
                    have HQ2 := Lib.hid q2
                    have b1 : 0 ≤ c.f3 := by rw [q4]; omega
                    have b2 : c.f3 ≤ 2147483647 := by rw [q4]; omega
                    have hn0 : (tv != 0) = true := by rw [← e2]; simp; omega
                    have hk0 : decide ((k : Int) < 0) = false := decide_eq_false (by omega)
                    have hj0 : decide ((j : Int) < 0) = false := decide_eq_false (by omega)
                    have hvv : (tv != tv) = false := by simp
                    clear e1 e2 e3 hL hu q1 q2 q3 q4 q5 hur hvr hm u4 hsame g1 g2 g3
                    rcases hv with rfl | rfl
                    all_goals
                      go_wp2_with fail
                      refine HAT.out.mono ?_
                      rintro e w7 ⟨rfl, a2, rfl⟩
                      go_wp2_with fail
                      go_quiet ((first | (go_at_call 17; exact quiet_add (HSM.out _)) | (go_at_call 12; exact quiet_add (HT1.out _))))
                      go_wp2
                      go_meet
                      case rel => exact ⟨_, nk, ck, _, _, rfl, Lib.hid ⟨(HD.out.drawn _).put hB HQ2.out _, HLL.out ▸ HKN.out⟩⟩
                · by_cases k4 : kind = 4
                  · as_aux_lemma => -- k4
                      subst k4
                      obtain ⟨m, hm, e1, e2, hL, hu⟩ := told_give hR.out HM.out.at_.rest.good
                      obtain ⟨k, c, q1, q2, q3, q4, q5⟩ := known_at HM.out.kn hm (by have h2 := HM.out.len; have h3 := HM.out.few; omega)
                      have hur := HM.out.at_.rest.good.used m hm
                      have HKN := Lib.hid (keep_give HM.out.kn HM.out.at_.rest.is.blks HM.out.at_.rest.is.keys hm q1 q2 q4)
                      have HLL := Lib.hid hL
                      have HQ2 := Lib.hid q2
                      rw [e1, e2] at q5
                      have HAT := Lib.hid (at_c HD.out.row q5)
                      obtain ⟨hknk, g, rfl, f3, fz, _, _, _⟩ := HD.out.spot q2
                      have b1 : 1 ≤ c.f3 := by rw [q4]; omega
                      have b2 : c.f3 ≤ 2147483647 := by rw [q4]; omega
                      clear e1 e2 hL hu q1 q2 q3 q4 q5 hur hm
                      go_wp2_with (refine HAT.out.mono ?_; rintro e w7 ⟨rfl, a2, rfl⟩)
                      go_meet
                      case rel => exact ⟨_, nk, ck, _, _, rfl, Lib.hid ⟨(HD.out.drawn _).put hB HQ2.out _, HLL.out ▸ HKN.out⟩⟩
                  · by_cases k5 : kind = 5
                    · as_aux_lemma => -- k5
                        subst k5
                        obtain ⟨m, hm, e1, e2, hL, hu⟩ := told_drop hR.out HM.out.at_.rest.good
                        obtain ⟨k, c, q1, q2, q3, q4, q5⟩ := known_at HM.out.kn hm (by have h2 := HM.out.len; have h3 := HM.out.few; omega)
                        obtain ⟨u1, u2, u3⟩ := keep_drop HM.out.kn HM.out.at_.rest.is.blks HM.out.at_.rest.is.keys HM.out.at_.rest.is.few hm hu
                        obtain ⟨j, u4⟩ := lst_yes HM.out.at_.rest.is.few hm
                        rw [← hL] at u1 u2 u3
                        have HKN := Lib.hid u3
                        rw [e1, e2] at q5 u1 u4
                        have HAT := Lib.hid (at_c HD.out.row q5)
                        have HT1 := fun (n : Nat) => there_c (HAL.out.below (below_drewN (Below.refl wc.heap.size wc) n)) u4
                        have HT2 := fun (n : Nat) => there_c (HD.out.lst.below (below_drewN (Below.refl wc.heap.size wc) n)) u1
                        have HTT := Lib.hid (And.intro HT1 HT2)
                        obtain ⟨hknk, g, rfl, f3, fz, _, _, _⟩ := HD.out.spot q2
                        rw [q4, hu] at f3
                        have hnl : nl = ml + 1 := by rw [← HAL.out.len, ← u2, HD.out.lst.len]
                        have hml : ml ≤ 256 := by rw [← HD.out.lst.len, lst_len]; exact HD.out.at_.rest.is.few
                        clear e1 e2 hL hu q1 q2 q3 q4 q5 hm u1 u2 u3 u4 HT1 HT2
                        subst hnl
                        go_wp2_with fail
                        refine HAT.out.mono ?_
                        rintro e w7 ⟨rfl, a2, rfl⟩
                        go_wp2_with fail
                        refine (HTT.out.1 _).mono ?_
                        rintro e w8 ⟨rfl, a3, rfl⟩
                        go_wp2_with fail
                        refine (HTT.out.2 _).mono ?_
                        rintro e w9 ⟨rfl, a4, rfl⟩
                        go_wp2
                        go_meet
                        case rel => exact ⟨_, _, ck, l, _, rfl, Lib.hid ⟨HD.out.drawn _, HKN.out⟩⟩
                    · as_aux_lemma => -- kelse
                        have e1 : (kind == 1) = false := by simpa using k1
                        have e2 : (kind == 2) = false := by simpa using k2
                        have e3 : (kind == 3) = false := by simpa using k3
                        have e4 : (kind == 4) = false := by simpa using k4
                        have e5 : (kind == 5) = false := by simpa using k5
                        go_wp2
                        go_meet
                        case rel => exact ⟨Ak, nk, ck, l, _, rfl, Lib.hid ⟨HD.out, (told_else hR.out k1 k2 k3 k4 k5) ▸ HM.out.kn⟩⟩
          · as_aux_lemma => -- kne
              have hte2 : (te == 0) = false := by simpa using hte
              have hL := Lib.hid (told_refused H4.out.2.2.1 hte)
              go_wp2
              go_meet
              case rel => exact ⟨Ak, nk, ck, l, _, rfl, Lib.hid ⟨HD.out, hL.out ▸ HM.out.kn⟩⟩
        case rest =>
        obtain ⟨Ak, nk, ck, l, b5, rfl, HN⟩ := hcut
        have HF := Lib.hid (fits_c HN.out.1.lst HN.out.1.row (room := r) (by
          have h1 := fits_ok HN.out.1.at_.rest.good HN.out.1.at_.rest.is.keys HN.out.1.at_.rest.is.few HN.out.2 (by have h2 := HN.out.1.len; have h3 := HN.out.1.few; omega)
          rw [HN.out.1.room] at h1
          exact h1))
        go_wp2_with (refine HF.out.mono ?_; rintro e w6 ⟨rfl, a2, rfl⟩)
        go_roundw
        case rel => exact ⟨i + 1, L', A', n', Ak, nk, ck, l, by omega, by omega, rfl, by go_num, Lib.hid (HN.out.1.next HN.out.2 a2)⟩
        case measure => simp [intOf]; omega
      · obtain rfl : i = 300 := by omega
        have B4 := Lib.hid HM.out.below
        go_wp2
        go_ret
        exact ⟨rfl, B4.out⟩
    · obtain rfl : i = n := by omega
      have B4 := Lib.hid HM.out.below
      go_wp2
      go_ret
      exact ⟨rfl, B4.out⟩
end Go.Proofs.Ytancenklmfamnaa.Sh
