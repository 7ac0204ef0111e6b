/- The document's shelf: appends. The document's shelf: lay. The document's shelf: lay's walk. -/
import Derived.Test.YtancenklmfamnaaGreatShRef1
import Derived.Test.YtancenklmfamnaaGreatShToldW
import Derived.Deep.CutBlock
import Derived.Deep.RegionHeld3
set_option linter.unusedVariables false
set_option linter.unusedSimpArgs false
namespace Go.Proofs.YtancenklmfamnaaGreat.Sh
open Go.RowKit Go.Maps Go.Sort Go.Shelf
open Go.Proofs Go.MuLone
open Go.Proofs.YtancenklmfamnaaGreatW.PrintWords (Reps OwnRow Kd ReadsRow)
open PShelfPlays (S70 S104 S115 k70 k104 k115)

theorem info104 : (Tryz.prog.info? 104).map (fun i => (i.zero, i.size, i.bytes)) = some (some (.agg #[.string ByteArray.empty, .int .i64 0, .slice none 0 0, .int .i64 0, .int .i64 0]), 5, 64) := by kernel_rfl
theorem info115 : (Tryz.prog.info? 115).map (fun i => (i.zero, i.size, i.bytes)) = some (some (.agg #[.string ByteArray.empty, .int .i64 0]), 2, 24) := by kernel_rfl
theorem reps_one' {α : Type} {R : α → List Value → Prop} {size : Nat} {ps : List α} {cs : List Value} (h : Reps R size ps cs) (hs : 0 < size) (h1 : ∀ p c, R p c → ∀ u ∈ c, u.oneCell' = true) : ∀ u ∈ cs, u.oneCell' = true := by
  intro u hu
  obtain ⟨q, hq⟩ := List.mem_iff_getElem?.1 hu
  have hql := (List.getElem?_eq_some_iff.1 hq).1
  have hj : q / size < ps.length := Nat.div_lt_of_lt_mul (by rw [h.1] at hql; rw [Nat.mul_comm]; exact hql)
  have h2 := h.2 (q / size) _ (List.getElem?_eq_getElem hj)
  refine h1 _ _ h2 u (List.mem_of_getElem? (i := q % size) ?_)
  rw [List.getElem?_take_of_lt (Nat.mod_lt _ hs), List.getElem?_drop, Nat.mul_comm, Nat.div_add_mod]
  exact hq
section
variable {α : Type} (d : Kd α) {W : World} {B t e bytes : Nat} {z : Value}
/-- one more, at the end; the new one lies in a block of its own -/
theorem N_push_at (ht : Tryz.prog.underlying t = some (.slice e)) (hinfo : (Tryz.prog.info? e).map (fun i => (i.zero, i.size, i.bytes)) = some (some z, d.sz, bytes)) (hz : z.cells.size = d.sz) (hs0 : 0 < d.sz) (hb0 : 0 < bytes)
    {v : Value} {xs : List α} {p : α} {cs : List Value} {ok okp : Nat → Prop} (HO : Kd.N d e W B ok v xs) (hp : Kd.FK d W okp p cs) (hokp : ∀ k, okp k → ok k ∧ some k ≠ v.ownBlock) (hfresh : ∀ k, W.heap.size ≤ k → ok k) (hbase : B ≤ W.heap.size) (hl : (xs.length + 1) * bytes ≤ 140737488355328)
    {gb : Nat} {e' : TypeId} (hbox : W.heap[gb]? = some (.cells cs.toArray e' (0, 0))) (ty : TypeId) :
    ∃ A' n' c' w', (Builtin.append_ #[t, t] ty #[v, .slice (some ⟨gb, 0, none⟩) 1 1]).run Tryz.prog W = .ok (.slice A' n' c') w' ∧ Kd.N d e w' B ok (.slice A' n' c') (xs ++ [p]) ∧ n' = xs.length + 1 ∧ W.grownBy w' v.ownBlock ∧
      ((Value.slice A' n' c').ownBlock = v.ownBlock ∨ ∃ b, (Value.slice A' n' c').ownBlock = some b ∧ W.heap.size ≤ b) := by
  obtain ⟨i0, hi, hzz⟩ := Option.map_eq_some_iff.1 hinfo
  simp only [Prod.mk.injEq] at hzz
  obtain ⟨hz0, hz1, hz2⟩ := hzz
  obtain ⟨h0, rows, hlr, hR, hf⟩ := HO
  obtain ⟨_, inner, hown, hr⟩ := hR
  have hcs : cs.length = d.sz := d.K_len (Kd.FK_now hp)
  have hsz : (Kd.raw d.sz).sz = d.sz := rfl
  rw [hsz] at hown hr
  have hlen : xs.length + 1 ≤ 140737488355328 := Nat.le_trans (Nat.le_mul_of_pos_right _ hb0) hl
  obtain ⟨v', w', h1, h2, h3, _, h5⟩ := run_append_own_at (P := Tryz.prog) W B t ty e i0 z d.sz bytes ht hi hz0 hz1 hz2 hz hs0 v rows.length inner hown ⟨gb, 0, none⟩ 1 1 cs (by rw [hcs, Nat.one_mul]) (fun j u hj => by
    rw [Addr.add_lit, Nat.zero_add, Lib.cell_of_heap hbox]
    simpa using hj) (d.K_one (Kd.FK_now hp)) (by rw [hlr]; unfold maxLen; omega) (by rw [hlr]; exact hl) hbase
  have hR2 : (Kd.raw d.sz).R e w' B (fun _ => True) v' (rows ++ [cs]) := ⟨fun _ _ => trivial, inner ++ cs, by rw [List.length_append]; exact h2, (hr.imp_ fun p c hpc => hpc).snoc ⟨rfl, hcs, d.K_one (Kd.FK_now hp)⟩ hcs⟩
  have h6 := Kd.N_appended h0 hlr hf (ys := [p]) (news := [cs]) rfl (fun j y c hy hc => by
    rcases j with _ | j
    · simp only [List.getElem?_cons_zero, Option.some.injEq] at hy hc
      rw [← hy, ← hc]; exact hp
    · simp at hy) hokp hfresh hR2 h3 (h5.imp id fun e => ⟨_, e, Nat.le_refl _⟩)
  obtain ⟨A', c', rfl⟩ := Kd.N_slice h6
  exact ⟨A', _, c', w', h1, h6, by simp, h3, h5.imp id fun e => ⟨_, e, Nat.le_refl _⟩⟩
/-- all of another row, behind nil -/
theorem N_copy_run (ht : Tryz.prog.underlying t = some (.slice e)) (hinfo : (Tryz.prog.info? e).map (fun i => (i.zero, i.size, i.bytes)) = some (some z, d.sz, bytes)) (hz : z.cells.size = d.sz) (hs0 : 0 < d.sz) (hb0 : 0 < bytes)
    {A : Option Addr} {n c : Nat} {ys : List α} {ok : Nat → Prop} (HO : Kd.N d e W B ok (.slice A n c) ys) (hbase : B ≤ W.heap.size) (hl : ys.length * bytes ≤ 140737488355328) (ty : TypeId) :
    ∃ A' n' c' w', (Builtin.append_ #[t, t] ty #[.slice none 0 0, .slice A n c]).run Tryz.prog W = .ok (.slice A' n' c') w' ∧ Kd.N d e w' B (fun k => ok k ∨ W.heap.size ≤ k) (.slice A' n' c') ys ∧ n' = ys.length ∧ Below W.heap.size W w' ∧ ∀ k, (Value.slice A' n' c').ownBlock = some k → W.heap.size ≤ k := by
  obtain ⟨i0, hi, hzz⟩ := Option.map_eq_some_iff.1 hinfo
  simp only [Prod.mk.injEq] at hzz
  obtain ⟨hz0, hz1, hz2⟩ := hzz
  have hn := (Kd.N_reads' HO).1
  have hF := Kd.N_F HO
  obtain ⟨news, hnl, hnr, hnf⟩ := Kd.reads_raw (Kd.F_rows hF) (fun y c hk => ⟨d.K_len (Kd.FK_now hk), d.K_one (Kd.FK_now hk)⟩)
  have hlen : ys.length ≤ 140737488355328 := Nat.le_trans (Nat.le_mul_of_pos_right _ hb0) hl
  cases A with
  | none =>
    have h0 : n = 0 ∧ c = 0 := by
      obtain ⟨_, rows, _, ⟨_, inner, hown, _⟩, _⟩ := HO
      rcases hown.2 with ⟨e1, _⟩ | ⟨g, cap, cur, e1, _⟩
      · injection e1 with _ e2 e3
        exact ⟨e2, e3⟩
      · cases e1
    obtain ⟨rfl, rfl⟩ := h0
    obtain rfl : ys = [] := List.eq_nil_of_length_eq_zero hn.symm
    exact ⟨none, 0, 0, W, run_append_owned_none (P := Tryz.prog) (w := W) B t ty e i0 d.sz ht hi _ 0 [] (World.ownsRow_nil _ _ _ _), Kd.N_nil _ _ _ _ _, rfl, Below.refl _ _, fun k hk => by cases hk⟩
  | some ad =>
    obtain ⟨inner, hr, hcell⟩ : ∃ inner, Reps (fun x cs => cs = x ∧ cs.length = d.sz ∧ ∀ u ∈ cs, u.oneCell' = true) d.sz news inner ∧ ∀ j u, inner[j]? = some u → W.cell? (ad.add j) = some u := YtancenklmfamnaaGreatW.PrintWords.ReadsRow.inner_ hnr
    have h1 : ∀ u ∈ inner, u.oneCell' = true := reps_one' hr hs0 (fun p c hp => hp.2.2)
    obtain ⟨v', w', h2, h3, h4, _, h5⟩ := run_append_own_at (P := Tryz.prog) W B t ty e i0 z d.sz bytes ht hi hz0 hz1 hz2 hz hs0 (.slice none 0 0) 0 [] (World.ownsRow_nil _ _ _ _) ad n c inner (by rw [hr.1, hnl, hn]) hcell h1 (by unfold maxLen; omega) (by rw [hn, Nat.zero_add]; exact hl) hbase
    rw [Nat.zero_add, List.nil_append] at h3
    have hR2 : (Kd.raw d.sz).R e w' B (fun _ => True) v' ([] ++ news) := ⟨fun _ _ => trivial, inner, by rw [List.nil_append, hnl, ← hn]; exact h3, hr⟩
    have h6 := Kd.N_appended (d := d) (ok := fun k => ok k ∨ W.heap.size ≤ k) (W := W) (v := .slice none 0 0) (xs := []) (rows := []) (fun k hk => by cases hk) rfl (fun j x c hx => by simp at hx) hnl hnf (okp := ok) (fun k hk => ⟨.inl hk, by simp [Value.ownBlock]⟩) (fun k hk => .inr hk) hR2 h4 (h5.imp id fun e => ⟨_, e, Nat.le_refl _⟩)
    rw [List.nil_append] at h6
    obtain ⟨A', c', rfl⟩ := Kd.N_slice h6
    exact ⟨A', _, c', w', h2, h6, rfl, (Below.refl _ W).grown h4 (Nat.le_refl _) (fun k hk => by cases hk), fun k hk => by
      rcases h5 with h5 | h5
      · rw [h5] at hk; cases hk
      · rw [h5] at hk
        cases hk
        exact Nat.le_refl _⟩
end
end Go.Proofs.YtancenklmfamnaaGreat.Sh
namespace Go.Proofs.YtancenklmfamnaaGreat.Sh
open Go.RowKit Go.Maps Go.Sort Go.Shelf
open Go.Proofs Go.MuLone
open Go.Proofs.YtancenklmfamnaaGreatW.PrintWords (Reps OwnRow Kd ReadsRow)
open PShelfPlays (S70 S104 S115 k70 k104 k115)

def RefL (B : Nat) (w : World) (g : Nat) (F : Nat → Prop) (L : Lay) : Prop := RefIs B w g F L.room L.touch (L.ms.map m104) (L.last.map l115)
def RLayP (B g : Nat) (F : Nat → Prop) (L : Lay) (nm : ByteArray) (ver : Int) (dat : List Int) (w : World) (e : Ending) (w' : World) : Prop :=
  (e = .returned (.int .i64 4) ∧ NoRoom L nm dat.length ∧ Below w.heap.size w w') ∨
  (e = .returned (.int .i64 0) ∧ ¬ NoRoom L nm dat.length ∧ ∃ i F', pickL L dat.length = some i ∧ RStep w w' F F' ∧
    RefIs B w' g F' L.room (L.touch + 1) ((keepL L ((unusedL L).take i)).map m104 ++ [⟨nm, ver, dat, 0, L.touch + 1⟩]) ((setLast L.last nm (max ((L.lastOf nm).getD 0) ver)).map l115))
theorem last_none {L : Lay} {nm : ByteArray} (h : ∀ x ∈ L.last.map l115, x.f0 ≠ nm) : L.lastOf nm = none := by
  unfold Lay.lastOf
  rw [List.find?_eq_none.2]
  · rfl
  · intro x hx
    simp
    exact h (l115 x) (List.mem_map_of_mem hx)
theorem last_some {L : Lay} {nm : ByteArray} (hn : (L.last.map (·.1)).Nodup) {i : Nat} {x : S115} (hx : (L.last.map l115)[i]? = some x) (he : x.f0 = nm) : L.lastOf nm = some x.f1 := by
  rw [List.getElem?_map] at hx
  obtain ⟨y, hy, rfl⟩ := Option.map_eq_some_iff.1 hx
  unfold Lay.lastOf
  have hm := List.mem_of_getElem? hy
  cases hf : L.last.find? fun x => decide (x.1 = nm) with
  | none =>
    have := List.find?_eq_none.1 hf y hm
    simp at this
    exact absurd he this
  | some z =>
    have h1 := List.find?_some hf
    simp at h1
    have h2 := List.mem_of_find?_eq_some hf
    have := map_inj hn h2 hm (h1.trans he.symm)
    subst this
    rfl
theorem erase_map {α β : Type} (f : α → β) : ∀ (l : List α) (b : Nat), (l.map f).eraseIdx b = (l.eraseIdx b).map f
  | [], b => by simp
  | x :: l, 0 => by simp
  | x :: l, b + 1 => by simp [erase_map f l b]
section
variable {B n c : Nat} {w : World} {F : Nat → Prop} {ok : Nat → Prop} {A : Option Addr} {l : List LM}
theorem size_c (h : Kd.N k104 104 w B ok (.slice A n c) (l.map m104)) (hl : l.length ≤ 256) (hs : sizes l ≤ 1099511627776) : Calls Tryz.prog 70 #[.slice A n c] w fun e w' => e = .returned (.int .i64 (sizes l)) ∧ ∃ a, w' = w.drewN a := by
  obtain ⟨rfl, hc, hC⟩ := Kd.N_reads' h
  refine (PShelfPlays.heddleref27_size.calls _ A c (l.map m104) _ w hC hc (size_f (by simp; omega) (by rw [sumD_m]; omega))).mono ?_
  rintro e w8 ⟨rfl, ⟨⟨a, rfl⟩⟩⟩
  exact ⟨by rw [sumD_m], a, rfl⟩
theorem oldest_c (h : Kd.N k104 104 w B ok (.slice A n c) (l.map m104)) (hl : l.length ≤ 256) : Calls Tryz.prog 71 #[.slice A n c] w (RetR (OldR (l.map m104) l.length) w) := by
  obtain ⟨rfl, hc, hC⟩ := Kd.N_reads' h
  obtain ⟨r, h1, h2⟩ := oldest_f (l := l.map m104) (by simp; omega)
  refine (PShelfPlays.heddleref27_oldest.calls _ A c (l.map m104) r w hC hc h1).mono ?_
  rintro e w8 ⟨rfl, ⟨⟨a, rfl⟩⟩⟩
  rw [List.length_map] at h2
  exact ⟨r, rfl, h2, a, rfl⟩
theorem without_c (h : Kd.N k104 104 w B ok (.slice A n c) (l.map m104)) (hl : l.length ≤ 256) (hB : B ≤ w.heap.size) (b : Nat) : Calls Tryz.prog 56 #[.slice A n c, .int .i64 (b : Int)] w fun e w' => ∃ A' n' c', e = .returned (.slice A' n' c') ∧ Kd.N k104 104 w' B (fun k => ok k ∨ w.heap.size ≤ k) (.slice A' n' c') ((l.eraseIdx b).map m104) ∧ Below w.heap.size w w' := by
  obtain ⟨rfl, hc, hC⟩ := Kd.N_reads' h
  refine (PShelfPlays.heddleref27_without.calls _ ok A c (l.map m104) (b : Int) _ w (Kd.N_V h) (without_f (l := l.map m104) (by simp; omega) b)).mono ?_
  rintro e w8 ⟨v, rfl, h1, h2⟩
  obtain ⟨A', c', rfl⟩ := Kd.N_slice h1
  refine ⟨A', _, c', rfl, ?_, h2⟩
  have h3 := Kd.N_lower h1 hB
  have h4 := erase_map m104 l b
  rw [h4] at h3
  rw [h4]
  exact h3
end
theorem bytes_R {W : World} {B : Nat} {v1 : Value} {dat : List Int} {ok : Nat → Prop} (ho : W.ownsRow B 5 1 v1 dat.length (dat.map encB)) (hok : ∀ k, v1.ownBlock = some k → ok k) : (Kd.int .u8).R 5 W B ok v1 dat := by
  refine ⟨hok, dat.map encB, ho, ?_, fun j x hj => ?_⟩
  · rw [List.length_map]
    exact (Nat.mul_one _).symm
  · show ((dat.map encB).drop (j * 1)).take 1 = [encB x]
    have h1 : (dat.map encB)[j]? = some (encB x) := by rw [List.getElem?_map, hj]; rfl
    obtain ⟨h2, h3⟩ := List.getElem?_eq_some_iff.1 h1
    rw [Nat.mul_one, List.drop_eq_getElem_cons h2, h3]
    rfl
abbrev refC (room clk : Int) (A1 : Option Addr) (n1 c1 : Nat) (A2 : Option Addr) (n2 c2 : Nat) : Obj := .cells #[.int .i64 room, .slice A1 n1 c1, .slice A2 n2 c2, .int .i64 clk] 102
abbrev modC (nm : ByteArray) (ver : Int) (Ad : Option Addr) (nd cd : Nat) (u : Int) : Obj := .cells #[.string nm, .int .i64 ver, .slice Ad nd cd, .int .i64 0, .int .i64 u] 104
theorem row_own {W : World} {B e sz n c : Nat} {A : Option Addr} {xs : List Value} (h : W.ownsRow B e sz (.slice A n c) n xs) {k : Nat} (hk : A.map (·.block) = some k) : B ≤ k ∧ k < W.heap.size := by
  have := row_tyN h (j := k) (by cases A <;> simp [Value.ownBlock] at hk ⊢; exact hk)
  exact ⟨this.1, by obtain ⟨_, cur, hc⟩ := this; exact at_lt hc⟩
section
variable {B g n1 c1 n2 c2 nj cj : Nat} {w0 w : World} {F : Nat → Prop} {room clk : Int} {ms lm : List S104} {ls : List S115} {A1 A2 Aj : Option Addr}
/-- behind region 11: the clock is set, the new model lies by itself -/
structure S11 (B : Nat) (w0 w : World) (g : Nat) (F : Nat → Prop) (room u : Int) (ms lm : List S104) (ls : List S115) (A1 : Option Addr) (n1 c1 : Nat) (A2 : Option Addr) (n2 c2 : Nat) (Aj : Option Addr) (nj cj : Nat) (nm : ByteArray) (ver : Int) (dat : List Int) (gz : Nat) (Ad : Option Addr) (nd cd : Nat) : Prop where
  at_ : RefAt B w g F room u ms ls A1 n1 c1 A2 n2 c2
  row : Kd.N k104 104 w B (fun k => DS F g A2 k ∨ w0.heap.size ≤ k) (.slice Aj nj cj) lm
  own : w.ownsRow w0.heap.size 5 1 (.slice Ad nd cd) nd (dat.map encB)
  len : dat.length = nd
  blk : w.heap[gz]? = some (modC nm ver Ad nd cd u)
  low : w0.heap.size ≤ gz ∧ w0.heap.size ≤ w.heap.size
  old : ∀ k, F k → k < w0.heap.size
variable {u : Int} {nm : ByteArray} {ver : Int} {dat : List Int} {gz nd cd nb cb : Nat} {Ad Ab : Option Addr} {w' : World}
theorem S11.below (t : S11 B w0 w g F room u ms lm ls A1 n1 c1 A2 n2 c2 Aj nj cj nm ver dat gz Ad nd cd) (hb : Below w.heap.size w w') : S11 B w0 w' g F room u ms lm ls A1 n1 c1 A2 n2 c2 Aj nj cj nm ver dat gz Ad nd cd :=
  ⟨t.at_.below hb, Kd.N_below t.row hb, YtancenklmfamnaaGreatW.PrintWords.own_move t.own fun k hk => hb.block k (by obtain ⟨_, cur, hc⟩ := row_tyN t.own hk; exact at_lt hc), t.len, (hb.block gz (at_lt t.blk)).trans t.blk, ⟨t.low.1, Nat.le_trans t.low.2 hb.size⟩, t.old⟩
abbrev zeroM : Obj := .cells #[.string ⟨#[]⟩, .int .i64 0, .slice none 0 0, .int .i64 0, .int .i64 0] 104
theorem lay_a (T : RefAt B w g F room u ms ls A1 n1 c1 A2 n2 c2) (hw : w0.heap.size ≤ w.heap.size) (hF0 : ∀ k, F k → k < w0.heap.size) (row : Kd.N k104 104 w B (fun k => DS F g A2 k ∨ w0.heap.size ≤ k) (.slice Aj nj cj) lm) (hrd : RdA w (.slice Ab nb cb) dat) (hdl : dat.length ≤ 16777216) (nm : ByteArray) (ver : Int) :
    ∃ Ad nd cd W2, (Builtin.append_ #[25, 25] 25 #[.slice none 0 0, .slice Ab nb cb]).run Tryz.prog w = .ok (.slice Ad nd cd) W2 ∧ W2.cell? ⟨g, 3, none⟩ = some (.int .i64 u) ∧ Below w.heap.size w W2 ∧ W2.ownsRow w0.heap.size 5 1 (.slice Ad nd cd) nd (dat.map encB) ∧ dat.length = nd ∧
      Hid (S11 B w0 (W2.alloc (modC nm ver Ad nd cd u)) g F room u ms lm ls A1 n1 c1 A2 n2 c2 Aj nj cj nm ver dat W2.heap.size Ad nd cd) := by
  obtain ⟨v2, W2, r2, o2, g2, at2⟩ := app_bytes (B := w0.heap.size) (xs := []) (World.ownsRow_nil _ _ _ _) hrd (by omega) hw 25
  rw [Nat.zero_add, List.nil_append] at o2
  obtain ⟨Ad, cd, rfl⟩ := YtancenklmfamnaaGreatW.PrintWords.own_slice o2
  have hb2 : Below w.heap.size w W2 := (Below.refl _ _).grown g2 (Nat.le_refl _) fun k hk => by cases hk
  have hba := below_alloc W2 (modC nm ver Ad dat.length cd u)
  have T2 := T.below hb2
  refine ⟨Ad, dat.length, cd, W2, r2, T2.cells.2.2.2.1, hb2, o2, rfl, Lib.hid ⟨T2.below hba, Kd.N_below (Kd.N_below row hb2) hba, o2.alloc _, rfl, alloc_is W2 _, ⟨Nat.le_trans hw hb2.size, by have := hb2.size; have := hba.size; omega⟩, hF0⟩⟩
theorem set_same (W : World) (gz i : Nat) (v : Value) : Same (fun k => k = gz) W (W.setCell ⟨gz, i, none⟩ v) := Same.set _ _ _ rfl
set_option maxHeartbeats 1000000 in
theorem lay_b (T : RefAt B w g F room u ms ls A1 n1 c1 A2 n2 c2) (hw : w0.heap.size ≤ w.heap.size) (hF0 : ∀ k, F k → k < w0.heap.size) (row : Kd.N k104 104 w B (fun k => DS F g A2 k ∨ w0.heap.size ≤ k) (.slice Aj nj cj) lm) (hrd : RdA w (.slice Ab nb cb) dat) (hdl : dat.length ≤ 16777216) (nm : ByteArray) (ver : Int) :
    ∃ Ad nd cd W2, (Builtin.append_ #[25, 25] 25 #[.slice none 0 0, .slice Ab nb cb]).run Tryz.prog (w.alloc zeroM) = .ok (.slice Ad nd cd) W2 ∧ W2.cell? ⟨g, 3, none⟩ = some (.int .i64 u) ∧ W2.heap[w.heap.size]? = some zeroM ∧ Below (w.alloc zeroM).heap.size (w.alloc zeroM) W2 ∧
      Hid (S11 B w0 (((((W2.setCell ⟨w.heap.size, 0, none⟩ (.string nm)).setCell ⟨w.heap.size, 1, none⟩ (.int .i64 ver)).setCell ⟨w.heap.size, 2, none⟩ (.slice Ad nd cd)).setCell ⟨w.heap.size, 3, none⟩ (.int .i64 0)).setCell ⟨w.heap.size, 4, none⟩ (.int .i64 u)) g F room u ms lm ls A1 n1 c1 A2 n2 c2 Aj nj cj nm ver dat w.heap.size Ad nd cd) := by
  have hba := below_alloc w zeroM
  have hrow := Kd.N_below (Kd.N_bound row) hba
  obtain ⟨Ad, nd, cd, W2, r2, y2, hb2, o2, hl, _⟩ := lay_a (T.below hba) (by simp; omega) hF0 (Kd.N_mono hrow fun k hk => hk.1) (hrd.far (S := fun _ => False) (Same.below hba) fun _ _ _ h => h) hdl nm ver
  have hz : W2.heap[w.heap.size]? = some zeroM := by rw [hb2.block w.heap.size (by simp)]; exact alloc_is w _
  have hs : Same (fun k => k = w.heap.size) W2 (((((W2.setCell ⟨w.heap.size, 0, none⟩ (.string nm)).setCell ⟨w.heap.size, 1, none⟩ (.int .i64 ver)).setCell ⟨w.heap.size, 2, none⟩ (.slice Ad nd cd)).setCell ⟨w.heap.size, 3, none⟩ (.int .i64 0)).setCell ⟨w.heap.size, 4, none⟩ (.int .i64 u)) :=
    ((((set_same W2 w.heap.size 0 _).trans (set_same _ w.heap.size 1 _)).trans (set_same _ w.heap.size 2 _)).trans (set_same _ w.heap.size 3 _)).trans (set_same _ w.heap.size 4 _)
  have hrow2 := Kd.N_below hrow hb2
  refine ⟨Ad, nd, cd, W2, r2, y2, hz, hb2, Lib.hid ⟨((T.below hba).below hb2).off hs fun k hk e => by have := (T.foot k hk).2; omega, ?_, ?_, hl, ?_, ⟨hw, ?_⟩, hF0⟩⟩
  · exact Kd.N_mono (Kd.N_step hrow2 fun k hk hlt => hs.2.2.2.2 k hlt fun e => by have := hk.2; omega) fun k hk => hk.1
  · refine YtancenklmfamnaaGreatW.PrintWords.own_move o2 fun k hk => ?_
    obtain ⟨_, cur, hc⟩ := row_tyN o2 hk
    refine hs.2.2.2.2 k (at_lt hc) fun e => ?_
    subst e
    rw [hz] at hc
    injection hc with hc
    injection hc with _ hc
    exact absurd hc (by decide)
  · have h1 := YtancenklmfamnaaGreatW.PrintWords.blk_set hz 0 (.string nm)
    have h2 := YtancenklmfamnaaGreatW.PrintWords.blk_set h1 1 (.int .i64 ver)
    have h3 := YtancenklmfamnaaGreatW.PrintWords.blk_set h2 2 (.slice Ad nd cd)
    have h4 := YtancenklmfamnaaGreatW.PrintWords.blk_set h3 3 (.int .i64 0)
    have h5 := YtancenklmfamnaaGreatW.PrintWords.blk_set h4 4 (.int .i64 u)
    simpa using h5
  · have := hs.2.2.2.1
    have := hb2.size
    simp at this
    omega
/-- the new list of models -/
theorem lay_push (t : S11 B w0 w g F room u ms lm ls A1 n1 c1 A2 n2 c2 Aj nj cj nm ver dat gz Ad nd cd) {A3 : Option Addr} {n3 c3 gb : Nat} (N3 : Kd.N k104 104 w B (fun k => DS F g A2 k ∨ w0.heap.size ≤ k) (.slice A3 n3 c3) lm) (hA3 : ∀ k, (Value.slice A3 n3 c3).ownBlock = some k → w0.heap.size ≤ k) (hbox : w.heap[gb]? = some (modC nm ver Ad nd cd u)) (hl : lm.length ≤ 1000) :
    ∃ A4 n4 c4 W5, (Builtin.append_ #[99, 99] 99 #[.slice A3 n3 c3, .slice (some ⟨gb, 0, none⟩) 1 1]).run Tryz.prog w = .ok (.slice A4 n4 c4) W5 ∧ W5.cell? ⟨g, 1, none⟩ = some (.slice A1 n1 c1) ∧ W5.frozen? ⟨g, 1, none⟩ = false ∧
      Hid (RefAt B (W5.setCell ⟨g, 1, none⟩ (.slice A4 n4 c4)) g (fun k => F k ∨ (w0.heap.size ≤ k ∧ k < W5.heap.size)) room u (lm ++ [⟨nm, ver, dat, 0, u⟩]) ls A4 n4 c4 A2 n2 c2 ∧ Same (fun k => F k ∨ w0.heap.size ≤ k) w (W5.setCell ⟨g, 1, none⟩ (.slice A4 n4 c4))) := by
  have hg0 := t.old g t.at_.self
  have hlen := t.len
  subst hlen
  have hMk : k104.M w w0.heap.size (fun k => Ad.map (·.block) = some k ∧ w0.heap.size ≤ k) ⟨nm, ver, dat, 0, u⟩ [.string nm, .int .i64 ver, .slice Ad dat.length cd, .int .i64 0, .int .i64 u] := PShelfPlays.k104_mkM w w0.heap.size _ ⟨nm, ver, dat, 0, u⟩ (v2 := .slice Ad dat.length cd) (bytes_R t.own fun k hk => by
    have hk' : Ad.map (·.block) = some k := by cases Ad <;> simp [Value.ownBlock] at hk ⊢; exact hk
    exact ⟨hk', (row_tyN t.own hk).1⟩)
  have hFK := Kd.FK_of_M hMk
  have hBw : B ≤ w.heap.size := by have := t.at_.foot g t.at_.self; omega
  obtain ⟨A4, n4, c4, W5, r5, N5, hn4, hg5, hat5⟩ := N_push_at k104 Tryz.underlying99 info104 rfl (by decide) (by decide) N3 hFK (fun k hk => ⟨.inr hk.2, fun e => by
    obtain ⟨cells, hc⟩ := Kd.N_typed N3 k e.symm
    have hk' : (Value.slice Ad dat.length cd).ownBlock = some k := by
      have := hk.1
      cases Ad <;> simp [Value.ownBlock] at this ⊢
      exact this
    obtain ⟨cur, hcur⟩ := (row_tyN t.own hk').2
    rw [hc] at hcur
    injection hcur with hcur
    injection hcur with _ hcur
    exact absurd hcur (by decide)⟩) (fun k hk => .inr (by have := t.low.2; omega)) hBw (by omega) hbox 99
  have hblk5 : W5.heap[g]? = some (refC room u A1 n1 c1 A2 n2 c2) := by
    rw [hg5.block g (at_lt t.at_.blk) fun e => by have := hA3 g e.symm; omega]
    exact t.at_.blk
  have hsz5 : w.heap.size ≤ W5.heap.size := hg5.size
  have hfo := t.at_.foot
  refine ⟨A4, n4, c4, W5, r5, by rw [Lib.cell_of_heap hblk5]; rfl, Lib.frozen_of_heap hblk5 _, Lib.hid ⟨⟨?_, ?_, ?_, .inl t.at_.self, fun k hk => ?_⟩, ?_⟩⟩
  · have := YtancenklmfamnaaGreatW.PrintWords.blk_set hblk5 1 (.slice A4 n4 c4)
    simpa using this
  · have h1 := Kd.N_far N5 (p := ⟨g, 1, none⟩) (fun k hk e => by
      have e' : k = g := e
      subst e'
      rcases hk with hk | hk
      · exact hk.2.1 rfl
      · omega) (.slice A4 n4 c4)
    refine Kd.N_mono (Kd.N_bound h1) fun k hk => ?_
    rcases hk.1 with h2 | h2
    · exact ⟨.inl h2.1, h2.2⟩
    · refine ⟨.inr ⟨h2, by simpa [World.setCell] using hk.2⟩, by omega, fun e => ?_⟩
      have h3 := t.at_.lasts.1 k (by cases A2 <;> simp [Value.ownBlock] at e ⊢; exact e)
      have := t.old k h3.1
      omega
  · have h1 := Kd.N_grown t.at_.lasts hg5 fun k hk e => by
      have := hA3 k e.symm
      have := t.old k hk.1
      omega
    exact Kd.N_mono (Kd.N_far h1 (p := ⟨g, 1, none⟩) (fun k hk e => hk.2 e) _) fun k hk => ⟨.inl hk.1, hk.2⟩
  · have hsz6 : (W5.setCell ⟨g, 1, none⟩ (.slice A4 n4 c4)).heap.size = W5.heap.size := by simp [World.setCell]
    rw [hsz6]
    rcases hk with hk | hk
    · have := hfo k hk
      exact ⟨this.1, by omega⟩
    · have := hfo g t.at_.self
      omega
  · have h1 : Same (fun k => F k ∨ w0.heap.size ≤ k) w W5 := Same.grown hg5 fun k hk => .inl (.inr (hA3 k hk))
    exact h1.trans (Same.set _ _ _ (.inl t.at_.self))
theorem lay_cp (t : S11 B w0 w g F room u ms lm ls A1 n1 c1 A2 n2 c2 Aj nj cj nm ver dat gz Ad nd cd) (hl : lm.length ≤ 1000) :
    ∃ A3 n3 c3 W4, (Builtin.append_ #[99, 99] 99 #[.slice none 0 0, .slice Aj nj cj]).run Tryz.prog w = .ok (.slice A3 n3 c3) W4 ∧ Below w.heap.size w W4 ∧ Kd.N k104 104 W4 B (fun k => DS F g A2 k ∨ w0.heap.size ≤ k) (.slice A3 n3 c3) lm ∧ ∀ k, (Value.slice A3 n3 c3).ownBlock = some k → w.heap.size ≤ k := by
  have hBw : B ≤ w.heap.size := by have := t.at_.foot g t.at_.self; omega
  obtain ⟨A3, n3, c3, W4, r4, N4, hn3, hb4, hnew⟩ := N_copy_run k104 Tryz.underlying99 info104 rfl (by decide) (by decide) t.row hBw (by omega) 99
  refine ⟨A3, n3, c3, W4, r4, hb4, Kd.N_mono N4 fun k hk => ?_, fun k hk => hnew k hk⟩
  rcases hk with hk | hk
  · exact hk
  · right
    have := t.low.2
    omega
/-- both orders of region 12 -/
theorem lay_12a (t : S11 B w0 w g F room u ms lm ls A1 n1 c1 A2 n2 c2 Aj nj cj nm ver dat gz Ad nd cd) (hl : lm.length ≤ 1000) :
    ∃ A3 n3 c3 W4, (Builtin.append_ #[99, 99] 99 #[.slice none 0 0, .slice Aj nj cj]).run Tryz.prog w = .ok (.slice A3 n3 c3) W4 ∧ W4.heap[gz]? = some (modC nm ver Ad nd cd u) ∧
      ∃ A4 n4 c4 W5, (Builtin.append_ #[99, 99] 99 #[.slice A3 n3 c3, .slice (some ⟨W4.heap.size, 0, none⟩) 1 1]).run Tryz.prog (W4.alloc (modC nm ver Ad nd cd u)) = .ok (.slice A4 n4 c4) W5 ∧ W5.cell? ⟨g, 1, none⟩ = some (.slice A1 n1 c1) ∧ W5.frozen? ⟨g, 1, none⟩ = false ∧
        Hid (RefAt B (W5.setCell ⟨g, 1, none⟩ (.slice A4 n4 c4)) g (fun k => F k ∨ (w0.heap.size ≤ k ∧ k < W5.heap.size)) room u (lm ++ [⟨nm, ver, dat, 0, u⟩]) ls A4 n4 c4 A2 n2 c2 ∧ Same (fun k => F k ∨ w0.heap.size ≤ k) w (W5.setCell ⟨g, 1, none⟩ (.slice A4 n4 c4))) := by
  obtain ⟨A3, n3, c3, W4, r4, hb4, N4, h4⟩ := lay_cp t hl
  have hba := below_alloc W4 (modC nm ver Ad nd cd u)
  obtain ⟨A4, n4, c4, W5, r5, q1, q2, HX⟩ := lay_push ((t.below hb4).below hba) (Kd.N_below N4 hba) (fun k hk => Nat.le_trans t.low.2 (h4 k hk)) (alloc_is W4 _) hl
  exact ⟨A3, n3, c3, W4, r4, (t.below hb4).blk, A4, n4, c4, W5, r5, q1, q2, Lib.hid ⟨HX.out.1, ((Same.below hb4).trans (Same.below hba)).trans HX.out.2⟩⟩
theorem lay_12b (t : S11 B w0 w g F room u ms lm ls A1 n1 c1 A2 n2 c2 Aj nj cj nm ver dat gz Ad nd cd) (hl : lm.length ≤ 1000) :
    ∃ A3 n3 c3 W4, (Builtin.append_ #[99, 99] 99 #[.slice none 0 0, .slice Aj nj cj]).run Tryz.prog (w.alloc (modC nm ver Ad nd cd u)) = .ok (.slice A3 n3 c3) W4 ∧ W4.heap[gz]? = some (modC nm ver Ad nd cd u) ∧
      ∃ A4 n4 c4 W5, (Builtin.append_ #[99, 99] 99 #[.slice A3 n3 c3, .slice (some ⟨w.heap.size, 0, none⟩) 1 1]).run Tryz.prog W4 = .ok (.slice A4 n4 c4) W5 ∧ W5.cell? ⟨g, 1, none⟩ = some (.slice A1 n1 c1) ∧ W5.frozen? ⟨g, 1, none⟩ = false ∧
        Hid (RefAt B (W5.setCell ⟨g, 1, none⟩ (.slice A4 n4 c4)) g (fun k => F k ∨ (w0.heap.size ≤ k ∧ k < W5.heap.size)) room u (lm ++ [⟨nm, ver, dat, 0, u⟩]) ls A4 n4 c4 A2 n2 c2 ∧ Same (fun k => F k ∨ w0.heap.size ≤ k) w (W5.setCell ⟨g, 1, none⟩ (.slice A4 n4 c4))) := by
  have hba := below_alloc w (modC nm ver Ad nd cd u)
  obtain ⟨A3, n3, c3, W4, r4, hb4, N4, h4⟩ := lay_cp (t.below hba) hl
  obtain ⟨A4, n4, c4, W5, r5, q1, q2, HX⟩ := lay_push ((t.below hba).below hb4) N4 (fun k hk => Nat.le_trans (Nat.le_trans t.low.2 hba.size) (h4 k hk)) ((hb4.block w.heap.size (by simp)).trans (alloc_is w _)) hl
  exact ⟨A3, n3, c3, W4, r4, ((t.below hba).below hb4).blk, A4, n4, c4, W5, r5, q1, q2, Lib.hid ⟨HX.out.1, ((Same.below hba).trans (Same.below hb4)).trans HX.out.2⟩⟩
/-- a name that is new -/
theorem lay_name (T : RefAt B w g F room clk ms ls A1 n1 c1 A2 n2 c2) (hl : ls.length ≤ 65536) (nm : ByteArray) (ver : Int) :
    ∃ A5 n5 c5 W7, (Builtin.append_ #[100, 100] 100 #[.slice A2 n2 c2, .slice (some ⟨w.heap.size, 0, none⟩) 1 1]).run Tryz.prog (w.alloc (.cells #[.string nm, .int .i64 ver] 115)) = .ok (.slice A5 n5 c5) W7 ∧ W7.heap[g]? = some (refC room clk A1 n1 c1 A2 n2 c2) ∧
      Hid (RefAt B (W7.setCell ⟨g, 2, none⟩ (.slice A5 n5 c5)) g (fun k => F k ∨ (w.heap.size ≤ k ∧ k < W7.heap.size)) room clk ms (ls ++ [⟨nm, ver⟩]) A1 n1 c1 A5 n5 c5 ∧ Same F w (W7.setCell ⟨g, 2, none⟩ (.slice A5 n5 c5))) := by
  have hgw := T.foot g T.self
  have hL : Kd.N k115 115 w B (fun k => (F k ∧ k ≠ g) ∨ w.heap.size ≤ k) (.slice A2 n2 c2) ls := Kd.N_mono T.lasts fun k hk => .inl hk
  have hba := below_alloc w (.cells #[.string nm, .int .i64 ver] 115)
  obtain ⟨A5, n5, c5, W7, r7, N7, hn5, hg7, hat7⟩ := N_push_at k115 Tryz.underlying100 info115 rfl (by decide) (by decide) (Kd.N_below hL hba) (PShelfPlays.k115_mkF (w.alloc (.cells #[.string nm, .int .i64 ver] 115)) (fun _ => False) ⟨nm, ver⟩) (fun k hk => hk.elim) (fun k hk => .inr (by simp at hk; omega)) (by simp; omega) (by omega) (alloc_is w _) 100
  have hT5 := T.below hba
  have hsz7 : w.heap.size + 1 ≤ W7.heap.size := by have := hg7.size; simpa using this
  have hown2 : ∀ k, (Value.slice A2 n2 c2).ownBlock = some k → F k ∧ k ≠ g := T.lasts.1
  have hblk7 : W7.heap[g]? = some (refC room clk A1 n1 c1 A2 n2 c2) := by
    rw [hg7.block g (at_lt hT5.blk) fun e => (hown2 g e.symm).2 rfl]
    exact hT5.blk
  refine ⟨A5, n5, c5, W7, r7, hblk7, Lib.hid ⟨⟨?_, ?_, ?_, .inl T.self, fun k hk => ?_⟩, ?_⟩⟩
  · have := YtancenklmfamnaaGreatW.PrintWords.blk_set hblk7 2 (.slice A5 n5 c5)
    simpa using this
  · have h1 := Kd.N_grown hT5.mods hg7 fun k hk e => hk.2.2 (by
      have e' : (Value.slice A2 n2 c2).ownBlock = some k := e.symm
      cases A2 <;> simp [Value.ownBlock] at e' ⊢
      exact e')
    have h2 := Kd.N_bound (Kd.N_far h1 (p := ⟨g, 2, none⟩) (fun k hk e => hk.2.1 e) (.slice A5 n5 c5))
    have h3 : ∀ k, DS F g A2 k → k < w.heap.size → DS (fun k => F k ∨ (w.heap.size ≤ k ∧ k < W7.heap.size)) g A5 k := fun k hk hlt => ⟨.inl hk.1, hk.2.1, fun e => by
      have e' : (Value.slice A5 n5 c5).ownBlock = some k := by cases A5 <;> simp [Value.ownBlock] at e ⊢; exact e
      rcases hat7 with h5 | ⟨b, h5, h6⟩
      · rw [h5] at e'
        exact hk.2.2 (by cases A2 <;> simp [Value.ownBlock] at e' ⊢; exact e')
      · rw [h5] at e'
        cases e'
        simp at h6
        omega⟩
    refine Kd.N_mono h2 fun k hk => h3 k hk.1 (T.foot k hk.1.1).2
  · have h1 := Kd.N_bound (Kd.N_far N7 (p := ⟨g, 2, none⟩) (fun k hk e => by
      have e' : k = g := e
      subst e'
      rcases hk with hk | hk
      · exact hk.2 rfl
      · omega) (.slice A5 n5 c5))
    refine Kd.N_mono h1 fun k hk => ?_
    rcases hk.1 with h2 | h2
    · exact ⟨.inl h2.1, h2.2⟩
    · exact ⟨.inr ⟨h2, by simpa [World.setCell] using hk.2⟩, by omega⟩
  · have hsz8 : (W7.setCell ⟨g, 2, none⟩ (.slice A5 n5 c5)).heap.size = W7.heap.size := by simp [World.setCell]
    rw [hsz8]
    rcases hk with hk | hk
    · have := T.foot k hk
      exact ⟨this.1, by omega⟩
    · omega
  · refine ⟨hg7.os.trans hba.os, hg7.tape.trans hba.tape, hg7.output.trans hba.output, by simp [World.setCell]; omega, fun k hk hS => ?_⟩
    have hkg : k ≠ g := fun e => hS (e ▸ T.self)
    rw [Below.heap_setCell W7 ⟨g, 2, none⟩ _ k hkg, hg7.block k (by simp; omega) (fun e => hS (hown2 k e.symm).1), hba.block k hk]
end
theorem sizes_sub {a b : List LM} (h : a.Sublist b) : sizes a ≤ sizes b := by
  induction h with
  | slnil => exact Int.le_refl _
  | cons x _ ih => simp [sizes, sz]; omega
  | cons_cons x _ ih => simp [sizes]; omega
theorem sizes_keep (L : Lay) (l : List LM) : sizes (keepL L l) ≤ sizes L.ms := sizes_sub List.filter_sublist
/-- in lay's loop -/
structure LayS (B : Nat) (w wr : World) (g : Nat) (F : Nat → Prop) (L : Lay) (A2 : Option Addr) (nb j : Nat) (Aj : Option Addr) (nj cj : Nat) : Prop where
  below : Below w.heap.size w wr
  row : Kd.N k104 104 wr B (fun k => DS F g A2 k ∨ w.heap.size ≤ k) (.slice Aj nj cj) ((keepL L ((unusedL L).take j)).map m104)
  vj : VJ L nb j
theorem step_append_run {P : Program} {w : World} {ops : Array Oper} {o : Oper} {a : Act} {K : Act → World → Prop} {Q : Exit → Act → World → Prop} {E : Prop} (hgd : o.guard = none) (s x : Operand) (t : TypeId)
    (ho : o.op = .call { callee := .builtin .append, args := #[s, x], argTypes := #[t, t] }) (vs vx : Value) (hs : a.eval s = vs) (hx : a.eval x = vx)
    (v' : Value) (w' : World) (hr : (Builtin.append_ #[t, t] o.type #[vs, vx]).run P w = .ok v' w') (h : K (a.put o.dst v') w') : if Region.wanted o (yielded ops a.tmps) = true then Oper.wp P o a w K Q else E := by
  have hw : Region.wanted o (yielded ops a.tmps) = true := by simp [Region.wanted, hgd]
  rw [if_pos hw]
  unfold Oper.wp
  simp [execOp, ho, resolve, invoke, builtin, hs, hx, hr, Result.andThen]
  exact h
theorem step_append_ex {P : Program} {w : World} {ops : Array Oper} {o : Oper} {a : Act} {K : Act → World → Prop} {Q : Exit → Act → World → Prop} {E : Prop} {Φ : Value → World → Prop} (hgd : o.guard = none) (s x : Operand) (t : TypeId)
    (ho : o.op = .call { callee := .builtin .append, args := #[s, x], argTypes := #[t, t] }) (vs vx : Value) (hs : a.eval s = vs) (hx : a.eval x = vx)
    (hr : ∃ v' w', (Builtin.append_ #[t, t] o.type #[vs, vx]).run P w = .ok v' w' ∧ Φ v' w') (h : ∀ v' w', Φ v' w' → K (a.put o.dst v') w') : if Region.wanted o (yielded ops a.tmps) = true then Oper.wp P o a w K Q else E := by
  obtain ⟨v', w', h1, h2⟩ := hr
  exact step_append_run hgd s x t ho vs vx hs hx v' w' h1 (h v' w' h2)
def slLen : Value → Nat
  | .slice _ n _ => n
  | _ => 0
end Go.Proofs.YtancenklmfamnaaGreat.Sh
namespace Go.Proofs.YtancenklmfamnaaGreat.Sh
open Go.RowKit Go.Maps Go.Sort Go.Shelf
open Go.Proofs Go.MuLone
open Go.Proofs.YtancenklmfamnaaGreatW.PrintWords (Reps OwnRow Kd ReadsRow)
open PShelfPlays (S70 S104 S115 k70 k104 k115)

theorem putAt_nd {nm : ByteArray} {v : Int} : ∀ {l : List (ByteArray × Int)} {i : Nat} {y : ByteArray × Int}, (l.map (·.1)).Nodup → l[i]? = some y → y.1 = nm → l.map (putAt nm v) = l.set i (nm, v)
  | [], i, y, _, h, _ => by simp at h
  | z :: l, 0, y, hn, h, e => by
    simp only [List.getElem?_cons_zero, Option.some.injEq] at h
    subst h
    rw [List.map_cons, List.set_cons_zero]
    congr 1
    · unfold putAt
      rw [if_pos e]
    · rw [List.map_cons, List.nodup_cons] at hn
      have : l.map (putAt nm v) = l.map id := List.map_congr_left fun x hx => by
        unfold putAt
        rw [if_neg fun e2 : x.1 = nm => hn.1 (by rw [e, ← e2]; exact List.mem_map_of_mem hx)]
        rfl
      rw [this, List.map_id]
  | z :: l, i + 1, y, hn, h, e => by
    rw [List.map_cons, List.nodup_cons] at hn
    simp only [List.getElem?_cons_succ] at h
    rw [List.map_cons, List.set_cons_succ, putAt_nd hn.2 h e]
    congr 1
    unfold putAt
    rw [if_neg fun e2 => hn.1 (by rw [e2, ← e]; exact List.mem_map_of_mem (List.mem_of_getElem? h))]
theorem last_new {L : Lay} {nm : ByteArray} {ver : Int} (hv : 1 ≤ ver) (h : ∀ x ∈ L.last.map l115, x.f0 ≠ nm) : (setLast L.last nm (max ((L.lastOf nm).getD 0) ver)).map l115 = L.last.map l115 ++ [⟨nm, ver⟩] := by
  rw [last_none h]
  have hk : knownIn L.last nm = false := by
    cases hk : knownIn L.last nm
    · rfl
    · obtain ⟨x, hx, e⟩ := List.mem_map.1 ((knownIn_iff _ _).1 hk)
      exact absurd e (h (l115 x) (List.mem_map_of_mem hx))
  unfold setLast
  rw [hk]
  simp [l115]
  omega
theorem last_old {L : Lay} {nm : ByteArray} {ver : Int} (hn : (L.last.map (·.1)).Nodup) {i : Nat} {x : S115} (hx : (L.last.map l115)[i]? = some x) (he : x.f0 = nm) : (setLast L.last nm (max ((L.lastOf nm).getD 0) ver)).map l115 = (L.last.map l115).set i { x with f1 := max x.f1 ver } := by
  rw [last_some hn hx he]
  rw [List.getElem?_map] at hx
  obtain ⟨y, hy, rfl⟩ := Option.map_eq_some_iff.1 hx
  have hk : knownIn L.last nm = true := (knownIn_iff _ _).2 (List.mem_map.2 ⟨y, List.mem_of_getElem? hy, he⟩)
  unfold setLast
  rw [if_pos hk, putAt_nd hn hy he, List.map_set]
  have : (l115 y).f0 = nm := he
  simp [l115] at this ⊢
  rw [this]
theorem set_self {α : Type} {l : List α} {i : Nat} {x : α} (h : l[i]? = some x) : l.set i x = l := by
  apply List.ext_getElem?
  intro j
  rw [List.getElem?_set]
  split
  · rename_i e
    subst e
    split
    · exact h.symm
    · rename_i h2
      rw [List.getElem?_eq_none (by omega)]
  · rfl
set_option maxHeartbeats 8000000 in
set_option maxRecDepth 1000000 in
theorem ref_lay {B g n1 c1 n2 c2 : Nat} {w : World} {F : Nat → Prop} {L : Lay} {A1 A2 : Option Addr} (t : RefAt B w g F L.room L.touch (L.ms.map m104) (L.last.map l115) A1 n1 c1 A2 n2 c2) (gd : Good L) (hb : (L.ms.map (·.blk)).Nodup) (hfew : L.ms.length ≤ 256) (hln : (L.last.map (·.1)).Nodup)
    (nm : ByteArray) (ver : Int) (hv : 1 ≤ ver ∧ ver ≤ 4611686018427387904) (htc : L.touch < 4611686018427387904) (Ab : Option Addr) (nb cb : Nat) (dat : List Int) (hdn : dat.length = nb) (hrow : RdA w (.slice Ab nb cb) dat) (hdl : dat.length ≤ 16777216) (hbo : ∀ k, Ab.map (·.block) = some k → dat ≠ [] → ¬ F k) :
    Calls Tryz.prog 53 #[.pointer (some ⟨g, 0, none⟩), .string nm, .int .i64 ver, .slice Ab nb cb] w (RLayP B g F L nm ver dat w) := by
  have hn2 : n2 ≤ 65536 := by have := t.len2.1; simp at this; have := gd.lastFew; omega
  have hBw : B ≤ w.heap.size := by have := t.foot g t.self; omega
  obtain ⟨x0, x1, x2, x3, fz⟩ := t.cells
  have HLA := Lib.hid (ref_last t (by omega) nm)
  have hrm := gd.room
  have T := Lib.hid t
  have G := Lib.hid gd
  have HB := Lib.hid (And.intro hb (And.intro hfew hln))
  have HR := Lib.hid (And.intro hrow hbo)
  have HD := Lib.hid hdn
  clear t gd hb hfew hln hrow hbo fz
  have hdl2 : nb ≤ 16777216 := by rw [← hdn]; exact hdl
  clear hdn hdl
  go_enter Tryz.func53, Tryz.ntmps53
  go_wp2_with fail
  refine HLA.out.mono ?_
  rintro e w1 ⟨r, rfl, hr, a, rfl⟩
  have hl0 : Below w.heap.size w (w.drewN a) := below_drewN (Below.refl _ _) a
  have I0 : Hid (LayS B w (w.drewN a) g F L A2 nb 0 A1 n1 c1) := Lib.hid ⟨hl0, by rw [List.take_zero, keepL_nil]; exact Kd.N_mono (Kd.N_below T.out.mods hl0) fun k hk => .inl hk, VJ.start G.out _⟩
  clear hl0
  have HRR := Lib.hid hr
  clear hr
  go_upto_region 2 with (fail)
  go_cut [34] from 16 to 34 (fun v34 wc => v34 = .bool (decide ((r < 0 ∧ 65536 ≤ n2) ∨ L.room < (nb : Int))) ∧ wc = w.drewN a)
  case first =>
    by_cases hlt : r < 0
    · by_cases hbig : 65536 ≤ n2
      · have e2 : decide ((65536 : Int) ≤ (n2 : Int)) = true := decide_eq_true (by omega)
        go_wp2
        go_meet
        case rel => exact ⟨congrArg Value.bool (decide_eq_true (p := (r < 0 ∧ 65536 ≤ n2) ∨ L.room < (nb : Int)) (.inl ⟨hlt, hbig⟩)).symm, rfl⟩
      · have e2 : decide ((65536 : Int) ≤ (n2 : Int)) = false := decide_eq_false (by omega)
        by_cases hr2 : L.room < (nb : Int)
        · have e3 : decide (L.room < (nb : Int)) = true := decide_eq_true hr2
          go_wp2
          go_meet
          case rel => exact ⟨congrArg Value.bool (decide_eq_true (p := (r < 0 ∧ 65536 ≤ n2) ∨ L.room < (nb : Int)) (.inr hr2)).symm, rfl⟩
        · have e3 : decide (L.room < (nb : Int)) = false := decide_eq_false hr2
          go_wp2
          go_meet
          case rel => exact ⟨congrArg Value.bool (decide_eq_false (p := (r < 0 ∧ 65536 ≤ n2) ∨ L.room < (nb : Int)) (by omega)).symm, rfl⟩
    · by_cases hr2 : L.room < (nb : Int)
      · have e3 : decide (L.room < (nb : Int)) = true := decide_eq_true hr2
        go_wp2
        go_meet
        case rel => exact ⟨congrArg Value.bool (decide_eq_true (p := (r < 0 ∧ 65536 ≤ n2) ∨ L.room < (nb : Int)) (.inr hr2)).symm, rfl⟩
      · have e3 : decide (L.room < (nb : Int)) = false := decide_eq_false hr2
        go_wp2
        go_meet
        case rel => exact ⟨congrArg Value.bool (decide_eq_false (p := (r < 0 ∧ 65536 ≤ n2) ∨ L.room < (nb : Int)) (by omega)).symm, rfl⟩
  case rest =>
  obtain ⟨rfl, rfl⟩ := hcut
  by_cases hfull : (r < 0 ∧ 65536 ≤ n2) ∨ L.room < (nb : Int)
  · have hno : Hid (NoRoom L nm dat.length) := Lib.hid (by
      rcases hfull with ⟨h1, h2⟩ | h
      · rcases HRR.out with ⟨_, hr⟩ | ⟨i, x, e, _⟩
        · exact .inl ⟨last_none hr, by have := T.out.len2.1; simp at this; omega⟩
        · omega
      · exact .inr (.inl (by rw [HD.out]; exact h)))
    rw [decide_eq_true hfull]
    clear hfull
    go_wp2
    go_ret
    exact .inl ⟨rfl, hno.out, below_drewN (Below.refl _ _) _⟩
  · have hroom : (nb : Int) ≤ L.room := by omega
    have hfit : Hid (¬ ((L.lastOf nm = none ∧ 65536 ≤ L.last.length) ∨ L.room < (dat.length : Int))) := Lib.hid (by
      rintro (⟨h1, h2⟩ | h)
      · rcases HRR.out with ⟨e, _⟩ | ⟨i, x, _, hx, he⟩
        · exact hfull (.inl ⟨by omega, by have := T.out.len2.1; simp at this; omega⟩)
        · rw [last_some HB.out.2.2 hx he] at h1
          cases h1
      · rw [HD.out] at h
        omega)
    rw [decide_eq_false hfull]
    clear hfull
    go_wp2_with fail
    go_loopw [10] (fun v10 wr => ∃ (j : Nat) (Aj : Option Addr) (nj cj : Nat), v10 = .slice Aj nj cj ∧ Hid (LayS B w wr g F L A2 nb j Aj nj cj)) (fun v10 _ => slLen v10)
    case atStart => exact ⟨0, _, _, _, rfl, I0⟩
    case round =>
      obtain ⟨j, Aj, nj, cj, rfl, HM⟩ := hrel
      have hnj := (Kd.N_reads' HM.out.row).1
      rw [List.length_map] at hnj
      have hkl : (keepL L ((unusedL L).take j)).length ≤ 256 := Nat.le_trans (List.length_filter_le _ _) HB.out.2.1
      have hks : sizes (keepL L ((unusedL L).take j)) ≤ 1099511627776 := Int.le_trans (sizes_keep L _) (by have := G.out.bytes; have := G.out.fits; omega)
      have hk0 := sizes_nonneg (keepL L ((unusedL L).take j))
      have hTr := T.out.below HM.out.below
      obtain ⟨x0, x1, x2, x3, _⟩ := hTr.cells
      have hBr : B ≤ wr.heap.size := Nat.le_trans hBw HM.out.below.size
      have HSZ := Lib.hid (fun (q : Nat) => size_c (Kd.N_drewN HM.out.row q) hkl hks)
      have HTr := Lib.hid hTr
      clear hTr
      generalize hS : sizes (keepL L ((unusedL L).take j)) = S at HSZ hks hk0
      by_cases hc : S + (nb : Int) ≤ L.room ∧ (nj : Int) < 256
      · obtain ⟨hc1, hc2⟩ := hc
        have hpk : Hid (pickL L nb = some j) := Lib.hid (HM.out.vj.stop ⟨by rw [hS]; exact hc1, by rw [← hnj]; exact hc2⟩)
        have e1 : decide (L.room < S + (nb : Int)) = false := decide_eq_false (by omega)
        have e2 : decide ((256 : Int) ≤ (nj : Int)) = false := decide_eq_false (by omega)
        have e3 : IntKind.i64.wrap (S + (nb : Int)) = S + (nb : Int) := Go.IntWalk.i64_in _ (by omega)
        have HNJ := Lib.hid (And.intro hnj hS)
        clear hnj hS
        go_wp2_with fail
        go_quiet ((go_at_call 70; exact Calls.quiet_of (HSZ.out _)))
        have hTq := HTr.out.below (below_drewN (Below.refl wr.heap.size wr) nq)
        have htc0 := G.out.touch
        have fz3 : (wr.drewN nq).frozen? ⟨g, 3, none⟩ = false := Lib.frozen_of_heap hTq.blk _
        have fz3' : wr.frozen? ⟨g, 3, none⟩ = false := Lib.frozen_of_heap HTr.out.blk _
        have hgz : g < wr.heap.size := (HTr.out.foot g HTr.out.self).2
        have HTQ := Lib.hid hTq
        clear hTq
        have hnr : Hid (¬ NoRoom L nm dat.length) := Lib.hid (by
          rintro (h | h | h)
          · exact hfit.out (.inl h)
          · exact hfit.out (.inr h)
          · rw [HD.out, hpk.out] at h
            cases h)
        -- region 11: the model by itself
        go_upto_region 11 with (fail)
        go_cut [12] from 68 to 76 (fun v12 wc => ∃ (gz : Nat) (Ad : Option Addr) (nd cd : Nat), v12 = .pointer (some ⟨gz, 0, none⟩) ∧ Hid (S11 B w wc g F L.room (L.touch + 1) (L.ms.map m104) ((keepL L ((unusedL L).take j)).map m104) (L.last.map l115) A1 n1 c1 A2 n2 c2 Aj nj cj nm ver dat gz Ad nd cd ∧ Same F w wc))
        case first =>
          have T1 := (HTQ.out.clk (L.touch + 1)).below (below_drewN (Below.refl ((wr.drewN nq).setCell ⟨g, 3, none⟩ (.int .i64 (L.touch + 1))).heap.size ((wr.drewN nq).setCell ⟨g, 3, none⟩ (.int .i64 (L.touch + 1)))) 1)
          have hF0 : ∀ k, F k → k < w.heap.size := fun k hk => (T.out.foot k hk).2
          have hg0 := hF0 g T.out.self
          have hrow1 := Kd.N_drewN (Kd.N_far (Kd.N_drewN HM.out.row nq) (p := ⟨g, 3, none⟩) (fun k hk e => by
            have e' : k = g := e
            subst e'
            rcases hk with hk | hk
            · exact hk.2.1 rfl
            · omega) (.int .i64 (L.touch + 1))) 1
          have hS1 : Same F w (((wr.drewN nq).setCell ⟨g, 3, none⟩ (.int .i64 (L.touch + 1))).drewN 1) := ((Same.below HM.out.below).trans (Same.drewN wr nq)).trans ((Same.set _ _ _ T.out.self).trans (Same.drewN _ 1))
          have hrd1 : RdA (((wr.drewN nq).setCell ⟨g, 3, none⟩ (.int .i64 (L.touch + 1))).drewN 1) (.slice Ab nb cb) dat := HR.out.1.far hS1 fun k hk hd e => HR.out.2 k (by cases Ab <;> simp [Value.ownBlock] at hk ⊢; exact hk) hd e
          have hw1 : w.heap.size ≤ (((wr.drewN nq).setCell ⟨g, 3, none⟩ (.int .i64 (L.touch + 1))).drewN 1).heap.size := hS1.2.2.2.1
          have hzz : (((wr.drewN nq).setCell ⟨g, 3, none⟩ (.int .i64 (L.touch + 1))).drewN 1).heap.size = wr.heap.size := by simp [World.setCell]
          have Pa : ∃ v' w', (Builtin.append_ #[25, 25] 25 #[.slice none 0 0, .slice Ab nb cb]).run Tryz.prog (((wr.drewN nq).setCell ⟨g, 3, none⟩ (.int .i64 (L.touch + 1))).drew) = .ok v' w' ∧ ∃ Ad nd cd, v' = .slice Ad nd cd ∧ w'.cell? ⟨g, 3, none⟩ = some (.int .i64 (L.touch + 1)) ∧
              Hid (S11 B w (w'.alloc (modC nm ver Ad nd cd (L.touch + 1))) g F L.room (L.touch + 1) (L.ms.map m104) ((keepL L ((unusedL L).take j)).map m104) (L.last.map l115) A1 n1 c1 A2 n2 c2 Aj nj cj nm ver dat w'.heap.size Ad nd cd ∧ Same F w (w'.alloc (modC nm ver Ad nd cd (L.touch + 1)))) := by
            obtain ⟨Ad, nd, cd, W2, r2, y2, hb2, o2, hl2, HA⟩ := lay_a (w0 := w) T1 hw1 hF0 hrow1 hrd1 (by rw [HD.out]; exact hdl2) nm ver
            exact ⟨_, W2, r2, Ad, nd, cd, rfl, y2, Lib.hid ⟨HA.out, hS1.trans ((Same.below hb2).trans (Same.below (below_alloc W2 (modC nm ver Ad nd cd (L.touch + 1)))))⟩⟩
          have Pb : ∃ v' w', (Builtin.append_ #[25, 25] 25 #[.slice none 0 0, .slice Ab nb cb]).run Tryz.prog ((((wr.drewN nq).setCell ⟨g, 3, none⟩ (.int .i64 (L.touch + 1))).alloc zeroM).drew) = .ok v' w' ∧ ∃ Ad nd cd, v' = .slice Ad nd cd ∧ w'.cell? ⟨g, 3, none⟩ = some (.int .i64 (L.touch + 1)) ∧ w'.heap[wr.heap.size]? = some zeroM ∧
              Hid (S11 B w (((((w'.setCell ⟨wr.heap.size, 0, none⟩ (.string nm)).setCell ⟨wr.heap.size, 1, none⟩ (.int .i64 ver)).setCell ⟨wr.heap.size, 2, none⟩ (.slice Ad nd cd)).setCell ⟨wr.heap.size, 3, none⟩ (.int .i64 0)).setCell ⟨wr.heap.size, 4, none⟩ (.int .i64 (L.touch + 1))) g F L.room (L.touch + 1) (L.ms.map m104) ((keepL L ((unusedL L).take j)).map m104) (L.last.map l115) A1 n1 c1 A2 n2 c2 Aj nj cj nm ver dat wr.heap.size Ad nd cd ∧
                Same F w (((((w'.setCell ⟨wr.heap.size, 0, none⟩ (.string nm)).setCell ⟨wr.heap.size, 1, none⟩ (.int .i64 ver)).setCell ⟨wr.heap.size, 2, none⟩ (.slice Ad nd cd)).setCell ⟨wr.heap.size, 3, none⟩ (.int .i64 0)).setCell ⟨wr.heap.size, 4, none⟩ (.int .i64 (L.touch + 1)))) := by
            obtain ⟨Ad, nd, cd, W2, r2, y2, bk2, hs2, HA⟩ := lay_b (w0 := w) T1 hw1 hF0 hrow1 hrd1 (by rw [HD.out]; exact hdl2) nm ver
            rw [hzz] at bk2 HA
            refine ⟨_, W2, r2, Ad, nd, cd, rfl, y2, bk2, Lib.hid ⟨HA.out, ?_⟩⟩
            have h1 := hS1.trans ((Same.below (below_alloc _ zeroM)).trans (Same.below hs2))
            have h2 : Same (fun k => k = wr.heap.size) W2 _ := ((((set_same W2 wr.heap.size 0 (.string nm)).trans (set_same _ wr.heap.size 1 (.int .i64 ver))).trans (set_same _ wr.heap.size 2 (.slice Ad nd cd))).trans (set_same _ wr.heap.size 3 (.int .i64 0))).trans (set_same _ wr.heap.size 4 (.int .i64 (L.touch + 1)))
            exact ⟨h2.1.trans h1.1, h2.2.1.trans h1.2.1, h2.2.2.1.trans h1.2.2.1, Nat.le_trans h1.2.2.2.1 h2.2.2.2.1, fun k hk hS => (h2.2.2.2.2 k (Nat.lt_of_lt_of_le hk h1.2.2.2.1) (fun e => by have := HM.out.below.size; omega)).trans (h1.2.2.2.2 k hk hS)⟩
          have S0 : (((wr.drewN nq).setCell ⟨g, 3, none⟩ (.int .i64 (L.touch + 1))).drew).cell? ⟨g, 3, none⟩ = some (.int .i64 (L.touch + 1)) := T1.cells.2.2.2.1
          have S0b : ((((wr.drewN nq).setCell ⟨g, 3, none⟩ (.int .i64 (L.touch + 1))).alloc zeroM).drew).cell? ⟨g, 3, none⟩ = some (.int .i64 (L.touch + 1)) := (T1.below (below_alloc _ zeroM)).cells.2.2.2.1
          clear hzz T1 hF0 hrow1 hS1 hrd1 hw1 hg0
          obtain ⟨vA, W2, r2, Ad, nd, cd, rfl, y2, HA⟩ := Pa
          obtain ⟨vB, W3, r3, Bd, md, dd, rfl, y3, bk3, HBB⟩ := Pb
          have z0 : W3.cell? ⟨wr.heap.size, 0, none⟩ = some (.string ⟨#[]⟩) := by rw [Lib.cell_of_heap bk3]; rfl
          have z1 : W3.cell? ⟨wr.heap.size, 1, none⟩ = some (.int .i64 0) := by rw [Lib.cell_of_heap bk3]; rfl
          have z2 : W3.cell? ⟨wr.heap.size, 2, none⟩ = some (.slice none 0 0) := by rw [Lib.cell_of_heap bk3]; rfl
          have z3 : W3.cell? ⟨wr.heap.size, 3, none⟩ = some (.int .i64 0) := by rw [Lib.cell_of_heap bk3]; rfl
          have z4 : W3.cell? ⟨wr.heap.size, 4, none⟩ = some (.int .i64 0) := by rw [Lib.cell_of_heap bk3]; rfl
          have zf : ∀ i, W3.frozen? ⟨wr.heap.size, i, none⟩ = false := fun i => Lib.frozen_of_heap bk3 _
          have zf0 := zf 0
          have zf1 := zf 1
          have zf2 := zf 2
          have zf3 := zf 3
          have zf4 := zf 4
          clear bk3 zf
          have S0c := HBB.out.1.at_.cells.2.2.2.1
          go_region_held3 (fun w' => w'.cell? ⟨g, 3, none⟩ = some (.int .i64 (L.touch + 1))) ((first | (with_reducible exact S0) | (with_reducible exact S0b) | (with_reducible exact S0c) | (with_reducible assumption) | go_keep)) ((first
            | refine step_append_run (by rfl) _ _ 25 (by rfl) (.slice none 0 0) (.slice Ab nb cb) (by rfl) (by rfl) (.slice Ad nd cd) W2 (by with_reducible exact r2) ?_
            | refine step_append_run (by rfl) _ _ 25 (by rfl) (.slice none 0 0) (.slice Ab nb cb) (by rfl) (by rfl) (.slice Bd md dd) W3 (by with_reducible exact r3) ?_))
          · go_wp2
            go_meet
            case rel => exact ⟨W2.heap.size, Ad, nd, cd, rfl, HA⟩
          · go_wp2
            go_meet
            case rel => exact ⟨wr.heap.size, Bd, md, dd, rfl, HBB⟩
        case rest =>
        obtain ⟨gz, Ad, nd, cd, rfl, HZ⟩ := hcut
        clear fz3 fz3' hgz x0 x1 x2 x3
        -- region 12: the new list
        go_upto_region 12 with (fail)
        go_cut [] from 77 to 84 (fun wd => ∃ (A4 : Option Addr) (n4 c4 : Nat) (F' : Nat → Prop), Hid (RefAt B wd g F' L.room (L.touch + 1) ((keepL L ((unusedL L).take j)).map m104 ++ [⟨nm, ver, dat, 0, L.touch + 1⟩]) (L.last.map l115) A4 n4 c4 A2 n2 c2 ∧ RStep w wd F F'))
        case first =>
          have hd1 := below_drewN (Below.refl wc.heap.size wc) 1
          have hll : ((keepL L ((unusedL L).take j)).map m104).length ≤ 1000 := by rw [List.length_map]; omega
          obtain ⟨A3, n3, c3, W4, r4, bk4, A4, n4, c4, W5, r5, q1, q2, HX⟩ := lay_12a (HZ.out.1.below hd1) hll
          obtain ⟨B3, m3, d3, W6, r6, bk6, B4, m4, d4, W7, r7, p1, p2, HY⟩ := lay_12b (HZ.out.1.below hd1) hll
          have hsame : ∀ wd : World, Same (fun k => F k ∨ w.heap.size ≤ k) (wc.drewN 1) wd → Same F w wd := fun wd h2 => by
            have h1 := HZ.out.2.trans (Same.drewN wc 1)
            exact ⟨h2.1.trans h1.1, h2.2.1.trans h1.2.1, h2.2.2.1.trans h1.2.2.1, Nat.le_trans h1.2.2.2.1 h2.2.2.2.1, fun k hk hS => (h2.2.2.2.2 k (Nat.lt_of_lt_of_le hk h1.2.2.2.1) (fun e => e.elim hS fun e => by omega)).trans (h1.2.2.2.2 k hk hS)⟩
          have HA5 : Hid (RefAt B (W5.setCell ⟨g, 1, none⟩ (.slice A4 n4 c4)) g (fun k => F k ∨ (w.heap.size ≤ k ∧ k < W5.heap.size)) L.room (L.touch + 1) ((keepL L ((unusedL L).take j)).map m104 ++ [⟨nm, ver, dat, 0, L.touch + 1⟩]) (L.last.map l115) A4 n4 c4 A2 n2 c2 ∧ RStep w (W5.setCell ⟨g, 1, none⟩ (.slice A4 n4 c4)) F (fun k => F k ∨ (w.heap.size ≤ k ∧ k < W5.heap.size))) := Lib.hid ⟨HX.out.1, hsame _ HX.out.2, fun k hk => hk.elim .inl fun h => .inr h.1⟩
          have HB7 : Hid (RefAt B (W7.setCell ⟨g, 1, none⟩ (.slice B4 m4 d4)) g (fun k => F k ∨ (w.heap.size ≤ k ∧ k < W7.heap.size)) L.room (L.touch + 1) ((keepL L ((unusedL L).take j)).map m104 ++ [⟨nm, ver, dat, 0, L.touch + 1⟩]) (L.last.map l115) B4 m4 d4 A2 n2 c2 ∧ RStep w (W7.setCell ⟨g, 1, none⟩ (.slice B4 m4 d4)) F (fun k => F k ∨ (w.heap.size ≤ k ∧ k < W7.heap.size))) := Lib.hid ⟨HY.out.1, hsame _ HY.out.2, fun k hk => hk.elim .inl fun h => .inr h.1⟩
          have k0 : wc.cell? ⟨gz, 0, none⟩ = some (.string nm) := by rw [Lib.cell_of_heap HZ.out.1.blk]; rfl
          have k1 : wc.cell? ⟨gz, 1, none⟩ = some (.int .i64 ver) := by rw [Lib.cell_of_heap HZ.out.1.blk]; rfl
          have k2 : wc.cell? ⟨gz, 2, none⟩ = some (.slice Ad nd cd) := by rw [Lib.cell_of_heap HZ.out.1.blk]; rfl
          have k3 : wc.cell? ⟨gz, 3, none⟩ = some (.int .i64 0) := by rw [Lib.cell_of_heap HZ.out.1.blk]; rfl
          have k4 : wc.cell? ⟨gz, 4, none⟩ = some (.int .i64 (L.touch + 1)) := by rw [Lib.cell_of_heap HZ.out.1.blk]; rfl
          have e0 : W4.cell? ⟨gz, 0, none⟩ = some (.string nm) := by rw [Lib.cell_of_heap bk4]; rfl
          have e1' : W4.cell? ⟨gz, 1, none⟩ = some (.int .i64 ver) := by rw [Lib.cell_of_heap bk4]; rfl
          have e2' : W4.cell? ⟨gz, 2, none⟩ = some (.slice Ad nd cd) := by rw [Lib.cell_of_heap bk4]; rfl
          have e3' : W4.cell? ⟨gz, 3, none⟩ = some (.int .i64 0) := by rw [Lib.cell_of_heap bk4]; rfl
          have e4' : W4.cell? ⟨gz, 4, none⟩ = some (.int .i64 (L.touch + 1)) := by rw [Lib.cell_of_heap bk4]; rfl
          rw [← World.drew_is_drewN] at r4
          replace r6 : (Builtin.append_ #[99, 99] 99 #[.slice none 0 0, .slice Aj nj cj]).run Tryz.prog ((wc.alloc (modC nm ver Ad nd cd (L.touch + 1))).drew) = .ok (.slice B3 m3 d3) W6 := r6
          have hr7 : (wc.drewN 1).heap.size = wc.heap.size := rfl
          rw [hr7] at r7
          clear HX HY hsame bk4 bk6 hd1 hr7 hll
          go_region_law ((first
            | refine step_append_run (by rfl) _ _ 99 (by rfl) (.slice none 0 0) (.slice Aj nj cj) (by rfl) (by rfl) (.slice A3 n3 c3) W4 (by with_reducible exact r4) ?_
            | refine step_append_run (by rfl) _ _ 99 (by rfl) (.slice none 0 0) (.slice Aj nj cj) (by rfl) (by rfl) (.slice B3 m3 d3) W6 (by with_reducible exact r6) ?_
            | refine step_append_run (by rfl) _ _ 99 (by rfl) (.slice A3 n3 c3) (.slice (some ⟨W4.heap.size, 0, none⟩) 1 1) (by rfl) (by rfl) (.slice A4 n4 c4) W5 (by with_reducible exact r5) ?_
            | refine step_append_run (by rfl) _ _ 99 (by rfl) (.slice B3 m3 d3) (.slice (some ⟨wc.heap.size, 0, none⟩) 1 1) (by rfl) (by rfl) (.slice B4 m4 d4) W7 (by with_reducible exact r7) ?_
            | fail))
          all_goals go_wp2
          all_goals go_meet
          all_goals (case rel => first | exact ⟨A4, n4, c4, _, HA5⟩ | exact ⟨B4, m4, d4, _, HB7⟩)
        case rest =>
        obtain ⟨A4, n4, c4, F', HW⟩ := hcut
        have hwr : w.heap.size ≤ wc.heap.size := HW.out.2.1.2.2.2.1
        obtain ⟨x0, x1, x2, x3, fzd⟩ := HW.out.1.cells
        have fz2 := fzd 2
        clear fzd
        rcases HRR.out with ⟨rfl, hnone⟩ | ⟨i, x, rfl, hxi, hxe⟩
        · have HN := Lib.hid hnone
          clear hnone
          have hll2 : (L.last.map l115).length ≤ 65536 := by have := G.out.lastFew; simp; omega
          obtain ⟨A5, n5, c5, W7, r7, bk7, HX7⟩ := lay_name HW.out.1 hll2 nm ver
          have HF : Hid (RLayP B g F L nm ver dat w (.returned (.int .i64 0)) (W7.setCell ⟨g, 2, none⟩ (.slice A5 n5 c5))) := Lib.hid (.inr ⟨rfl, hnr.out, j, (fun k => F' k ∨ (wc.heap.size ≤ k ∧ k < W7.heap.size)), by rw [HD.out]; exact hpk.out, HW.out.2.trans ⟨HX7.out.2, fun k hk => hk.elim .inl fun h => .inr h.1⟩, _, _, _, _, _, _, by
            rw [last_new hv.1 HN.out]
            exact HX7.out.1⟩)
          have y2 : W7.cell? ⟨g, 2, none⟩ = some (.slice A2 n2 c2) := by rw [Lib.cell_of_heap bk7]; rfl
          have fy2 : W7.frozen? ⟨g, 2, none⟩ = false := Lib.frozen_of_heap bk7 _
          clear HX7 bk7 hll2
          go_wp2_with (at_builtin; refine wpList_append_run' rfl _ _ 100 rfl _ _ rfl rfl (.slice A5 n5 c5) W7 r7 ?_)
          go_ret
          exact HF.out
        · obtain ⟨hi2, gl, rfl, hFl, hgl, y0, y1, fzl, hset⟩ := HW.out.1.last hxi
          have fzl1 := fzl 1
          have HXI := Lib.hid (And.intro hxi hxe)
          have HS := Lib.hid hset
          clear hset fzl
          by_cases hlt : x.f1 < ver
          · have eL : decide (x.f1 < ver) = true := decide_eq_true hlt
            have HF : Hid (RLayP B g F L nm ver dat w (.returned (.int .i64 0)) (wc.setCell ⟨gl, i * 2 + 1, none⟩ (.int .i64 ver))) := Lib.hid (.inr ⟨rfl, hnr.out, j, F', by rw [HD.out]; exact hpk.out, HW.out.2.trans ⟨Same.set _ _ _ hFl, fun k hk => .inl hk⟩, _, _, _, _, _, _, by
              rw [last_old HB.out.2.2 HXI.out.1 HXI.out.2, show max x.f1 ver = ver from by omega]
              exact HS.out ver⟩)
            clear hxi hxe
            go_wp2
            go_ret
            exact HF.out
          · have eL : decide (x.f1 < ver) = false := decide_eq_false hlt
            have HF : Hid (RLayP B g F L nm ver dat w (.returned (.int .i64 0)) wc) := Lib.hid (.inr ⟨rfl, hnr.out, j, F', by rw [HD.out]; exact hpk.out, HW.out.2, _, _, _, _, _, _, by
              rw [last_old HB.out.2.2 HXI.out.1 HXI.out.2, show max x.f1 ver = x.f1 from by omega, set_self (by exact HXI.out.1)]
              exact HW.out.1⟩)
            clear hxi hxe
            go_wp2
            go_ret
            exact HF.out
      · have HC := Lib.hid hc
        have HNJ := Lib.hid hnj
        have HSS := Lib.hid hS
        have hcc : Hid (¬ (sizes (keepL L ((unusedL L).take j)) + (nb : Int) ≤ L.room ∧ ((keepL L ((unusedL L).take j)).length : Int) < 256)) := Lib.hid (by rw [HSS.out, ← HNJ.out]; exact HC.out)
        have HOL := Lib.hid (fun (q : Nat) => oldest_c (Kd.N_drewN HM.out.row q) hkl)
        have HKL := Lib.hid hkl
        have e3 : IntKind.i64.wrap (S + (nb : Int)) = S + (nb : Int) := Go.IntWalk.i64_in _ (by omega)
        clear hnj hS hks hc
        go_upto_region 5 with (fail)
        go_cut [53] from 39 to 53 (fun v53 wc => v53 = .bool true ∧ ∃ q, wc = wr.drewN q)
        case first =>
          by_cases h1 : L.room < S + (nb : Int)
          · have e1 : decide (L.room < S + (nb : Int)) = true := decide_eq_true h1
            go_wp2_with fail
            go_quiet ((go_at_call 70; exact Calls.quiet_of (HSZ.out _)))
            go_wp2
            go_meet
            case rel => exact ⟨rfl, _, rfl⟩
          · have e1 : decide (L.room < S + (nb : Int)) = false := decide_eq_false h1
            have e2 : decide ((256 : Int) ≤ (nj : Int)) = true := decide_eq_true (by have := HC.out; omega)
            go_wp2_with fail
            go_quiet ((go_at_call 70; exact Calls.quiet_of (HSZ.out _)))
            go_wp2
            go_meet
            case rel => exact ⟨rfl, _, rfl⟩
        case rest =>
        obtain ⟨rfl, q, rfl⟩ := hcut
        clear HSZ hkl
        go_wp2_with fail
        refine (HOL.out q).mono ?_
        rintro e w8 ⟨r8, rfl, hr8, a8, rfl⟩
        rcases oldest_next G.out HB.out.1 hr8 with ⟨rfl, hend⟩ | ⟨b, x, rfl, hxb, hxj⟩
        · have hpn : Hid (pickL L nb = none) := Lib.hid (HM.out.vj.fell hcc.out (Nat.le_antisymm HM.out.vj.le hend))
          have hbl : Hid (Below w.heap.size w (wr.drewN (q + a8))) := Lib.hid (below_drewN HM.out.below (q + a8))
          clear hr8 hend
          go_wp2
          go_ret
          exact .inl ⟨rfl, .inr (.inr (by rw [HD.out]; exact hpn.out)), hbl.out⟩
        · have hvn := Lib.hid (HM.out.vj.next HB.out.1 hcc.out hxj)
          have hkn := keep_next HB.out.1 hxj
          have hbl : Hid (Below w.heap.size w (wr.drewN (q + a8))) := Lib.hid (below_drewN HM.out.below (q + a8))
          have hrw : Hid (Kd.N k104 104 (wr.drewN (q + a8)) B (fun k => DS F g A2 k ∨ w.heap.size ≤ k) (.slice Aj nj cj) ((keepL L ((unusedL L).take j)).map m104)) := Lib.hid (Kd.N_drewN HM.out.row (q + a8))
          have hel : Hid ((keepL L ((unusedL L).take j)).eraseIdx b = keepL L ((unusedL L).take (j + 1))) := Lib.hid ((erase_blk (keep_nodup HB.out.1 _) hxb).trans hkn.2)
          have hbn : b < nj := by have := (List.getElem?_eq_some_iff.1 hxb).1; have := HNJ.out; omega
          have HBN := Lib.hid hbn
          clear hr8 hkn hxb hxj hbn
          go_wp2_with fail
          refine (without_c hrw.out HKL.out (by have := hbl.out.size; omega) b).mono ?_
          rintro e w9 ⟨A9, n9, c9, rfl, hN9, hb9⟩
          have hI : Hid (LayS B w w9 g F L A2 nb (j + 1) A9 n9 c9) := Lib.hid ⟨hbl.out.trans (hb9.mono hbl.out.size), by
            rw [hel.out] at hN9
            exact Kd.N_mono hN9 fun k hk => hk.elim id fun h => .inr (Nat.le_trans hbl.out.size h), hvn.out⟩
          have hme : Hid (n9 < nj) := Lib.hid (by
            have h1 := (Kd.N_reads' hN9).1
            have := HNJ.out
            have := HBN.out
            rw [List.length_map, List.length_eraseIdx_of_lt (by omega)] at h1
            omega)
          clear hN9 hb9
          go_wp2
          go_roundw
          case rel => exact ⟨j + 1, _, _, _, rfl, hI⟩
          case measure => exact hme.out
end Go.Proofs.YtancenklmfamnaaGreat.Sh
