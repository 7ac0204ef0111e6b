/- ShelfFresh: the book of lists that are written over; whole. -/
import Derived.Test.YtancenklmfamnaaGreatShFr2
set_option linter.unusedVariables false
set_option linter.unusedSimpArgs false
namespace Go.Proofs.YtancenklmfamnaaGreat.Sh
open Go.RowKit Go.Maps Go.Sort Go.Shelf
open Go.Proofs Go.MuLone
open Go.Proofs.YtancenklmfamnaaGreatW.PrintWords (Reps OwnRow Kd ReadsRow)
open PShelfPlays (S70 S104 S115 k70 k104 k115)

structure BK (B : Nat) (w : World) (gb : Nat) (xs ls : List Value) (v1 v2 : Value) (much : Int) : Prop where
  low : B ≤ gb
  blk : w.heap[gb]? = some (.cells #[v1, v2, .int .i64 much] 55 (0, 0))
  o1 : w.ownsRow B 25 1 v1 xs.length xs
  o2 : w.ownsRow B 40 1 v2 ls.length ls
  g1 : ∀ (i : Nat) (x : Value), xs[i]? = some x → ∃ n, n ≤ 3000000000000 ∧ w.ownsRow B 5 1 x n (bRow (i / 2) n)
  g2 : ∀ (i : Nat) (x : Value), ls[i]? = some x → ∃ n, n ≤ 3000000000000 ∧ w.ownsRow B 70 4 x n (hRow (i / 2) n)
/-- all that the book holds -/
def BF (gb : Nat) (xs ls : List Value) (v1 v2 : Value) (k : Nat) : Prop := k = gb ∨ v1.ownBlock = some k ∨ v2.ownBlock = some k ∨ (∃ x ∈ xs, x.ownBlock = some k) ∨ ∃ x ∈ ls, x.ownBlock = some k
theorem quiet_add {P : Program} {f : FuncId} {args : Array Value} {w : World} {a x : Nat} {v : Value} (h : Calls P f args (w.drewN (a + x)) fun e w' => e = .returned v ∧ ∃ m, w' = (w.drewN (a + x)).drewN m) : Calls P f args (w.drewN (a + x)) fun e w'' => e = .returned v ∧ ∃ n, w'' = w.drewN (a + n) :=
  h.mono fun _ _ ⟨he, m, hm⟩ => ⟨he, x + m, by rw [hm, World.drewN_drewN, Nat.add_assoc]⟩
theorem number_q (i j : Nat) (hi : i ≤ 1099511627776) (hj : j ≤ 4611686018427387904) (w : World) : Calls Tryz.prog 43 #[.int .i64 (i : Int), .int .i64 (j : Int)] w fun e w' => e = .returned (.int .u8 (nv (i / 2) j)) ∧ ∃ m, w' = w.drewN m :=
  (number_any i j hi hj w).mono fun _ _ ⟨he, hw⟩ => ⟨he, 0, hw⟩
theorem own_slice' {w : World} {B e sz n : Nat} {v : Value} {xs : List Value} (h : w.ownsRow B e sz v n xs) : ∃ A c, v = .slice A n c := by
  rcases h.2 with ⟨rfl, h0⟩ | ⟨g, cap, cur, rfl, _⟩
  · exact ⟨none, 0, by rw [h0]⟩
  · exact ⟨_, _, rfl⟩
set_option maxHeartbeats 4000000 in
set_option maxRecDepth 1000000 in
theorem whole_any {B gb : Nat} {xs ls : List Value} {v1 v2 : Value} {much : Int} {w : World} (hb : BK B w gb xs ls v1 v2 much) (h1 : xs.length ≤ 1099511627776) (h2 : ls.length ≤ 1099511627776) :
    Calls Tryz.prog 15 #[.pointer (some ⟨gb, 0, none⟩)] w fun e w' => e = .returned (.bool true) ∧ Below w.heap.size w w' := by
  obtain ⟨A1, c1, rfl⟩ := own_slice' hb.o1
  obtain ⟨A2, c2, rfl⟩ := own_slice' hb.o2
  have HB := Lib.hid hb
  clear hb
  go_enter Tryz.func15, Tryz.ntmps15
  go_wp2
  go_loopw [3] (fun v3 wr => ∃ i : Nat, i ≤ xs.length ∧ v3 = .int .i64 i ∧ Hid (Below w.heap.size w wr)) (fun v3 wr => xs.length - (intOf v3).toNat)
  case atStart => exact ⟨0, Nat.zero_le _, rfl, Lib.hid (Below.refl _ _)⟩
  case round =>
    obtain ⟨i, hi, rfl, HBL⟩ := hrel
    obtain ⟨wo, rfl⟩ : ∃ wo : World, wo = wr := ⟨_, rfl⟩
    have hgw := (HBL.out.block gb (at_lt HB.out.blk)).trans HB.out.blk
    have c0 : wo.cell? ⟨gb, 0, none⟩ = some (.slice A1 xs.length c1) := by rw [Lib.cell_of_heap hgw]; rfl
    have d0 : wo.cell? ⟨gb, 1, none⟩ = some (.slice A2 ls.length c2) := by rw [Lib.cell_of_heap hgw]; rfl
    clear hgw
    by_cases hlt : i < xs.length
    · obtain ⟨x, hx⟩ : ∃ x, xs[i]? = some x := ⟨xs[i], List.getElem?_eq_getElem hlt⟩
      obtain ⟨n, hn, hrow⟩ := HB.out.g1 i x hx
      obtain ⟨Ax, cx, rfl⟩ := own_slice' hrow
      obtain ⟨bk, rfl, hBk, hbl, hnc, hcell⟩ := own_cell HB.out.o1 (by omega)
      have HX := Lib.hid (hcell i _ hx)
      have HR := Lib.hid hrow
      clear hrow hcell hx d0
      go_wp2_with fail
      go_loopw [4] (fun v4 wj => ∃ j : Nat, j ≤ n ∧ v4 = .int .i64 j ∧ Hid (Below w.heap.size w wj)) (fun v4 wj => n - (intOf v4).toNat)
      case atStart => exact ⟨0, Nat.zero_le _, rfl, HBL⟩
      case round =>
        obtain ⟨j, hj, rfl, HBJ⟩ := hrel
        have hgj := (HBJ.out.block gb (at_lt HB.out.blk)).trans HB.out.blk
        have e0 : wr.cell? ⟨gb, 0, none⟩ = some (.slice (some ⟨bk, 0, none⟩) xs.length c1) := by rw [Lib.cell_of_heap hgj]; rfl
        have e1 : wr.cell? ⟨bk, i, none⟩ = some (.slice Ax n cx) := (HBJ.out.cell (p := ⟨bk, i, none⟩) hbl).trans HX.out
        clear hgj
        by_cases hjn : j < n
        · obtain ⟨bx, rfl, _, hbx, hxc, hcx⟩ := own_cell HR.out (by omega)
          have e2 : wr.cell? ⟨bx, j, none⟩ = some (.int .u8 (nv (i / 2) j)) := (HBJ.out.cell (p := ⟨bx, j, none⟩) hbx).trans (hcx j _ (bRow_at hjn))
          have HNB := Lib.hid (fun W => number_q i j (by omega) (by omega) W)
          have hne : (nv (i / 2) j != nv (i / 2) j) = false := by simp
          clear hcx
          go_wp2_with fail
          go_quiet ((go_at_call 43; exact Calls.quiet_of (HNB.out _)))
          go_wp2
          go_roundw
          case rel => exact ⟨j + 1, by omega, by go_num, Lib.hid (below_drewN HBJ.out _)⟩
          case measure => simp [intOf]; omega
        · go_wp2
          go_roundw
          case rel => exact ⟨i + 1, by omega, by go_num, HBJ⟩
          case measure => simp [intOf]; omega
    · go_wp2_with fail
      go_loopw [5] (fun v5 wr => ∃ i : Nat, i ≤ ls.length ∧ v5 = .int .i64 i ∧ Hid (Below w.heap.size w wr)) (fun v5 wr => ls.length - (intOf v5).toNat)
      case atStart => exact ⟨0, Nat.zero_le _, rfl, HBL⟩
      case round =>
        clear HBL d0 c0
        obtain ⟨i, hi, rfl, HBL⟩ := hrel
        obtain ⟨wo, rfl⟩ : ∃ wo : World, wo = wr := ⟨_, rfl⟩
        have hgw := (HBL.out.block gb (at_lt HB.out.blk)).trans HB.out.blk
        have d0 : wo.cell? ⟨gb, 1, none⟩ = some (.slice A2 ls.length c2) := by rw [Lib.cell_of_heap hgw]; rfl
        clear hgw
        by_cases hlt : i < ls.length
        · obtain ⟨x, hx⟩ : ∃ x, ls[i]? = some x := ⟨ls[i], List.getElem?_eq_getElem hlt⟩
          obtain ⟨n, hn, hrow⟩ := HB.out.g2 i x hx
          obtain ⟨Ax, cx, rfl⟩ := own_slice' hrow
          obtain ⟨bk, rfl, hBk, hbl, hnc, hcell⟩ := own_cell HB.out.o2 (by omega)
          have HX := Lib.hid (hcell i _ hx)
          have HR := Lib.hid hrow
          clear hrow hcell hx
          go_wp2_with fail
          go_loopw [6] (fun v6 wj => ∃ j : Nat, j ≤ n ∧ v6 = .int .i64 j ∧ Hid (Below w.heap.size w wj)) (fun v6 wj => n - (intOf v6).toNat)
          case atStart => exact ⟨0, Nat.zero_le _, rfl, HBL⟩
          case round =>
            obtain ⟨j, hj, rfl, HBJ⟩ := hrel
            have hgj := (HBJ.out.block gb (at_lt HB.out.blk)).trans HB.out.blk
            have e0 : wr.cell? ⟨gb, 1, none⟩ = some (.slice (some ⟨bk, 0, none⟩) ls.length c2) := by rw [Lib.cell_of_heap hgj]; rfl
            have e1 : wr.cell? ⟨bk, i, none⟩ = some (.slice Ax n cx) := (HBJ.out.cell (p := ⟨bk, i, none⟩) hbl).trans HX.out
            clear hgj
            by_cases hjn : j < n
            · obtain ⟨bx, rfl, _, hbx, hxc, hcx⟩ := own_cell HR.out (by omega)
              have hat : ∀ r, r < 4 → wr.cell? ⟨bx, j * 4 + r, none⟩ = (hCells (i / 2))[r]? := fun r hr => by
                obtain ⟨u, hu⟩ : ∃ u, (hCells (i / 2))[r]? = some u := ⟨_, List.getElem?_eq_getElem (by simpa [hCells] using hr)⟩
                rw [hu]
                exact (HBJ.out.cell (p := ⟨bx, j * 4 + r, none⟩) hbx).trans (hcx _ _ ((hRow_at (i / 2) hjn hr).trans hu))
              have f0 : wr.cell? ⟨bx, j * 4, none⟩ = some (.string ByteArray.empty) := hat 0 (by decide)
              have f1 : wr.cell? ⟨bx, j * 4 + 1, none⟩ = some (.int .i64 0) := hat 1 (by decide)
              have f2 : wr.cell? ⟨bx, j * 4 + 2, none⟩ = some (.int .i64 0) := hat 2 (by decide)
              have f3 : wr.cell? ⟨bx, j * 4 + 3, none⟩ = some (.int .i64 (-5 - ((i / 2 : Nat) : Int))) := hat 3 (by decide)
              have hdv : ((i / 2 : Nat) : Int) = (i : Int) / 2 := by omega
              rw [hdv] at f3
              clear hcx hat
              go_wp2
              go_roundw
              case rel => exact ⟨j + 1, by omega, by go_num, HBJ⟩
              case measure => simp [intOf]; omega
            · go_wp2
              go_roundw
              case rel => exact ⟨i + 1, by omega, by go_num, HBJ⟩
              case measure => simp [intOf]; omega
        · go_wp2
          go_ret
          exact ⟨rfl, HBL.out⟩
end Go.Proofs.YtancenklmfamnaaGreat.Sh
