/- shell.Quote: what it computes, walked. -/
import Derived.Test.YtfdioplenkcahaaShQuo
set_option linter.unusedVariables false
set_option linter.unusedSimpArgs false
namespace Go.Proofs.Ytfdioplenkcahaa.Hand
open Go.RowKit Go.Proofs.YtfdioplenkcahaaW.PrintWords Go.Proofs.YtfdioplenkcahaaW.PrintLast Go.Proofs.YtfdioplenkcahaaW.PrintMore

def okc (c : Int) : Bool := decide (33 ≤ c) && (decide (c ≤ 126) && !decide (c = 34))
/-- bare so far -/
def bareTo (s : ByteArray) (b : Bool) : Nat → Bool
  | 0 => b
  | n + 1 => bareTo s b n && okc (bt s n)
def bare0 (s : ByteArray) : Bool := decide (s.size ≠ 0) && !decide (bt s 0 = 35)
def isBare (s : ByteArray) : Bool := bareTo s (bare0 s) s.size
def u8 (c : Int) : UInt8 := c.toNat.toUInt8
/-- how a byte is written -/
def qb (c : Int) : List UInt8 :=
  if c = 34 ∨ c = 92 then [92, u8 c] else if c = 10 then [92, 110] else if c = 9 then [92, 116]
  else if c < 32 ∨ 126 < c then [92, 120, u8 (bt digs (c / 16)), u8 (bt digs (c % 16))] else [u8 c]
def qTo (s : ByteArray) : Nat → List UInt8
  | 0 => [34]
  | n + 1 => qTo s n ++ qb (bt s n)
def quoteB (s : ByteArray) : ByteArray := if isBare s = true then s else ⟨(qTo s s.size ++ [34]).toArray⟩
def shell_Quote.f (a0 : ByteArray) : Option ByteArray := if a0.size ≤ 1099511627776 then some (quoteB a0) else none

theorem isB {B b : Nat} {bs : List Value} {w : World} (h : Lib.BuilderAtF 47 5 B b (.pointer (some ⟨b, 0, none⟩)) bs w) : Lib.IsBuilderF 47 5 B b bs w := Or.inr h
theorem ws2 (B b : Nat) (bs : List Value) (x y : UInt8) (w : World) (h : Lib.IsBuilderF 47 5 B b bs w) (hlen : bs.length + 2 ≤ 140737488355328) (hBw : B ≤ w.heap.size) :
    Calls Try.prog 20 #[.pointer (some ⟨b, 0, none⟩), .string ⟨#[x, y]⟩] w fun e w' => e = .returned (.tuple #[.int .i64 2, .nilIface]) ∧ (Lib.BuilderAtF 47 5 B b (.pointer (some ⟨b, 0, none⟩)) (bs ++ [.int .u8 x.toNat, .int .u8 y.toNat]) w' ∧ Below B w w') :=
  (bldWriteString B b bs ⟨#[x, y]⟩ w h hlen hBw).mono fun _ _ ⟨he, h1, b1, _⟩ => ⟨he, h1, b1⟩
theorem ret_str {a b : ByteArray} (h : a = b) : Ending.returned (.string a) = Ending.returned (.string b) := by rw [h]
theorem digs_at (c : Int) (h0 : 0 ≤ c) (h1 : c < 16) : ∀ h : c.toNat < digs.size, ((digs[c.toNat]'h).toNat : Int) = bt digs c := bt_at digs c
theorem qb_len (c : Int) : (qb c).length ≤ 4 := by
  unfold qb
  split
  · simp
  · split
    · simp
    · split
      · simp
      · split <;> simp
theorem qTo_len (s : ByteArray) (n : Nat) : (qTo s n).length ≤ 1 + 4 * n := by
  induction n with
  | zero => simp [qTo]
  | succ n ih => have := qb_len (bt s n); simp only [qTo, List.length_append]; omega
theorem u8_cell (c : Int) (h0 : 0 ≤ c) (h1 : c ≤ 255) : [Value.int .u8 c] = Lib.byteCells [u8 c] := by
  simp [Lib.byteCells, u8]
  omega
set_option maxHeartbeats 4000000 in
set_option maxRecDepth 1000000 in
theorem shell_Quote.calls (a0 : ByteArray) (r : ByteArray) (w : World) (h : shell_Quote.f a0 = some r) :
    Calls Try.prog 10 #[.string a0] w fun e w' => e = .returned (.string r) ∧ Below w.heap.size w w' := by
  unfold shell_Quote.f at h
  split at h
  case isFalse => cases h
  case isTrue hs =>
  obtain rfl := Option.some.inj h
  clear h
  go_enter Try.func10, Try.ntmps10
  go_upto_region 1 with (fail)
  go_cut [3] (fun v wx => v = .bool (bare0 a0) ∧ wx = w)
  case first =>
    by_cases h0 : a0.size = 0
    · have e0 : a0.toList = ([] : List UInt8) := (toList_nil a0).2 h0
      have c1 : (a0.toList == ([] : List UInt8)) = true := beq_iff_eq.mpr e0
      have c2 : (a0.toList != ([] : List UInt8)) = false := bne_eq_false_iff_eq.mpr e0
      have hb0 : bare0 a0 = false := by simp [bare0, h0]
      clear e0
      go_wp2
      go_meet
      rw [hb0]
      exact ⟨rfl, rfl⟩
    · have e0 : ¬ a0.toList = ([] : List UInt8) := fun e => h0 ((toList_nil a0).1 e)
      have c1 : (a0.toList == ([] : List UInt8)) = false := beq_eq_false_iff_ne.mpr e0
      have c2 : (a0.toList != ([] : List UInt8)) = true := bne_iff_ne.mpr e0
      have hp : 0 < a0.size := by omega
      have hx : ∀ h : 0 < a0.size, ((a0[0]'h).toNat : Int) = bt a0 0 := bt_at a0 0
      have hb0 : bare0 a0 = (bt a0 0 != 35) := by simp [bare0, h0, bne]; rfl
      clear e0 h0
      go_wp2
      go_meet
      rw [hb0]
      exact ⟨rfl, rfl⟩
  case rest =>
    obtain ⟨rfl, rfl⟩ := hcut
    go_wp2
    go_loop [3, 17] (fun b v => ∃ i : Nat, i ≤ a0.size ∧ v = .int .i64 i ∧ b = .bool (bareTo a0 (bare0 a0) i)) (fun _ v => a0.size - (intOf v).toNat)
    case atStart => exact ⟨0, Nat.zero_le _, rfl, rfl⟩
    case round =>
      obtain ⟨i, hi, rfl, rfl⟩ := hrel
      by_cases hlt : i < a0.size
      · have hx : ∀ h : i < a0.size, ((a0[i]'h).toNat : Int) = bt a0 i := bt_at a0 i
        have HN : Hid (bareTo a0 (bare0 a0) (i + 1) = (bareTo a0 (bare0 a0) i && okc (bt a0 i))) := Lib.hid rfl
        generalize bareTo a0 (bare0 a0) i = B at *
        generalize hc : bt a0 i = c at *
        clear hc
        have key : ∀ X : Bool, X = (B && okc c) → X = bareTo a0 (bare0 a0) (i + 1) := fun X h => by rw [h, HN.out]
        have KEY := Lib.hid key
        clear key
        cases B
        · go_wp2
          go_round
          case rel => exact ⟨i + 1, by omega, by go_num, by rw [← KEY.out false rfl]⟩
          case measure => simp [intOf]; omega
        · by_cases h33 : 33 ≤ c
          · by_cases h126 : c ≤ 126
            · by_cases h34 : c = 34
              · have c1 : (c != 34) = false := bne_eq_false_iff_eq.mpr h34
                have hv : false = (true && okc c) := by simp [okc, h34]
                have HV := Lib.hid (KEY.out false hv)
                clear h34 hv KEY
                go_wp2
                go_round
                case rel => exact ⟨i + 1, by omega, by go_num, by rw [← HV.out]⟩
                case measure => simp [intOf]; omega
              · have c1 : (c != 34) = true := bne_iff_ne.mpr h34
                have hv : true = (true && okc c) := by simp [okc, h34, h33, h126]
                have HV := Lib.hid (KEY.out true hv)
                clear h34 hv KEY
                go_wp2
                go_round
                case rel => exact ⟨i + 1, by omega, by go_num, by rw [← HV.out]⟩
                case measure => simp [intOf]; omega
            · have hv : false = (true && okc c) := by simp [okc, h126]
              have HV := Lib.hid (KEY.out false hv)
              clear hv KEY
              go_wp2
              go_round
              case rel => exact ⟨i + 1, by omega, by go_num, by rw [← HV.out]⟩
              case measure => simp [intOf]; omega
          · have hv : false = (true && okc c) := by simp [okc, h33]
            have HV := Lib.hid (KEY.out false hv)
            clear hv KEY
            go_wp2
            go_round
            case rel => exact ⟨i + 1, by omega, by go_num, by rw [← HV.out]⟩
            case measure => simp [intOf]; omega
      · obtain rfl : i = a0.size := by omega
        have HB : Hid (isBare a0 = bareTo a0 (bare0 a0) a0.size) := Lib.hid rfl
        generalize bareTo a0 (bare0 a0) a0.size = B at *
        cases B
        · have HF : Hid (quoteB a0 = ⟨(qTo a0 a0.size ++ [34]).toArray⟩) := Lib.hid (by rw [quoteB, HB.out, if_neg (by decide)])
          clear HB
          go_wp2_with (go_at_call 19; ((with_reducible refine (bldWriteByte _ wc.heap.size [] 34 _ (Lib.IsBuilderF.of (Lib.fresh_isBuilder 47 5 wc)) (by simp) (by simp)).mono ?_); rintro e W1 ⟨rfl, h1, b1, k1⟩; have bw : Below wc.heap.size wc W1 := ((Below.refl _ wc).alloc (Nat.le_refl _) _).trans b1; clear b1 k1))
          go_loopw [45] (fun v wr => ∃ i : Nat, i ≤ a0.size ∧ v = .int .i64 i ∧ Lib.IsBuilderF 47 5 wc.heap.size wc.heap.size (Lib.byteCells (qTo a0 i)) wr ∧ Below wc.heap.size wc wr) (fun v wr => a0.size - (intOf v).toNat)
          case atStart => exact ⟨0, Nat.zero_le _, rfl, Or.inr h1, bw⟩
          case round =>
            clear h1 bw
            obtain ⟨i, hi, rfl, hI, bw⟩ := hrel
            have hsz := bw.size
            by_cases hlt : i < a0.size
            · have hx : ∀ h : i < a0.size, ((a0[i]'h).toNat : Int) = bt a0 i := bt_at a0 i
              have HQ : Hid (Lib.byteCells (qTo a0 (i + 1)) = Lib.byteCells (qTo a0 i) ++ Lib.byteCells (qb (bt a0 i))) := Lib.hid (by rw [qTo, Lib.byteCells_append])
              have hl := qTo_len a0 i
              have hcr := bt_range a0 i
              generalize hc : bt a0 i = c at *
              clear hc
              generalize hq : qTo a0 i = acc at *
              clear hq
              have hbl : (Lib.byteCells acc).length = acc.length := Lib.byteCells_length acc
              have bw0 := bw
              by_cases h34 : c = 34
              · have c34 : (c == 34) = true := beq_iff_eq.mpr (by omega)
                have HC : Hid (Lib.byteCells (qb c) = [Value.int .u8 92] ++ [Value.int .u8 c]) := Lib.hid (by rw [h34]; rfl)
                clear h34
                go_wp2_with (go_at_call 19; ((with_reducible refine (bldWriteByte wc.heap.size wc.heap.size _ 92 _ hI (by simp; omega) bw0.size).mono ?_); rintro e W1 ⟨rfl, h1, b1, k1⟩))
                have bw1 := bw0.trans b1
                clear b1 k1
                go_wp2_with (go_at_call 19; ((with_reducible refine (bldWriteByte wc.heap.size wc.heap.size _ c _ (isB h1) (by simp; omega) bw1.size).mono ?_); rintro e W2 ⟨rfl, h2, b2, k2⟩))
                have bw2 := bw1.trans b2
                clear b2 k2
                go_roundw
                case rel => exact ⟨i + 1, by omega, by go_num, Or.inr (by rw [HQ.out, HC.out]; first | exact h2 | simpa using h2), bw2⟩
                case measure => simp [intOf]; omega
              · by_cases h92 : c = 92
                · have c34 : (c == 34) = false := beq_eq_false_iff_ne.mpr (by omega)
                  have c92 : (c == 92) = true := beq_iff_eq.mpr (by omega)
                  have HC : Hid (Lib.byteCells (qb c) = [Value.int .u8 92] ++ [Value.int .u8 c]) := Lib.hid (by rw [h92]; rfl)
                  clear h34 h92
                  go_wp2_with (go_at_call 19; ((with_reducible refine (bldWriteByte wc.heap.size wc.heap.size _ 92 _ hI (by simp; omega) bw0.size).mono ?_); rintro e W1 ⟨rfl, h1, b1, k1⟩))
                  have bw1 := bw0.trans b1
                  clear b1 k1
                  go_wp2_with (go_at_call 19; ((with_reducible refine (bldWriteByte wc.heap.size wc.heap.size _ c _ (isB h1) (by simp; omega) bw1.size).mono ?_); rintro e W2 ⟨rfl, h2, b2, k2⟩))
                  have bw2 := bw1.trans b2
                  clear b2 k2
                  go_roundw
                  case rel => exact ⟨i + 1, by omega, by go_num, Or.inr (by rw [HQ.out, HC.out]; first | exact h2 | simpa using h2), bw2⟩
                  case measure => simp [intOf]; omega
                · by_cases h10 : c = 10
                  · have c34 : (c == 34) = false := beq_eq_false_iff_ne.mpr (by omega)
                    have c92 : (c == 92) = false := beq_eq_false_iff_ne.mpr (by omega)
                    have c10 : (c == 10) = true := beq_iff_eq.mpr (by omega)
                    have HC : Hid (Lib.byteCells (qb c) = [Value.int .u8 92, Value.int .u8 110]) := Lib.hid (by rw [h10]; rfl)
                    clear h34 h92 h10
                    go_wp2_with (go_at_call 20; ((with_reducible refine (ws2 wc.heap.size wc.heap.size _ 92 110 _ hI (by omega) bw0.size).mono ?_); rintro e W1 ⟨rfl, h1, b1⟩))
                    have bw1 := bw0.trans b1
                    clear b1
                    go_roundw
                    case rel => exact ⟨i + 1, by omega, by go_num, Or.inr (by rw [HQ.out, HC.out]; first | exact h1 | simpa using h1), bw1⟩
                    case measure => simp [intOf]; omega
                  · by_cases h9 : c = 9
                    · have c34 : (c == 34) = false := beq_eq_false_iff_ne.mpr (by omega)
                      have c92 : (c == 92) = false := beq_eq_false_iff_ne.mpr (by omega)
                      have c10 : (c == 10) = false := beq_eq_false_iff_ne.mpr (by omega)
                      have c9 : (c == 9) = true := beq_iff_eq.mpr (by omega)
                      have HC : Hid (Lib.byteCells (qb c) = [Value.int .u8 92, Value.int .u8 116]) := Lib.hid (by rw [h9]; rfl)
                      clear h34 h92 h10 h9
                      go_wp2_with (go_at_call 20; ((with_reducible refine (ws2 wc.heap.size wc.heap.size _ 92 116 _ hI (by omega) bw0.size).mono ?_); rintro e W1 ⟨rfl, h1, b1⟩))
                      have bw1 := bw0.trans b1
                      clear b1
                      go_roundw
                      case rel => exact ⟨i + 1, by omega, by go_num, Or.inr (by rw [HQ.out, HC.out]; first | exact h1 | simpa using h1), bw1⟩
                      case measure => simp [intOf]; omega
                    · by_cases h32 : c < 32
                      · have c34 : (c == 34) = false := beq_eq_false_iff_ne.mpr (by omega)
                        have c92 : (c == 92) = false := beq_eq_false_iff_ne.mpr (by omega)
                        have c10 : (c == 10) = false := beq_eq_false_iff_ne.mpr (by omega)
                        have c9 : (c == 9) = false := beq_eq_false_iff_ne.mpr (by omega)
                        have hd1 := bt_range digs (c / 16)
                        have hd2 := bt_range digs (c % 16)
                        have p1 : (c / 16).toNat < digs.size := by show _ < 16; omega
                        have p2 : (c % 16).toNat < digs.size := by show _ < 16; omega
                        have hx1 := digs_at (c / 16) (by omega) (by omega) p1
                        have hx2 := digs_at (c % 16) (by omega) (by omega) p2
                        have HC : Hid (Lib.byteCells (qb c) = [Value.int .u8 92, Value.int .u8 120] ++ [Value.int .u8 ((digs[(c / 16).toNat]'p1).toNat : Int)] ++ [Value.int .u8 ((digs[(c % 16).toNat]'p2).toNat : Int)]) := Lib.hid (by rw [hx1, hx2, u8_cell _ hd1.1 hd1.2, u8_cell _ hd2.1 hd2.2]; simp only [qb, if_neg h9, if_neg h10, if_neg (show ¬ (c = 34 ∨ c = 92) by omega), if_pos (show c < 32 ∨ 126 < c by omega)]; rfl)
                        clear h34 h92 h10 h9 hd1 hd2 hx1 hx2
                        go_wp2_with (go_at_call 20; ((with_reducible refine (ws2 wc.heap.size wc.heap.size _ 92 120 _ hI (by omega) bw0.size).mono ?_); rintro e W1 ⟨rfl, h1, b1⟩))
                        have bw1 := bw0.trans b1
                        clear b1
                        go_wp2_with (fail)
                        go_wp2_with (go_at_call 19; ((with_reducible refine (bldWriteByte wc.heap.size wc.heap.size _ _ _ (isB h1) (by simp; omega) bw1.size).mono ?_); rintro e W2 ⟨rfl, h2, b2, k2⟩))
                        have bw2 := bw1.trans b2
                        clear b2 k2
                        go_wp2_with (go_at_call 19; ((with_reducible refine (bldWriteByte wc.heap.size wc.heap.size _ _ _ (isB h2) (by simp; omega) bw2.size).mono ?_); rintro e W3 ⟨rfl, h3, b3, k3⟩))
                        have bw3 := bw2.trans b3
                        clear b3 k3
                        go_roundw
                        case rel => exact ⟨i + 1, by omega, by go_num, Or.inr (by rw [HQ.out, HC.out]; rw [← List.append_assoc, ← List.append_assoc]; exact h3), bw3⟩
                        case measure => simp [intOf]; omega
                      · by_cases h126 : 126 < c
                        · have c34 : (c == 34) = false := beq_eq_false_iff_ne.mpr (by omega)
                          have c92 : (c == 92) = false := beq_eq_false_iff_ne.mpr (by omega)
                          have c10 : (c == 10) = false := beq_eq_false_iff_ne.mpr (by omega)
                          have c9 : (c == 9) = false := beq_eq_false_iff_ne.mpr (by omega)
                          have hd1 := bt_range digs (c / 16)
                          have hd2 := bt_range digs (c % 16)
                          have p1 : (c / 16).toNat < digs.size := by show _ < 16; omega
                          have p2 : (c % 16).toNat < digs.size := by show _ < 16; omega
                          have hx1 := digs_at (c / 16) (by omega) (by omega) p1
                          have hx2 := digs_at (c % 16) (by omega) (by omega) p2
                          have HC : Hid (Lib.byteCells (qb c) = [Value.int .u8 92, Value.int .u8 120] ++ [Value.int .u8 ((digs[(c / 16).toNat]'p1).toNat : Int)] ++ [Value.int .u8 ((digs[(c % 16).toNat]'p2).toNat : Int)]) := Lib.hid (by rw [hx1, hx2, u8_cell _ hd1.1 hd1.2, u8_cell _ hd2.1 hd2.2]; simp only [qb, if_neg h9, if_neg h10, if_neg (show ¬ (c = 34 ∨ c = 92) by omega), if_pos (show c < 32 ∨ 126 < c by omega)]; rfl)
                          clear h34 h92 h10 h9 hd1 hd2 hx1 hx2
                          go_wp2_with (go_at_call 20; ((with_reducible refine (ws2 wc.heap.size wc.heap.size _ 92 120 _ hI (by omega) bw0.size).mono ?_); rintro e W1 ⟨rfl, h1, b1⟩))
                          have bw1 := bw0.trans b1
                          clear b1
                          go_wp2_with (fail)
                          go_wp2_with (go_at_call 19; ((with_reducible refine (bldWriteByte wc.heap.size wc.heap.size _ _ _ (isB h1) (by simp; omega) bw1.size).mono ?_); rintro e W2 ⟨rfl, h2, b2, k2⟩))
                          have bw2 := bw1.trans b2
                          clear b2 k2
                          go_wp2_with (go_at_call 19; ((with_reducible refine (bldWriteByte wc.heap.size wc.heap.size _ _ _ (isB h2) (by simp; omega) bw2.size).mono ?_); rintro e W3 ⟨rfl, h3, b3, k3⟩))
                          have bw3 := bw2.trans b3
                          clear b3 k3
                          go_roundw
                          case rel => exact ⟨i + 1, by omega, by go_num, Or.inr (by rw [HQ.out, HC.out]; rw [← List.append_assoc, ← List.append_assoc]; exact h3), bw3⟩
                          case measure => simp [intOf]; omega
                        · have c34 : (c == 34) = false := beq_eq_false_iff_ne.mpr (by omega)
                          have c92 : (c == 92) = false := beq_eq_false_iff_ne.mpr (by omega)
                          have c10 : (c == 10) = false := beq_eq_false_iff_ne.mpr (by omega)
                          have c9 : (c == 9) = false := beq_eq_false_iff_ne.mpr (by omega)
                          have HC : Hid (Lib.byteCells (qb c) = [Value.int .u8 c]) := Lib.hid (by rw [u8_cell c hcr.1 hcr.2]; simp only [qb, if_neg h9, if_neg h10, if_neg (show ¬ (c = 34 ∨ c = 92) by omega), if_neg (show ¬ (c < 32 ∨ 126 < c) by omega)])
                          clear h34 h92 h10 h9
                          go_wp2_with (go_at_call 19; ((with_reducible refine (bldWriteByte wc.heap.size wc.heap.size _ c _ hI (by simp; omega) bw0.size).mono ?_); rintro e W1 ⟨rfl, h1, b1, k1⟩))
                          have bw1 := bw0.trans b1
                          clear b1 k1
                          go_roundw
                          case rel => exact ⟨i + 1, by omega, by go_num, Or.inr (by rw [HQ.out, HC.out]; first | exact h1 | simpa using h1), bw1⟩
                          case measure => simp [intOf]; omega
            · obtain rfl : i = a0.size := by omega
              have hbl := Lib.byteCells_length (qTo a0 a0.size)
              have hl := qTo_len a0 a0.size
              go_wp2_with (go_at_call 19; refine (bldWriteByte _ wc.heap.size _ 34 _ hI (by omega) hsz).mono ?_)
              rintro e W2 ⟨rfl, h2, b2, k2⟩
              go_wp2_with (go_at_call 21; refine (Try.Builder_String_any_k wc.heap.size wc.heap.size (qTo a0 a0.size ++ [34]) _ ?hb (bw.trans b2).size).mono ?_)
              case hb =>
                rw [Lib.byteCells_append]
                exact Or.inr h2
              rintro e W3 ⟨rfl, h3, b3, k3⟩
              go_wp2
              go_ret
              exact ⟨ret_str HF.out.symm, (bw.trans b2).trans b3⟩
        · go_wp2
          go_ret
          exact ⟨ret_str (if_pos HB.out).symm, Below.refl _ _⟩
end Go.Proofs.Ytfdioplenkcahaa.Hand
