/- shell.quoted: what it computes, walked. -/
import Derived.Test.YtfdioplenkcahaaShEsc
import Derived.Deep.RegionWith
import Derived.Lib.Hide
set_option linter.unusedVariables false
set_option linter.unusedSimpArgs false
namespace Go.Proofs.Ytfdioplenkcahaa.Hand
open Go.RowKit Go.Proofs.YtfdioplenkcahaaW.PrintWords Go.Proofs.YtfdioplenkcahaaW.PrintLast Go.Proofs.YtfdioplenkcahaaW.PrintMore

/-- Bytes out of numbers. -/
def bts (l : List Int) : List UInt8 := l.map fun c => c.toNat.toUInt8
/-- A word behind its opening quote, from place i on: what it holds, where it ends, may it stand so. -/
def quo (s : ByteArray) : Nat → Nat → List UInt8 → ByteArray × Int × Bool
  | 0, _, _ => (⟨#[]⟩, 0, false)
  | n + 1, i, acc =>
    if i < s.size then
      if bt s i = 34 then (⟨acc.toArray⟩, (i : Int) + 1, decide (i + 1 = s.size ∨ bt s (i + 1 : Nat) = 32))
      else if bt s i = 92 then
        (if (esc (s.extract (i + 1) s.size)).2 = 0 then (⟨#[]⟩, 0, false) else quo s n (i + 1 + (esc (s.extract (i + 1) s.size)).2.toNat) (acc ++ [(esc (s.extract (i + 1) s.size)).1.toNat.toUInt8]))
      else quo s n (i + 1) (acc ++ [(bt s i).toNat.toUInt8])
    else (⟨#[]⟩, 0, false)
def shell_quoted.f (a0 : ByteArray) (a1 : Int) : Option (ByteArray × Int × Bool) :=
  if 0 ≤ a1 ∧ a0.size ≤ 1099511627776 then some (quo a0 (a0.size - a1.toNat + 1) a1.toNat []) else none

theorem esc_range (s : ByteArray) : 0 ≤ (esc s).1 ∧ (esc s).1 ≤ 255 ∧ 0 ≤ (esc s).2 ∧ (esc s).2 ≤ 3 ∧ (esc s).2 ≤ s.size := by
  have b := bt_range s 0
  have r1 := ix_range (bt s 1)
  have r2 := ix_range (bt s 2)
  unfold esc
  split
  · simp
  · split
    · simp; omega
    · split
      · simp; omega
      · split
        · simp; omega
        · split
          · simp; omega
          · simp
theorem esc_byte (s : ByteArray) : [Value.int .u8 (esc s).1] = Lib.byteCells [(esc s).1.toNat.toUInt8] := by
  have := esc_range s
  simp [Lib.byteCells]
  omega
theorem bt_byte (s : ByteArray) (i : Int) : [Value.int .u8 (bt s i)] = Lib.byteCells [(bt s i).toNat.toUInt8] := by
  have := bt_range s i
  simp [Lib.byteCells]
  omega

theorem escaped_of (s : ByteArray) (E : Int × Int) (h : esc s = E) (w : World) :
    Calls Try.prog 27 #[.string s] w fun e w' => e = .returned (.tuple #[.int .u8 E.1, .int .i64 E.2]) ∧ Drawn0 w w' := by
  subst h
  exact escaped_any s w

set_option maxHeartbeats 4000000 in
set_option maxRecDepth 1000000 in
theorem shell_quoted.calls (a0 : ByteArray) (a1 : Int) (r1 : ByteArray) (r2 : Int) (r3 : Bool) (w : World) (h : shell_quoted.f a0 a1 = some (r1, r2, r3)) :
    Calls Try.prog 17 #[.string a0, .int .i64 a1] w fun e w' => e = .returned (.tuple #[.string r1, .int .i64 r2, .bool r3]) ∧ Below w.heap.size w w' := by
  unfold shell_quoted.f at h
  split at h
  case isFalse => cases h
  case isTrue hc =>
  obtain ⟨h0, hs⟩ := hc
  obtain ⟨i0, rfl⟩ : ∃ i0 : Nat, a1 = i0 := ⟨a1.toNat, by omega⟩
  have H := Lib.hid (Option.some.inj h)
  clear h
  go_enter Try.func17, Try.ntmps17
  go_wp2
  go_loopw [1] (fun v wr => ∃ (i n : Nat) (acc : List UInt8), v = .int .i64 i ∧ Lib.IsBuilderF 47 5 w.heap.size w.heap.size (Lib.byteCells acc) wr ∧ Below w.heap.size w wr ∧ Hid (quo a0 n i acc = (r1, r2, r3)) ∧ a0.size < i + n ∧ acc.length ≤ i) (fun v wr => a0.size - (intOf v).toNat)
  case atStart =>
    exact ⟨i0, a0.size - i0 + 1, [], rfl, Lib.IsBuilderF.of (Lib.fresh_isBuilder 47 5 w), (Below.refl _ w).alloc (Nat.le_refl _) _, Lib.hid (by simpa using H.out), by omega, by simp⟩
  case round =>
    obtain ⟨i, n, acc, rfl, hI, hbw, HQ, hn, hl⟩ := hrel
    clear H
    have hsz : w.heap.size ≤ wr.heap.size := hbw.size
    by_cases hp : i < a0.size
    · obtain ⟨n, rfl⟩ : ∃ m, n = m + 1 := ⟨n - 1, by omega⟩
      have hb : ((a0[i]'hp).toNat : Int) = bt a0 i := bt_at a0 i hp
      by_cases h34 : bt a0 i = 34
      · have c34 : ((bt a0 i) == 34) = true := beq_iff_eq.mpr h34
        have HQ2 := HQ.out
        simp only [quo, if_pos hp, if_pos h34, Prod.mk.injEq] at HQ2
        obtain ⟨rfl, rfl, HQ3⟩ := HQ2
        clear HQ
        by_cases he : i + 1 = a0.size
        · have d1 : (((i : Int) + 1) == (a0.size : Int)) = true := beq_iff_eq.mpr (by omega)
          have d2 : ((i + 1) == a0.size) = true := beq_iff_eq.mpr he
          have HX : Hid (r3 = true) := Lib.hid (by rw [← HQ3]; simp [he])
          clear HQ3 h34 he
          go_wp2_with (fail)
          first | go_region_with (go_at_call 21; refine (Try.Builder_String_any_k w.heap.size w.heap.size acc wr.drew hI hsz).mono ?_; rintro e W1 ⟨rfl, _, b1, _⟩) | fail
          all_goals
            go_wp2
            go_ret3
            rw [HX.out]
            exact ⟨rfl, hbw.drew.trans b1⟩
        · have d1 : (((i : Int) + 1) == (a0.size : Int)) = false := beq_eq_false_iff_ne.mpr (by omega)
          have d2 : ((i + 1) == a0.size) = false := beq_eq_false_iff_ne.mpr he
          have hb2 : ((a0[i + 1]'(by omega)).toNat : Int) = bt a0 (i + 1 : Nat) := bt_at a0 (i + 1 : Nat) (by omega)
          have hlt : i + 1 < a0.size := by omega
          have HX : Hid (r3 = (bt a0 (i + 1 : Nat) == 32)) := Lib.hid (by rw [← HQ3]; simp [he]; rfl)
          clear HQ3 h34
          go_wp2_with (fail)
          first | go_region_with (go_at_call 21; refine (Try.Builder_String_any_k w.heap.size w.heap.size acc wr.drew hI hsz).mono ?_; rintro e W1 ⟨rfl, _, b1, _⟩) | fail
          all_goals
            go_wp2
            go_ret3
            rw [HX.out]
            exact ⟨rfl, hbw.drew.trans b1⟩
      · by_cases h92 : bt a0 i = 92
        · have c34 : ((bt a0 i) == 34) = false := beq_eq_false_iff_ne.mpr h34
          have c92 : ((bt a0 i) == 92) = true := beq_iff_eq.mpr h92
          have er := esc_range (a0.extract (i + 1) a0.size)
          have hxs : (a0.extract (i + 1) a0.size).size = a0.size - (i + 1) := by simp
          by_cases hz : (esc (a0.extract (i + 1) a0.size)).2 = 0
          · have HQ2 := HQ.out
            simp only [quo, if_pos hp, if_neg h34, if_pos h92, if_pos hz, Prod.mk.injEq] at HQ2
            obtain ⟨rfl, rfl, rfl⟩ := HQ2
            have cz : ((esc (a0.extract (i + 1) a0.size)).2 == 0) = true := beq_iff_eq.mpr hz
            clear HQ h34 h92 hz er hxs
            go_wp2_with (go_at_call 27; refine (escaped_any _ _).mono ?_; rintro e W1 ⟨rfl, ⟨⟨m, rfl⟩⟩⟩)
            go_ret3
            exact ⟨rfl, hbw.trans ((Drawn0.below ⟨⟨m, rfl⟩⟩).mono hsz)⟩
          · have HQ2 : Hid (quo a0 n (i + 1 + (esc (a0.extract (i + 1) a0.size)).2.toNat) (acc ++ [(esc (a0.extract (i + 1) a0.size)).1.toNat.toUInt8]) = (r1, r2, r3)) := Lib.hid (by have := HQ.out; simpa only [quo, if_pos hp, if_neg h34, if_pos h92, if_neg hz] using this)
            have cz : ((esc (a0.extract (i + 1) a0.size)).2 == 0) = false := beq_eq_false_iff_ne.mpr hz
            have EB := Lib.hid (esc_byte (a0.extract (i + 1) a0.size))
            generalize hE : esc (a0.extract (i + 1) a0.size) = E at *
            have HE := Lib.hid hE
            clear hE
            obtain ⟨x, m0⟩ := E
            obtain ⟨m1, rfl⟩ : ∃ m1 : Nat, m0 = m1 := ⟨m0.toNat, by simp at er; omega⟩
            simp only at er cz hz HQ2
            clear HQ h34 h92
            go_wp2_with (go_at_call 27; refine (escaped_of _ _ HE.out _).mono ?_; rintro e W1 ⟨rfl, ⟨⟨m, rfl⟩⟩⟩)
            go_wp2_with (go_at_call 19; refine (bldWriteByte w.heap.size w.heap.size _ x (wr.drewN m) hI (by rw [Lib.byteCells_length]; omega) hsz).mono ?_)
            rintro e W1 ⟨rfl, h1, b1, k1⟩
            go_wp2
            go_roundw
            case rel =>
              refine ⟨i + 1 + m1, n, _, by go_num, ?_, (show Below w.heap.size w (wr.drewN m) from hbw.trans ((Drawn0.below ⟨⟨m, rfl⟩⟩).mono hsz)).trans b1, HQ2, by omega, by simp; omega⟩
              have EB2 := EB.out
              rw [EB2, ← Lib.byteCells_append] at h1
              exact Or.inr h1
            case measure => simp [intOf]; omega
        · have c34 : ((bt a0 i) == 34) = false := beq_eq_false_iff_ne.mpr h34
          have c92 : ((bt a0 i) == 92) = false := beq_eq_false_iff_ne.mpr h92
          have HQ2 : Hid (quo a0 n (i + 1) (acc ++ [(bt a0 i).toNat.toUInt8]) = (r1, r2, r3)) := Lib.hid (by have := HQ.out; simpa [quo, hp, h34, h92] using this)
          clear HQ h34 h92
          go_wp2_with (go_at_call 19; refine (bldWriteByte w.heap.size w.heap.size _ (bt a0 i) _ hI (by rw [Lib.byteCells_length]; omega) hsz).mono ?_)
          rintro e W1 ⟨rfl, h1, b1, k1⟩
          go_wp2
          go_roundw
          case rel =>
            exact ⟨i + 1, n, _, by go_num, by rw [bt_byte, ← Lib.byteCells_append] at h1; exact Or.inr h1, hbw.trans b1, HQ2, by omega, by simp; omega⟩
          case measure => simp [intOf]; omega
    · have hq : quo a0 n i acc = (⟨#[]⟩, 0, false) := by cases n <;> simp [quo, hp]
      have HQ3 := HQ.out
      rw [hq] at HQ3
      obtain ⟨rfl, rfl, rfl⟩ : (⟨#[]⟩ : ByteArray) = r1 ∧ (0 : Int) = r2 ∧ false = r3 := by simpa using HQ3
      clear HQ HQ3 hq
      go_wp2
      go_ret3
      exact ⟨rfl, hbw⟩
end Go.Proofs.Ytfdioplenkcahaa.Hand
