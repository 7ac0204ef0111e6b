/- (*Shelf).victims, whole. -/
import Derived.Test.YtancenklmfamnaaGreatShDel
import Derived.Test.YtancenklmfamnaaGreatShRem
set_option linter.unusedVariables false
set_option linter.unusedSimpArgs false
namespace Go.Proofs.YtancenklmfamnaaGreat.Sh
open Go.RowKit Go.Maps Go.Sort Go.Shelf
open Go.Proofs

theorem below_drewN {B : Nat} {a w : World} (h : Below B a w) (n : Nat) : Below B a (w.drewN n) := h.trans ⟨rfl, rfl, rfl, Nat.le_refl _, fun _ _ => rfl⟩
/-- how many go -/
def vcount (room n : Int) : Int → Int → List Int → Option Nat
  | b, c, [] => if b + n ≤ room ∧ c < 256 then some 0 else none
  | b, c, x :: l => if b + n ≤ room ∧ c < 256 then some 0 else (vcount room n (b - x) (c - 1) l).map (· + 1)
theorem vcount_yes {room n b c : Int} {l : List Int} (h : b + n ≤ room ∧ c < 256) : vcount room n b c l = some 0 := by
  cases l <;> simp [vcount, h]
theorem vcount_no {room n b c : Int} (h : ¬ (b + n ≤ room ∧ c < 256)) : vcount room n b c [] = none := by
  simp only [vcount, if_neg h]
theorem vcount_on {room n b c x : Int} {l : List Int} (h : ¬ (b + n ≤ room ∧ c < 256)) : vcount room n b c (x :: l) = (vcount room n (b - x) (c - 1) l).map (· + 1) := by
  simp only [vcount, if_neg h]

def sz (m : LM) : Int := m.dat.length
def isUnused (m : LM) : Bool := !decide (0 < m.used)
def unusedL (L : Lay) : List LM := (L.ms.filter isUnused).mergeSort fun a b => !decide (b.touched < a.touched)
def pickL (L : Lay) (n : Int) : Option Nat := vcount L.room n L.bytes L.count ((unusedL L).map sz)

theorem sorted_same {L : Lay} (ht : (L.ms.map (·.touched)).Nodup) {d : List (El L)} (hd : (d.map (·.1)).Perm L.ms) : (byTouch (d.filter unused)).map (·.1) = unusedL L := by
  have hp : ((d.filter unused).map (·.1)).Perm (L.ms.filter isUnused) := by
    have h1 := hd.filter isUnused
    rw [List.filter_map] at h1
    exact h1
  have e1 : (byTouch (d.filter unused)).map (·.1) = ((d.filter unused).map (·.1)).mergeSort fun a b => !decide (b.touched < a.touched) := by
    unfold byTouch
    refine List.map_mergeSort fun a _ b _ => ?_
    rw [ltM]
  rw [e1]
  have tr : ∀ a b c : LM, (!decide (b.touched < a.touched)) = true → (!decide (c.touched < b.touched)) = true → (!decide (c.touched < a.touched)) = true := fun a b c h1 h2 => by simp at *; omega
  have tot : ∀ a b : LM, ((!decide (b.touched < a.touched)) || (!decide (a.touched < b.touched))) = true := fun a b => by simp; omega
  refine List.Perm.eq_of_pairwise (le := fun a b => (!decide (LM.touched b < LM.touched a)) = true) (fun a b ha hb h1 h2 => ?_) (List.pairwise_mergeSort tr tot _) (List.pairwise_mergeSort tr tot _) (((List.mergeSort_perm _ _).trans hp).trans (List.mergeSort_perm _ _).symm)
  simp at h1 h2
  have ha' : a ∈ L.ms := (List.mem_filter.1 (hp.mem_iff.1 ((List.mergeSort_perm _ _).mem_iff.1 ha))).1
  have hb' : b ∈ L.ms := (List.mem_filter.1 ((List.mergeSort_perm _ _).mem_iff.1 hb)).1
  exact map_inj ht ha' hb' (by omega)

theorem attach_map {L : Lay} : ∀ (m : List LM), (∀ x ∈ m, x ∈ L.ms) → ∃ d : List (El L), d.map (·.1) = m
  | [], _ => ⟨[], rfl⟩
  | x :: m, h => by
    obtain ⟨d, hd⟩ := attach_map m fun y hy => h y (List.mem_cons_of_mem _ hy)
    exact ⟨⟨x, h x List.mem_cons_self⟩ :: d, by simp [hd]⟩

/-- the sorted row of those that may go, laid in memory -/
def RowOf (L : Lay) (w w' : World) (A : Option Addr) (l : List LM) : Prop := ∀ (j : Nat) (m : LM), l[j]? = some m → ∃ g, A = some ⟨g, 0, none⟩ ∧ w.heap.size ≤ g ∧ w'.cell? ⟨g, j, none⟩ = some (.pointer (some ⟨m.blk, 0, none⟩))

set_option maxHeartbeats 4000000 in
set_option maxRecDepth 1000000 in
/-- the first half: all, less those in use, sorted -/
theorem sorted_any (B p : Nat) (L : Lay) (w : World) (h : ShelfIs B w p L) (ht : (L.ms.map (·.touched)).Nodup) (v1 : Value) (w1 : World) (bs : List (Option Addr))
    (hp : bs.Perm (L.ms.map LM.ptr)) (hrow : w1.ownsRow w.heap.size 91 1 v1 bs.length (bs.map encP)) (hb : Below w.heap.size w w1) :
    ∃ (n2 : Nat) (A : Option Addr) (cap : Nat), n2 = (unusedL L).length ∧ n2 ≤ cap ∧ Calls Tryz.prog 92 #[v1, .func (.func 93) #[] #[]] w1 (fun e w2 => e = .returned (.slice A n2 cap) ∧ Below w.heap.size w w2 ∧
      Calls Tryz.prog 94 #[.slice A n2 cap, .func (.func 95) #[] #[]] w2 fun e w3 => e = .returned (.tuple #[]) ∧ Below w.heap.size w w3 ∧ RowOf L w w3 A (unusedL L)) := by
  obtain ⟨ms, hms, rfl⟩ := perm_map_inv hp L.ms rfl
  obtain ⟨d, hd⟩ := attach_map (L := L) ms fun x hx => hms.mem_iff.1 hx
  have hdp : (d.map (·.1)).Perm L.ms := by rw [hd]; exact hms
  have hsame := sorted_same ht hdp
  have hlen : (unusedL L).length = (d.filter unused).length := by rw [← hsame]; simp [byTouch]
  have hbs : (ms.map LM.ptr).map encP = d.map (encM L) := by
    rw [← hd, List.map_map, List.map_map]
    rfl
  have hl2 : (ms.map LM.ptr).length = d.length := by rw [← hd]; simp
  rw [hbs, hl2] at hrow
  have hd256 : d.length ≤ 256 := by
    have := hms.length_eq
    have := h.few
    have : d.length = ms.length := by rw [← hd]; simp
    omega
  by_cases hne : d = []
  · subst hne
    obtain ⟨A, c, rfl⟩ := row_len hrow
    refine ⟨0, A, c, by rw [hlen]; rfl, Nat.zero_le _, (del_empty A c w1).mono fun e w2 ⟨he, q, hq⟩ => ⟨he, by rw [hq]; exact below_drewN hb q, (sort_empty A c w2).mono fun e w3 ⟨he3, q3, hq3⟩ => ⟨he3, by rw [hq3, hq]; exact below_drewN (below_drewN hb q) q3, fun j m hj => ?_⟩⟩⟩
    rw [← hsame] at hj
    simp [byTouch] at hj
  · rcases hrow.2 with ⟨_, h0⟩ | ⟨g, cap, cur, rfl, hg, hcur, hcap, hcm, hsz, hcells⟩
    · simp at h0
      exact absurd h0 hne
    · have hlt : ∀ m ∈ L.ms, m.blk < w.heap.size := fun m hm => mod_old h hm
      have hs1 : ∀ m ∈ L.ms, w1.heap[m.blk]? = w.heap[m.blk]? := fun m hm => hb.block _ (hlt m hm)
      have hng : ∀ m ∈ L.ms, m.blk ≠ g := fun m hm e => by have := hlt m hm; omega
      have hc1 : ∀ (j : Nat) (x : El L), d[j]? = some x → cur[j]? = some (encM L x) := fun j x hj => by
        have h1 : (cur.toList.take (d.length * 1))[j]? = some (encM L x) := by rw [hcells]; simp [hj]
        have h2 := (List.getElem?_eq_some_iff.1 hj).1
        rw [List.getElem?_take_of_lt (by omega)] at h1
        simpa using h1
      have below : ∀ {a b : World}, Below w.heap.size w a → Same (fun k => k = g) a b → Below w.heap.size w b := fun ha hs => ⟨hs.1.trans ha.os, hs.2.1.trans ha.tape, hs.2.2.1.trans ha.output, Nat.le_trans ha.size hs.2.2.2.1, fun k hk => (hs.2.2.2.2 k (Nat.lt_of_lt_of_le hk ha.size) (by omega)).trans (ha.block k hk)⟩
      have hdel := del_row h w1 hs1 d g cap hne hng hcap hcm cur hcur (by simpa using hsz) hc1 hd256
      refine ⟨(d.filter unused).length, some ⟨g, 0, none⟩, cap, hlen.symm, Nat.le_trans (List.length_filter_le _ _) hcap, hdel.mono fun e w2 ⟨he, hsm, cur2, hcur2, hsz2, hc2⟩ => ⟨he, below hb hsm, ?_⟩⟩
      have hb2 := below hb hsm
      by_cases hne2 : d.filter unused = []
      · rw [hne2]
        refine (sort_empty (some ⟨g, 0, none⟩) cap w2).mono fun e w3 ⟨he3, q3, hq3⟩ => ⟨he3, by rw [hq3]; exact below_drewN hb2 q3, fun j m hj => ?_⟩
        rw [← hsame, hne2] at hj
        simp [byTouch] at hj
      · have hs2 : ∀ m ∈ L.ms, w2.heap[m.blk]? = w.heap[m.blk]? := fun m hm => hb2.block _ (hlt m hm)
        refine (sort_row h ht w2 hs2 (d.filter unused) g cap hne2 hng cur2 hcur2 hc2 (Nat.le_trans (List.length_filter_le _ _) hd256)).mono fun e w3 ⟨he3, hsm3, cur3, hcur3, hsz3, hc3⟩ => ⟨he3, below hb2 hsm3, fun j m hj => ⟨g, rfl, hg, ?_⟩⟩
        rw [← hsame, List.getElem?_map] at hj
        obtain ⟨x, hx, rfl⟩ := Option.map_eq_some_iff.1 hj
        rw [Lib.cell_of_heap hcur3]
        exact hc3 j x hx

/-- what victims answers -/
def VicP (L : Lay) (n : Int) (w : World) (e : Ending) (w' : World) : Prop := Below w.heap.size w w' ∧ ((pickL L n = none ∧ e = .returned (.tuple #[.slice none 0 0, .bool false])) ∨
      ∃ (i : Nat) (A : Option Addr) (cap : Nat), pickL L n = some i ∧ i ≤ (unusedL L).length ∧ e = .returned (.tuple #[.slice A i cap, .bool true]) ∧ RowOf L w w' A (unusedL L))

set_option maxHeartbeats 8000000 in
set_option maxRecDepth 1000000 in
theorem victims_any (B p : Nat) (L : Lay) (w : World) (h : ShelfIs B w p L) (ht : (L.ms.map (·.touched)).Nodup) (n : Int) (hn0 : 0 ≤ n) (hn : n ≤ 1099511627776) (hb0 : 0 ≤ L.bytes) (hb1 : L.bytes ≤ 1099511627776) (hc0 : 0 ≤ L.count) (hc1 : L.count ≤ 256)
    (hsz : ∀ m ∈ L.ms, m.dat.length ≤ 1099511627776) :
    Calls Tryz.prog 66 #[.pointer (some ⟨p, 0, none⟩), .int .i64 n] w (VicP L n w) := by
  have H := Lib.hid h
  have HT := Lib.hid ht
  have HZ := Lib.hid hsz
  clear h ht hsz
  go_enter Tryz.func66, Tryz.ntmps66
  go_wp2_with fail
  refine (all_any B p L _ H.out).mono ?_
  rintro e w1 ⟨v1, bs, rfl, hp, hrow, hbl⟩
  obtain ⟨n2, A, cap, hn2, hn2c, hcall⟩ := sorted_any B p L w H.out HT.out v1 w1 bs hp hrow hbl
  have HP := Lib.hid hp
  have HN2 := Lib.hid hn2
  have HC := Lib.hid hcall
  clear hp hrow hbl hn2 hcall
  go_wp2_with fail
  refine HC.out.mono ?_
  rintro e w2 ⟨rfl, hb2, hcall2⟩
  have HB2 := Lib.hid hb2
  have HC2 := Lib.hid hcall2
  clear hb2 hcall2
  go_wp2_with fail
  refine HC2.out.mono ?_
  rintro e w3 ⟨rfl, hb3, hrow3⟩
  have h3 := H.out.below hb3
  obtain ⟨sem, hblk⟩ := h3.blk
  have c2 : w3.cell? ⟨p, 2, none⟩ = some (.int .i64 L.room) := by rw [Lib.cell_of_heap hblk]; rfl
  have c3 : w3.cell? ⟨p, 3, none⟩ = some (.int .i64 L.bytes) := by rw [Lib.cell_of_heap hblk]; rfl
  have c4 : w3.cell? ⟨p, 4, none⟩ = some (.int .i64 L.count) := by rw [Lib.cell_of_heap hblk]; rfl
  have HB3 := Lib.hid hb3
  have HR3 := Lib.hid hrow3
  have H3 := Lib.hid h3
  have HBL := Lib.hid hblk
  clear hb3 hrow3 h3 hblk
  go_wp2_with fail
  go_quiet (fail)
  rename_i q0
  go_wp2_with fail
  go_loop [7, 8, 9] (fun v7 v8 v9 => ∃ (b c : Int) (i : Nat), v7 = .int .i64 b ∧ v8 = .int .i64 c ∧ v9 = .int .i64 i ∧ i ≤ n2 ∧ Hid (pickL L n = (vcount L.room n b c (((unusedL L).map sz).drop i)).map (· + i)) ∧ L.bytes - i * 1099511627776 ≤ b ∧ b ≤ L.bytes ∧ c = L.count - i) (fun _ _ v9 => n2 - (intOf v9).toNat)
  case atStart =>
    refine ⟨L.bytes, L.count, 0, rfl, rfl, rfl, Nat.zero_le _, Lib.hid ?_, by omega, by omega, by omega⟩
    unfold pickL
    simp
  case round =>
    obtain ⟨b, c, i, rfl, rfl, rfl, hi, HK, hb2, hb3, hc2⟩ := hrel
    have hi256 : n2 ≤ 256 := by
      have h1 := H.out.few
      have h2 := List.length_filter_le isUnused L.ms
      have h3 : (unusedL L).length = (L.ms.filter isUnused).length := by unfold unusedL; exact List.length_mergeSort _
      have := HN2.out
      omega
    have hcb : -256 ≤ c ∧ c ≤ 256 := by omega
    obtain ⟨hcb1, hcb2⟩ := hcb
    have HCE := Lib.hid hc2
    clear hc2
    by_cases hfit : b + n ≤ L.room
    · by_cases hcc : c < 256
      · have HK2 := Lib.hid (HK.out.trans (by rw [vcount_yes ⟨hfit, hcc⟩]; rfl : _ = some (0 + i)))
        clear HK
        go_wp2
        go_ret2
        exact ⟨below_drewN HB3.out _, .inr ⟨i, A, cap, HK2.out.trans (by simp), by rw [← HN2.out]; exact hi, rfl, HR3.out⟩⟩
      · have hno := Lib.hid (show ¬ (b + n ≤ L.room ∧ c < 256) from fun e => hcc e.2)
        obtain hx | ⟨x, hx⟩ : (unusedL L)[i]? = none ∨ ∃ x, (unusedL L)[i]? = some x := by cases (unusedL L)[i]? <;> simp
        · have hin : i = n2 := by
            have := List.getElem?_eq_none_iff.1 hx
            have := HN2.out
            omega
          have HK2 : Hid (pickL L n = none) := Lib.hid (HK.out.trans (by rw [List.drop_eq_nil_of_le (by rw [List.length_map, ← HN2.out]; omega), vcount_no hno.out]; rfl))
          clear HK hx
          subst hin
          go_wp2
          go_ret2
          exact ⟨below_drewN HB3.out _, .inl ⟨HK2.out, rfl⟩⟩
        · have hin : i < n2 := by
            have := (List.getElem?_eq_some_iff.1 hx).1
            have := HN2.out
            omega
          have hxm : x ∈ L.ms := by
            have h1 := List.mem_of_getElem? hx
            unfold unusedL at h1
            exact (List.mem_filter.1 ((List.mergeSort_perm _ _).mem_iff.1 h1)).1
          obtain ⟨g, rfl, hg, hcg⟩ := HR3.out i x hx
          obtain ⟨hmd, hrow⟩ := H3.out.mods x hxm
          obtain ⟨A2, c2, hval⟩ := row_len hrow
          have d2 : w3.cell? ⟨x.blk, 2, none⟩ = some (.slice A2 x.dat.length c2) := by rw [Lib.cell_of_heap hmd, ← hval]; rfl
          have hz := HZ.out x hxm
          have hdrop : ((unusedL L).map sz).drop i = sz x :: ((unusedL L).map sz).drop (i + 1) := by
            have h1 : ((unusedL L).map sz)[i]? = some (sz x) := by simp [hx]
            have h2 := (List.getElem?_eq_some_iff.1 h1)
            obtain ⟨h3, h4⟩ := h2
            rw [List.drop_eq_getElem_cons h3, h4]
          have HK2 : Hid (pickL L n = (vcount L.room n (b - x.dat.length) (c - 1) (((unusedL L).map sz).drop (i + 1))).map (· + (i + 1))) := Lib.hid (HK.out.trans (by
            rw [hdrop, vcount_on hno.out, Option.map_map]
            congr 1
            funext y
            simp
            omega))
          clear HK hx hmd hrow hval hdrop
          go_wp2
          go_round
          case rel => exact ⟨_, _, i + 1, rfl, rfl, by go_num, by omega, HK2, by omega, by omega, by have := HCE.out; omega⟩
          case measure => simp [intOf]; omega
    · have hno := Lib.hid (show ¬ (b + n ≤ L.room ∧ c < 256) from fun e => hfit e.1)
      obtain hx | ⟨x, hx⟩ : (unusedL L)[i]? = none ∨ ∃ x, (unusedL L)[i]? = some x := by cases (unusedL L)[i]? <;> simp
      · have hin : i = n2 := by
          have := List.getElem?_eq_none_iff.1 hx
          have := HN2.out
          omega
        have HK2 : Hid (pickL L n = none) := Lib.hid (HK.out.trans (by rw [List.drop_eq_nil_of_le (by rw [List.length_map, ← HN2.out]; omega), vcount_no hno.out]; rfl))
        clear HK hx
        subst hin
        go_wp2
        go_ret2
        exact ⟨below_drewN HB3.out _, .inl ⟨HK2.out, rfl⟩⟩
      · have hin : i < n2 := by
          have := (List.getElem?_eq_some_iff.1 hx).1
          have := HN2.out
          omega
        have hxm : x ∈ L.ms := by
          have h1 := List.mem_of_getElem? hx
          unfold unusedL at h1
          exact (List.mem_filter.1 ((List.mergeSort_perm _ _).mem_iff.1 h1)).1
        obtain ⟨g, rfl, hg, hcg⟩ := HR3.out i x hx
        obtain ⟨hmd, hrow⟩ := H3.out.mods x hxm
        obtain ⟨A2, c2, hval⟩ := row_len hrow
        have d2 : w3.cell? ⟨x.blk, 2, none⟩ = some (.slice A2 x.dat.length c2) := by rw [Lib.cell_of_heap hmd, ← hval]; rfl
        have hz := HZ.out x hxm
        have hdrop : ((unusedL L).map sz).drop i = sz x :: ((unusedL L).map sz).drop (i + 1) := by
          have h1 : ((unusedL L).map sz)[i]? = some (sz x) := by simp [hx]
          have h2 := (List.getElem?_eq_some_iff.1 h1)
          obtain ⟨h3, h4⟩ := h2
          rw [List.drop_eq_getElem_cons h3, h4]
        have HK2 : Hid (pickL L n = (vcount L.room n (b - x.dat.length) (c - 1) (((unusedL L).map sz).drop (i + 1))).map (· + (i + 1))) := Lib.hid (HK.out.trans (by
          rw [hdrop, vcount_on hno.out, Option.map_map]
          congr 1
          funext y
          simp
          omega))
        clear HK hx hmd hrow hval hdrop
        go_wp2
        go_round
        case rel => exact ⟨_, _, i + 1, rfl, rfl, by go_num, by omega, HK2, by omega, by omega, by have := HCE.out; omega⟩
        case measure => simp [intOf]; omega
end Go.Proofs.YtancenklmfamnaaGreat.Sh
