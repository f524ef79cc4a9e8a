
/-
  The sum of the weights of a mask: the program's walk. The reference's test of weights, where it holds.
-/
import Derived.Test.YtldggeldabaodaaGreatGjX
import Derived.Test.YtldggeldabaodaaGreatPrmX
import Derived.Test.YtldggeldabaodaaGreatMskX
namespace Go.Proofs.YtldggeldabaodaaGreat
open Go.RowKit

theorem sumW_le {m : Nat} {W : List Int} {p : Int} (hp : 0 < p) (hW : ∀ x ∈ W, 0 ≤ x ∧ x < p) : ∀ k, 0 ≤ sumW m W k ∧ sumW m W k ≤ k * p
  | 0 => by simp [sumW]
  | k + 1 => by
    have h := sumW_le hp hW k (m := m)
    have hx : 0 ≤ W.getD k 0 ∧ W.getD k 0 < p := by
      rw [List.getD_eq_getElem?_getD]
      by_cases hk : k < W.length
      · rw [List.getElem?_eq_getElem hk]
        exact hW _ (List.getElem_mem hk)
      · rw [List.getElem?_eq_none (by omega)]
        exact ⟨Int.le_refl _, hp⟩
    have e : ((k + 1 : Nat) : Int) * p = k * p + p := by rw [Int.natCast_add, Int.add_mul]; simp
    unfold sumW
    rw [e]
    split <;> omega
set_option maxRecDepth 100000 in
set_option maxHeartbeats 1600000 in
theorem weigh_c {v : Value} {m : Nat} {W : List Int} {p : Int} (w : World) (hp : p = 2 ∨ p = 3 ∨ p = 5) (hm : m < 2 ^ 36) (h : IntsRd w 0 w.heap.size v W) (hl : W.length ≤ 36) (hW : ∀ x ∈ W, 0 ≤ x ∧ x < p) :
    Calls Tryz.prog 74 #[.int .i64 m, v, .int .i64 p] w fun e w' => e = .returned (.int .i64 (sumW m W W.length % p)) ∧ w = w' := by
  obtain ⟨A, c, rfl, hmm, hr⟩ := h
  have hm2 : m < 9223372036854775808 := by omega
  have hp0 : 0 < p := by omega
  have hp5 : p ≤ 5 := by omega
  have HS := Lib.hid (sumW_le (m := m) hp0 hW)
  have HW := Lib.hid hW
  obtain ⟨n, hn⟩ : ∃ n, n = W.length := ⟨_, rfl⟩
  rw [← hn] at hl hr ⊢
  have HN := Lib.hid hn
  have HR := Lib.hid hr
  clear hn hr hmm hp hW
  go_enter Tryz.func74, Tryz.ntmps74
  go_wp2
  go_loopw [7, 12] (fun sv iv wx => ∃ i : Nat, i ≤ n ∧ iv = .int .i64 i ∧ sv = .int .i64 (sumW m W i) ∧ w = wx) (fun _ iv _ => n - (intOf iv).toNat)
  case atStart => exact ⟨0, Nat.zero_le _, rfl, rfl, rfl⟩
  case round =>
    obtain ⟨i, hi, rfl, rfl, rfl⟩ := hrel
    have hs := HS.out i
    have hs2 : (i : Int) * p ≤ 36 * 5 := Int.mul_le_mul (by omega) hp5 (by omega) (by omega)
    obtain ⟨s, hsd⟩ : ∃ s, s = sumW m W i := ⟨_, rfl⟩
    rw [← hsd] at hs ⊢
    obtain ⟨hs0, hs1⟩ := hs
    by_cases hlt : i < n
    · have hlti : (i : Int) < (n : Int) := by omega
      obtain ⟨y, hy⟩ : ∃ y, W[i]? = some y := ⟨W[i]'(by rw [← HN.out]; exact hlt), List.getElem?_eq_getElem _⟩
      obtain ⟨b, off, hA1, _, hb, hc⟩ := HR.out.2 (by omega)
      subst hA1
      have y1 := hc i (.int .i64 y) (by simp [ic, hy])
      have hyW := HW.out y (List.mem_of_getElem? hy)
      have hgy : W.getD i 0 = y := by rw [List.getD_eq_getElem?_getD, hy]; rfl
      have hbt := bit_test (x := i) hm2
      have ew : IntKind.i64.wrap (s + y) = s + y := IntWalk.i64_in _ (by omega)
      clear hc hb hy
      cases hb0 : m.testBit i
      · rw [hb0] at hbt
        have HST : Hid (sumW m W (i + 1) = s) := Lib.hid (by rw [sumW, hb0, hsd]; rfl)
        clear hsd hb0 hgy
        go_wp2
        go_roundw
        case rel => exact ⟨i + 1, by omega, by go_num, by rw [HST.out], trivial⟩
        case measure => simp [intOf]; omega
      · rw [hb0] at hbt
        have HST : Hid (sumW m W (i + 1) = s + y) := Lib.hid (by rw [sumW, hb0, if_pos rfl, ← hsd, hgy])
        clear hsd hb0 hgy
        go_wp2
        go_roundw
        case rel => exact ⟨i + 1, by omega, by go_num, by rw [HST.out], trivial⟩
        case measure => simp [intOf]; omega
    · obtain rfl : i = n := by omega
      have hp2 : (p == 0) = false := by simp; omega
      obtain ⟨r, hr⟩ : ∃ r, r = s % p := ⟨_, rfl⟩
      have e3 : Int.tmod s p = r := by rw [hr]; exact Int.tmod_eq_emod_of_nonneg (by omega)
      have hr0 : 0 ≤ r := by rw [hr]; exact Int.emod_nonneg _ (by omega)
      have hr5 : r < p := by rw [hr]; exact Int.emod_lt_of_pos _ hp0
      have e2 : IntKind.i64.wrap (Int.tmod s p) = r := by rw [e3]; exact IntWalk.i64_in _ (by omega)
      have HRS : Hid (r = sumW m W i % p) := Lib.hid (by rw [hr, hsd])
      clear hr hsd
      go_wp2
      go_ret
      exact ⟨by rw [← HRS.out]; rfl, rfl⟩
end Go.Proofs.YtldggeldabaodaaGreat

namespace Go.Proofs.YtldggeldabaodaaGreat
open Go.RowKit

set_option maxRecDepth 100000 in
set_option maxHeartbeats 1600000 in
theorem spec_are_c {v v2 : Value} {r : Reg} {W : List Int} {p : Int} (w : World) (h : RegRd w 0 w.heap.size v r) (hv : r.Valid) (h2 : IntsRd w 0 w.heap.size v2 W) (hp : p = 2 ∨ p = 3 ∨ p = 5) (hl : (W.length : Int) = r.w * r.rows.length) (hl36 : W.length ≤ 36) (hW : ∀ x ∈ W, 0 ≤ x ∧ x < p) :
    Calls Tryz.prog 103 #[v, v2, .int .i64 p] w fun e w' => e = .returned (.bool true) ∧ Below w.heap.size w w' := by
  have HSR : Hid (∀ w1, Below w.heap.size w w1 → Calls Tryz.prog 50 #[v] w1 fun e w' => e = .returned (.bool true) ∧ Below w1.heap.size w1 w') := Lib.hid fun w1 b1 => by
    rw [← Reg.valid_iff.2 hv]
    exact spec_IsRegion_c w1 ((h.keep (SameIn.of_below b1 (Nat.le_refl _))).more (Nat.le_refl _) b1.size)
  have HPR : Hid (∀ w1, Calls Tryz.prog 62 #[.int .i64 p] w1 fun e w' => e = .returned (.bool true) ∧ w1 = w') := Lib.hid fun w1 => by
    have := spec_prime_c p w1
    rwa [show prm p = true by rcases hp with rfl | rfl | rfl <;> rfl] at this
  have HL : Hid (∀ x ∈ W, ∀ w1, Calls Tryz.prog 86 #[.int .i64 x, .int .i64 0, .int .i64 (p - 1)] w1 fun e w' => e = .returned (.bool true) ∧ w1 = w') := Lib.hid fun x hx w1 => by
    have := l1In_any x 0 (p - 1) w1
    have hb := hW x hx
    rwa [show (decide (0 ≤ x) && decide (x ≤ p - 1)) = true by simp; omega] at this
  have HRD : Hid (∀ w1, Below w.heap.size w w1 → IntsRd w1 0 w1.heap.size v2 W) := Lib.hid fun w1 b1 => (h2.keep (SameIn.of_below b1 (Nat.le_refl _))).more (Nat.le_refl _) b1.size
  obtain ⟨q, hq⟩ : ∃ q, q = p - 1 := ⟨_, rfl⟩
  rw [← hq] at HL
  have hpq : IntKind.i64.wrap (p - 1) = q := by rw [hq]; exact IntWalk.i64_in _ (by omega)
  obtain ⟨n, hn⟩ : ∃ n, n = W.length := ⟨_, rfl⟩
  rw [← hn] at hl hl36
  have hmul : IntKind.i64.wrap (r.w * (r.rows.length : Int)) = (n : Int) := by rw [← hl]; exact IntWalk.i64_in _ (by omega)
  have hne : ((n : Int) != (n : Int)) = false := by simp
  have HN := Lib.hid hn
  obtain ⟨s, rfl, hs⟩ := h
  obtain ⟨A, c, rfl, hm, hr⟩ := id hs
  obtain ⟨B, cB, rfl, hmB, hrB⟩ := id h2
  rw [← hn] at HRD ⊢
  have H0 := (Sep.start w).box 28 #[.int .i64 r.w, .slice A r.rows.length c]
  obtain ⟨bR, hbR⟩ : ∃ bR, bR = w.heap.size := ⟨_, rfl⟩
  rw [← hbR] at H0
  clear hr hs hrB hmB h2 hq hl hn hW hp
  go_enter Tryz.func103, Tryz.ntmps103
  go_upto_region 1 with fail
  rw [← hbR]
  generalize w.alloc (.cells #[.int .i64 r.w, .slice A r.rows.length c] 28) = W0 at *
  clear hbR
  have c0 : W0.cell? ⟨bR, 0, none⟩ = some (.int .i64 r.w) := H0.h0.cell 0
  have c1 : W0.cell? ⟨bR, 1, none⟩ = some (.slice A r.rows.length c) := H0.h0.cell 1
  have HI := Lib.hid (HSR.out W0 H0.below)
  go_wp2_with fail
  refine (HI.out).mono ?_
  rintro e w1 ⟨rfl, b1⟩
  have H1 := H0.step b1
  clear H0 HI b1 c0 c1
  have c0 : w1.cell? ⟨bR, 0, none⟩ = some (.int .i64 r.w) := H1.h0.cell 0
  have c1 : w1.cell? ⟨bR, 1, none⟩ = some (.slice A r.rows.length c) := H1.h0.cell 1
  go_wp2_with fail
  refine (HPR.out w1).mono ?_
  rintro e w1 ⟨rfl, rfl⟩
  obtain ⟨_, _, hi1, _, hrB⟩ := HRD.out w1 H1.below
  have HR := Lib.hid hrB
  have HB := Lib.hid H1.below
  injection hi1 with e1 e2 e3
  subst e1
  clear hrB H1
  go_wp2
  clear hne hmul c0 c1
  go_loopw [7] (fun iv wx => ∃ i : Nat, i ≤ n ∧ iv = .int .i64 i ∧ w1 = wx) (fun iv _ => n - (intOf iv).toNat)
  case atStart => exact ⟨0, Nat.zero_le _, rfl, rfl⟩
  case round =>
    obtain ⟨i, hi, rfl, rfl⟩ := hrel
    by_cases hlt : i < n
    · have hlti : (i : Int) < (n : Int) := by omega
      obtain ⟨y, hy⟩ : ∃ y, W[i]? = some y := ⟨W[i]'(by rw [← HN.out]; exact hlt), List.getElem?_eq_getElem _⟩
      obtain ⟨b, off, hA1, _, hb, hc⟩ := HR.out.2 (by rw [← HN.out]; omega)
      subst hA1
      have y1 := hc i (.int .i64 y) (by simp [ic, hy])
      have HC := Lib.hid (HL.out y (List.mem_of_getElem? hy) w1)
      clear hc hb hy
      go_wp2_with fail
      refine (HC.out).mono ?_
      rintro e w2 ⟨rfl, rfl⟩
      clear HC
      go_wp2
      go_roundw
      case rel => exact ⟨i + 1, by omega, by go_num, trivial⟩
      case measure => simp [intOf]; omega
    · obtain rfl : i = n := by omega
      go_wp2
      go_ret
      exact ⟨rfl, HB.out⟩
set_option maxRecDepth 100000 in
set_option maxHeartbeats 1600000 in
theorem spec_sum_c {v v2 : Value} {r : Reg} {m : Nat} {W : List Int} {p : Int} (w : World) (h : RegRd w 0 w.heap.size v r) (hv : r.Valid) (h2 : IntsRd w 0 w.heap.size v2 W) (hp : p = 2 ∨ p = 3 ∨ p = 5) (hl : (W.length : Int) = r.w * r.rows.length) (hl36 : W.length ≤ 36) (hW : ∀ x ∈ W, 0 ≤ x ∧ x < p) (hm : m < 2 ^ 36) (hmr : m &&& r.mask = m) :
    Calls Tryz.prog 67 #[v, .int .i64 m, v2, .int .i64 p] w fun e w' => e = .returned (.int .i64 (sumW m W W.length % p)) ∧ Below w.heap.size w w' := by
  have HRD : Hid (∀ w1, Below w.heap.size w w1 → IntsRd w1 0 w1.heap.size v2 W) := Lib.hid fun w1 b1 => (h2.keep (SameIn.of_below b1 (Nat.le_refl _))).more (Nat.le_refl _) b1.size
  have HAR : Hid (∀ w1, Below w.heap.size w w1 → Calls Tryz.prog 103 #[v, v2, .int .i64 p] w1 fun e w' => e = .returned (.bool true) ∧ Below w1.heap.size w1 w') := Lib.hid fun w1 b1 =>
    spec_are_c w1 ((h.keep (SameIn.of_below b1 (Nat.le_refl _))).more (Nat.le_refl _) b1.size) hv (HRD.out w1 b1) hp hl hl36 hW
  have HMK : Hid (∀ w1, Below w.heap.size w w1 → Calls Tryz.prog 68 #[v] w1 fun e w' => e = .returned (.int .i64 (r.mask : Int)) ∧ Below w1.heap.size w1 w') := Lib.hid fun w1 b1 =>
    spec_mask_c w1 ((h.keep (SameIn.of_below b1 (Nat.le_refl _))).more (Nat.le_refl _) b1.size) hv
  have hml := Reg.mask_lt hv
  have hm2 : m < 9223372036854775808 := by omega
  have hp0 : 0 < p := by omega
  have hp5 : p ≤ 5 := by omega
  have HS := Lib.hid (sumW_le (m := m) hp0 hW)
  have HW := Lib.hid hW
  have hma : bits .and .i64 (m : Int) (r.mask : Int) = (m : Int) := by rw [i64_and_nat _ _ hm2 (by omega), hmr]
  have hmi : decide ((m : Int) < 0) = false := decide_eq_false (by omega)
  have hme : ((m : Int) != (m : Int)) = false := by simp
  obtain ⟨n, hn⟩ : ∃ n, n = W.length := ⟨_, rfl⟩
  rw [← hn] at hl36 ⊢
  have HN := Lib.hid hn
  obtain ⟨s, rfl, hs⟩ := h
  obtain ⟨A, c, rfl, _, hr⟩ := id hs
  obtain ⟨B, cB, rfl, hmB, hrB⟩ := id h2
  rw [← hn] at HRD HAR
  have H0 := (Sep.start w).box 28 #[.int .i64 r.w, .slice A r.rows.length c]
  obtain ⟨bR, hbR⟩ : ∃ bR, bR = w.heap.size := ⟨_, rfl⟩
  rw [← hbR] at H0
  rw [← hn]
  clear hr hs hrB hmB h2 hl hn hW hp hmr
  go_enter Tryz.func67, Tryz.ntmps67
  go_upto_region 1 with fail
  rw [← hbR]
  generalize w.alloc (.cells #[.int .i64 r.w, .slice A r.rows.length c] 28) = W0 at *
  clear hbR
  have c0 : W0.cell? ⟨bR, 0, none⟩ = some (.int .i64 r.w) := H0.h0.cell 0
  have c1 : W0.cell? ⟨bR, 1, none⟩ = some (.slice A r.rows.length c) := H0.h0.cell 1
  have HI := Lib.hid (HAR.out W0 H0.below)
  go_wp2_with fail
  refine (HI.out).mono ?_
  rintro e w1 ⟨rfl, b1⟩
  have H1 := H0.step b1
  clear H0 HI b1 c0 c1
  have c0 : w1.cell? ⟨bR, 0, none⟩ = some (.int .i64 r.w) := H1.h0.cell 0
  have c1 : w1.cell? ⟨bR, 1, none⟩ = some (.slice A r.rows.length c) := H1.h0.cell 1
  have HI := Lib.hid (HMK.out w1 H1.below)
  go_wp2_with fail
  refine (HI.out).mono ?_
  rintro e w2 ⟨rfl, b1⟩
  have H2 := H1.step b1
  clear H1 HI b1 c0 c1
  obtain ⟨_, _, hi1, _, hrB⟩ := HRD.out w2 H2.below
  have HR := Lib.hid hrB
  have HB := Lib.hid H2.below
  injection hi1 with e1 e2 e3
  subst e1
  clear hrB H2
  go_wp2
  clear hma hmi hme
  go_loopw [9, 10] (fun sv iv wx => ∃ i : Nat, i ≤ n ∧ iv = .int .i64 i ∧ sv = .int .i64 (sumW m W i) ∧ w2 = wx) (fun _ iv _ => n - (intOf iv).toNat)
  case atStart => exact ⟨0, Nat.zero_le _, rfl, rfl, rfl⟩
  case round =>
    obtain ⟨i, hi, rfl, rfl, rfl⟩ := hrel
    have hs := HS.out i
    have hs2 : (i : Int) * p ≤ 36 * 5 := Int.mul_le_mul (by omega) hp5 (by omega) (by omega)
    obtain ⟨s, hsd⟩ : ∃ s, s = sumW m W i := ⟨_, rfl⟩
    rw [← hsd] at hs ⊢
    obtain ⟨hs0, hs1⟩ := hs
    by_cases hlt : i < n
    · have hlti : (i : Int) < (n : Int) := by omega
      obtain ⟨y, hy⟩ : ∃ y, W[i]? = some y := ⟨W[i]'(by rw [← HN.out]; exact hlt), List.getElem?_eq_getElem _⟩
      obtain ⟨b, off, hA1, _, hb, hc⟩ := HR.out.2 (by rw [← HN.out]; omega)
      subst hA1
      have y1 := hc i (.int .i64 y) (by simp [ic, hy])
      have hyW := HW.out y (List.mem_of_getElem? hy)
      have hgy : W.getD i 0 = y := by rw [List.getD_eq_getElem?_getD, hy]; rfl
      have hbt := bit_test (x := i) hm2
      have ew : IntKind.i64.wrap (s + y) = s + y := IntWalk.i64_in _ (by omega)
      clear hc hb hy
      cases hb0 : m.testBit i
      · rw [hb0] at hbt
        have HST : Hid (sumW m W (i + 1) = s) := Lib.hid (by rw [sumW, hb0, hsd]; rfl)
        clear hsd hb0 hgy
        go_wp2
        go_roundw
        case rel => exact ⟨i + 1, by omega, by go_num, by rw [HST.out], trivial⟩
        case measure => simp [intOf]; omega
      · rw [hb0] at hbt
        have HST : Hid (sumW m W (i + 1) = s + y) := Lib.hid (by rw [sumW, hb0, if_pos rfl, ← hsd, hgy])
        clear hsd hb0 hgy
        go_wp2
        go_roundw
        case rel => exact ⟨i + 1, by omega, by go_num, by rw [HST.out], trivial⟩
        case measure => simp [intOf]; omega
    · obtain rfl : i = n := by omega
      have hp2 : (p == 0) = false := by simp; omega
      obtain ⟨r', hr⟩ : ∃ r', r' = s % p := ⟨_, rfl⟩
      have e3 : Int.tmod s p = r' := by rw [hr]; exact Int.tmod_eq_emod_of_nonneg (by omega)
      have hr0 : 0 ≤ r' := by rw [hr]; exact Int.emod_nonneg _ (by omega)
      have hr5 : r' < p := by rw [hr]; exact Int.emod_lt_of_pos _ hp0
      have e2 : IntKind.i64.wrap (Int.tmod s p) = r' := by rw [e3]; exact IntWalk.i64_in _ (by omega)
      have HRS : Hid (r' = sumW m W i % p) := Lib.hid (by rw [hr, hsd])
      clear hr hsd
      go_wp2
      go_ret
      exact ⟨by rw [← HRS.out]; rfl, HB.out⟩
end Go.Proofs.YtldggeldabaodaaGreat
