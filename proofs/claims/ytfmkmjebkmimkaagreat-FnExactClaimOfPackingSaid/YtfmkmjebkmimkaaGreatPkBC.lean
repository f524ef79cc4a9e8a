
/-
  Does a mask meet all placements? Both walks. How many cells a mask has: the reference's walk.
-/
import Derived.Test.YtfmkmjebkmimkaaGreatPkLM
import Derived.Test.YtfmkmjebkmimkaaGreatPkPU
namespace Go.Proofs.YtfmkmjebkmimkaaGreat
open Go.RowKit

set_option maxRecDepth 100000 in
set_option maxHeartbeats 800000 in
theorem impl_blk_c {v : Value} {A : List Nat} {m : Nat} (w : World) (h : IntsRd w 0 w.heap.size v (nl A)) (hA : ∀ x ∈ A, x < 2 ^ 36) (hl : A.length ≤ 1000000) (hm : m < 2 ^ 36) :
    Calls Tryz.prog 52 #[v, .int .i64 m] w fun e w' => e = .returned (.bool (blkB A m)) ∧ w = w' := by
  obtain ⟨n, hn⟩ : ∃ n, n = A.length := ⟨_, rfl⟩
  have hnl : (nl A).length = n := by simp [nl]; exact hn.symm
  obtain ⟨Av, cv, rfl, _, _⟩ := id h
  rw [hnl] at h ⊢
  have HR := Lib.hid h
  have HN := Lib.hid hn
  have HA := Lib.hid hA
  have hn6 : n ≤ 1000000 := by rw [hn]; exact hl
  have hm36 : m < 68719476736 := hm
  obtain ⟨T, hT⟩ : ∃ T, T = blkB A m := ⟨_, rfl⟩
  rw [← hT]
  have HT := Lib.hid hT
  clear h hn hA hl hm hT hnl
  go_enter Tryz.func52, Tryz.ntmps52
  go_wp2
  go_loopw [9] (fun iv wx => ∃ i : Nat, i ≤ n ∧ iv = .int .i64 i ∧ Hid (∀ (j x : Nat), j < i → A[j]? = some x → x &&& m ≠ 0) ∧ w = wx) (fun iv _ => n - (intOf iv).toNat)
  case atStart => exact ⟨0, Nat.zero_le _, rfl, Lib.hid (fun j x hj => absurd hj (Nat.not_lt_zero _)), rfl⟩
  case round =>
    obtain ⟨i, hin, rfl, HK, rfl⟩ := hrel
    by_cases hil : i < n
    · have hili : (i : Int) < (n : Int) := by omega
      obtain ⟨x, hx⟩ : ∃ x, A[i]? = some x := ⟨A[i]'(by rw [← HN.out]; exact hil), List.getElem?_eq_getElem _⟩
      obtain ⟨b, off, rfl, hb, y0⟩ := ints_atZ HR.out (show (nl A)[i]? = some (x : Int) by simp [nl, hx])
      have hx36 : x < 68719476736 := HA.out x (List.mem_of_getElem? hx)
      have hand := i64_and_nat x m (by omega) (by omega)
      obtain ⟨a, ha⟩ : ∃ a, a = x &&& m := ⟨_, rfl⟩
      rw [← ha] at hand
      have HX := Lib.hid hx
      have HAA := Lib.hid ha
      clear hx ha
      by_cases hz : a = 0
      · subst hz
        have hz1 : (((0 : Nat) : Int) == 0) = true := rfl
        obtain rfl : T = false := by rw [HT.out]; exact blkB_no HX.out HAA.out.symm
        go_wp2
        go_ret
        exact ⟨rfl, rfl⟩
      · have hz1 : ((a : Int) == 0) = false := by simp; omega
        have HK2 : Hid (∀ (j x : Nat), j < i + 1 → A[j]? = some x → x &&& m ≠ 0) := Lib.hid (fun j y hj hy => by
          by_cases e : j = i
          · subst e
            rw [HX.out] at hy
            injection hy with hy
            rw [← hy, ← HAA.out]
            exact hz
          · exact HK.out j y (by omega) hy)
        clear hz
        go_wp2
        go_roundw
        case rel => exact ⟨i + 1, by omega, by go_num, HK2, trivial⟩
        case measure => simp [intOf]; omega
    · obtain rfl : i = n := by omega
      obtain rfl : T = true := by
        rw [HT.out]
        exact blkB_yes fun j x hj => HK.out j x (by rw [HN.out]; exact (List.getElem?_eq_some_iff.1 hj).1) hj
      go_wp2
      go_ret
      exact ⟨rfl, rfl⟩
set_option maxRecDepth 100000 in
set_option maxHeartbeats 800000 in
theorem spec_blk_c {v : Value} {A : List Nat} {m : Nat} (w : World) (h : IntsRd w 0 w.heap.size v (nl A)) (hA : ∀ x ∈ A, x < 2 ^ 36) (hl : A.length ≤ 1000000) (hm : m < 2 ^ 36) :
    Calls Tryz.prog 45 #[v, .int .i64 m] w fun e w' => e = .returned (.bool (blkB A m)) ∧ w = w' := by
  obtain ⟨n, hn⟩ : ∃ n, n = A.length := ⟨_, rfl⟩
  have hnl : (nl A).length = n := by simp [nl]; exact hn.symm
  obtain ⟨Av, cv, rfl, _, _⟩ := id h
  rw [hnl] at h ⊢
  have HR := Lib.hid h
  have HN := Lib.hid hn
  have HA := Lib.hid hA
  have hn6 : n ≤ 1000000 := by rw [hn]; exact hl
  have hm36 : m < 68719476736 := hm
  obtain ⟨T, hT⟩ : ∃ T, T = blkB A m := ⟨_, rfl⟩
  rw [← hT]
  have HT := Lib.hid hT
  clear h hn hA hl hm hT hnl
  go_enter Tryz.func45, Tryz.ntmps45
  go_wp2
  go_loopw [5] (fun iv wx => ∃ i : Nat, i ≤ n ∧ iv = .int .i64 i ∧ Hid (∀ (j x : Nat), j < i → A[j]? = some x → x &&& m ≠ 0) ∧ w = wx) (fun iv _ => n - (intOf iv).toNat)
  case atStart => exact ⟨0, Nat.zero_le _, rfl, Lib.hid (fun j x hj => absurd hj (Nat.not_lt_zero _)), rfl⟩
  case round =>
    obtain ⟨i, hin, rfl, HK, rfl⟩ := hrel
    by_cases hil : i < n
    · have hili : (i : Int) < (n : Int) := by omega
      obtain ⟨x, hx⟩ : ∃ x, A[i]? = some x := ⟨A[i]'(by rw [← HN.out]; exact hil), List.getElem?_eq_getElem _⟩
      obtain ⟨b, off, rfl, hb, y0⟩ := ints_atZ HR.out (show (nl A)[i]? = some (x : Int) by simp [nl, hx])
      have hx36 : x < 68719476736 := HA.out x (List.mem_of_getElem? hx)
      have hand := i64_and_nat x m (by omega) (by omega)
      obtain ⟨a, ha⟩ : ∃ a, a = x &&& m := ⟨_, rfl⟩
      rw [← ha] at hand
      have HX := Lib.hid hx
      have HAA := Lib.hid ha
      clear hx ha
      by_cases hz : a = 0
      · subst hz
        have hz1 : (((0 : Nat) : Int) == 0) = true := rfl
        obtain rfl : T = false := by rw [HT.out]; exact blkB_no HX.out HAA.out.symm
        go_wp2
        go_ret
        exact ⟨rfl, rfl⟩
      · have hz1 : ((a : Int) == 0) = false := by simp; omega
        have HK2 : Hid (∀ (j x : Nat), j < i + 1 → A[j]? = some x → x &&& m ≠ 0) := Lib.hid (fun j y hj hy => by
          by_cases e : j = i
          · subst e
            rw [HX.out] at hy
            injection hy with hy
            rw [← hy, ← HAA.out]
            exact hz
          · exact HK.out j y (by omega) hy)
        clear hz
        go_wp2
        go_roundw
        case rel => exact ⟨i + 1, by omega, by go_num, HK2, trivial⟩
        case measure => simp [intOf]; omega
    · obtain rfl : i = n := by omega
      obtain rfl : T = true := by
        rw [HT.out]
        exact blkB_yes fun j x hj => HK.out j x (by rw [HN.out]; exact (List.getElem?_eq_some_iff.1 hj).1) hj
      go_wp2
      go_ret
      exact ⟨rfl, rfl⟩
end Go.Proofs.YtfmkmjebkmimkaaGreat

namespace Go.Proofs.YtfmkmjebkmimkaaGreat
open Go.RowKit

set_option maxRecDepth 100000 in
set_option maxHeartbeats 800000 in
theorem spec_bits_c {m : Nat} (w : World) (hm : m < 2 ^ 36) :
    Calls Tryz.prog 21 #[.int .i64 m] w fun e w' => e = .returned (.int .i64 (cntB m : Nat)) ∧ w = w' := by
  have HM := Lib.hid hm
  obtain ⟨T, hT⟩ : ∃ T, T = cntB m := ⟨_, rfl⟩
  rw [← hT]
  have HT := Lib.hid hT
  have hm36 : m < 68719476736 := hm
  have hmax : ∀ dd : Decidable (0 < m), @ite Int (0 < m) dd (m : Int) 0 = (m : Int) := fun dd => by by_cases h : 0 < m <;> simp [h]; omega
  clear hm hT
  go_enter Tryz.func21, Tryz.ntmps21
  go_wp2
  clear hmax
  go_loopw [3, 4] (fun nv xv wx => ∃ k n x : Nat, k ≤ 36 ∧ n ≤ k ∧ x < 68719476736 ∧ nv = .int .i64 n ∧ xv = .int .i64 x ∧ Hid (x = m / 2 ^ k) ∧ Hid (n = cntTo m k) ∧ w = wx) (fun _ xv _ => (intOf xv).toNat)
  case atStart => exact ⟨0, 0, m, by decide, by decide, hm36, rfl, rfl, Lib.hid (by simp), Lib.hid rfl, rfl⟩
  case round =>
    obtain ⟨k, n, x, hk, hn, hx36, rfl, rfl, HX, HN, rfl⟩ := hrel
    by_cases hx : 0 < x
    · have hxi : (0 : Int) < (x : Int) := by omega
      have hk36 : k < 36 := by
        rcases Nat.lt_or_ge k 36 with h | h
        · exact h
        · have h1 := HX.out
          have h2 : m / 2 ^ k = 0 := Nat.div_eq_of_lt (Nat.lt_of_lt_of_le HM.out (Nat.pow_le_pow_right (by decide) h))
          omega
      have hand : bits .and .i64 (x : Int) 1 = ((x % 2 : Nat) : Int) := by
        have := i64_and_nat x 1 (by omega) (by decide)
        rw [nat_mask1] at this
        exact this
      obtain ⟨b, hb⟩ : ∃ b, b = x % 2 := ⟨_, rfl⟩
      rw [← hb] at hand
      have hb2 : b < 2 := by rw [hb]; exact Nat.mod_lt _ (by decide)
      obtain ⟨y, hy⟩ : ∃ y, y = x / 2 := ⟨_, rfl⟩
      have hyx : y < x := by rw [hy]; omega
      have hdiv : (x : Int) / 2 = (y : Int) := by omega
      have HY : Hid (y = m / 2 ^ (k + 1)) := Lib.hid (by rw [hy, HX.out, Nat.pow_succ, Nat.div_div_eq_div_mul])
      have HN2 : Hid (n + b = cntTo m (k + 1)) := Lib.hid (by rw [cntTo, ← HN.out, hb, HX.out])
      clear hb hy
      go_wp2
      go_roundw
      case rel => exact ⟨k + 1, n + b, y, by omega, by omega, by omega, by go_num, by go_num, HY, HN2, trivial⟩
      case measure => simp [intOf]; omega
    · obtain rfl : x = 0 := by omega
      obtain rfl : T = n := by
        rw [HT.out, HN.out, cntB]
        obtain ⟨d, hd⟩ : ∃ d, 36 = k + d := ⟨36 - k, by omega⟩
        rw [hd]
        exact cntTo_up HX.out.symm d
      go_wp2
      go_ret
      exact ⟨rfl, rfl⟩
end Go.Proofs.YtfmkmjebkmimkaaGreat
