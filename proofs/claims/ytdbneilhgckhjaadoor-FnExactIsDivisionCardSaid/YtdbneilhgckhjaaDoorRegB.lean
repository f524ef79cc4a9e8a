
/-
  The walks over regions: has it a cell.
-/
import Derived.Test.YtdbneilhgckhjaaDoorRegA
namespace Go.Proofs.YtdbneilhgckhjaaDoor
open Go.RowKit

theorem Reg.has_eq {r : Reg} {x y : Nat} (hx : (x : Int) < r.w) (hy : y < r.rows.length) : r.has x y = (r.row y).testBit x := by
  have : (0 : Int) ≤ (x : Int) ∧ (x : Int) < r.w ∧ (0 : Int) ≤ (y : Int) ∧ (y : Int) < r.rows.length := ⟨by omega, hx, by omega, by omega⟩
  simp [Reg.has, this]
theorem Reg.has_out {r : Reg} {x y : Int} (h : ¬ (0 ≤ x ∧ x < r.w ∧ 0 ≤ y ∧ y < r.rows.length)) : r.has x y = false := by
  simp only [Reg.has, h, decide_false, Bool.false_and]

set_option maxRecDepth 100000 in
set_option maxHeartbeats 1600000 in
theorem impl_has_c {v : Value} {r : Reg} (x y : Int) (w : World) (h : RegRd w 0 w.heap.size v r) (hv : r.Valid) :
    Calls Tryd.prog 77 #[v, .int .i64 x, .int .i64 y] w fun e w' => e = .returned (.bool (r.has x y)) ∧ Below w.heap.size w w' := by
  obtain ⟨s, rfl, hs⟩ := h
  obtain ⟨A, c, rfl, hm, hr⟩ := hs
  unfold maxLen at hm
  have hbel : Below w.heap.size w (w.alloc (.cells #[.int .i64 r.w, .slice A r.rows.length c] 29)) := (Below.refl _ _).alloc (Nat.le_refl _) _
  have hv1 := hv.1
  have hv2 := hv.2.1
  have hv3 := hv.2.2.1
  have hv4 := hv.2.2.2.1
  have HV := Lib.hid hv
  clear hv
  by_cases h1 : 0 ≤ x ∧ x < r.w
  · obtain ⟨h1a, h1b⟩ := h1
    by_cases h2 : 0 ≤ y ∧ y < r.rows.length
    · obtain ⟨h2a, h2b⟩ := h2
      obtain ⟨xn, rfl⟩ := Int.eq_ofNat_of_zero_le h1a
      obtain ⟨yn, rfl⟩ := Int.eq_ofNat_of_zero_le h2a
      have hyn : yn < r.rows.length := by omega
      obtain ⟨b, off, a, rfl, _, hb, hla, q1⟩ := hr.at1 hyn
      obtain ⟨ea, hrow⟩ := Reg.row_of HV.out hla
      have hp := Reg.two_pow_le HV.out
      have hrl : r.row yn < 9223372036854775808 := by omega
      have hbt := bit_test (x := xn) hrl
      have hres : (bits .and .i64 ((r.row yn : Int) / 2 ^ xn) 1 == 1) = r.has xn yn := by rw [hbt, Reg.has_eq h1b hyn]
      generalize r.row yn = m at *
      subst ea
      have g1 : (0 : Int) ≤ (m : Int) := Int.natCast_nonneg _
      have HR := Lib.hid hres
      clear hres hbt hla hr hrow hp
      have hp : (decide ((0 : Int) ≤ (xn : Int)) && decide ((xn : Int) ≤ r.w - 1)) = true := by simp; omega
      have hq : (decide ((0 : Int) ≤ (yn : Int)) && decide ((yn : Int) ≤ (r.rows.length : Int) - 1)) = true := by simp; omega
      go_enter Tryd.func77, Tryd.ntmps77
      go_wp2_with (go_at_call 65; refine (between_any _ _ _ _).mono ?_; rintro e w' ⟨rfl, rfl⟩)
      go_ret
      exact ⟨by rw [← HR.out]; rfl, hbel⟩
    · have hf : r.has x y = false := Reg.has_out (by omega)
      rw [hf]
      clear hf
      have hp : (decide ((0 : Int) ≤ x) && decide (x ≤ r.w - 1)) = true := by simp; omega
      have hq : (decide ((0 : Int) ≤ y) && decide (y ≤ (r.rows.length : Int) - 1)) = false := by simp; omega
      go_enter Tryd.func77, Tryd.ntmps77
      go_wp2_with (go_at_call 65; refine (between_any _ _ _ _).mono ?_; rintro e w' ⟨rfl, rfl⟩)
      go_ret
      exact ⟨rfl, hbel⟩
  · have hf : r.has x y = false := Reg.has_out (by omega)
    rw [hf]
    clear hf
    have hp : (decide ((0 : Int) ≤ x) && decide (x ≤ r.w - 1)) = false := by simp; omega
    go_enter Tryd.func77, Tryd.ntmps77
    go_wp2_with (go_at_call 65; refine (between_any _ _ _ _).mono ?_; rintro e w' ⟨rfl, rfl⟩)
    go_ret
    exact ⟨rfl, hbel⟩
set_option maxRecDepth 100000 in
set_option maxHeartbeats 1600000 in
theorem spec_has_c {v : Value} {r : Reg} (x y : Int) (w : World) (h : RegRd w 0 w.heap.size v r) (hv : r.Valid) :
    Calls Tryd.prog 69 #[v, .int .i64 x, .int .i64 y] w fun e w' => e = .returned (.bool (r.has x y)) ∧ Below w.heap.size w w' := by
  obtain ⟨s, rfl, hs⟩ := h
  obtain ⟨A, c, rfl, hm, hr⟩ := hs
  unfold maxLen at hm
  have hbel : Below w.heap.size w (w.alloc (.cells #[.int .i64 r.w, .slice A r.rows.length c] 29)) := (Below.refl _ _).alloc (Nat.le_refl _) _
  have hv1 := hv.1
  have hv2 := hv.2.1
  have hv3 := hv.2.2.1
  have hv4 := hv.2.2.2.1
  have HV := Lib.hid hv
  clear hv
  by_cases h1 : 0 ≤ x ∧ x < r.w
  · obtain ⟨h1a, h1b⟩ := h1
    by_cases h2 : 0 ≤ y ∧ y < r.rows.length
    · obtain ⟨h2a, h2b⟩ := h2
      obtain ⟨xn, rfl⟩ := Int.eq_ofNat_of_zero_le h1a
      obtain ⟨yn, rfl⟩ := Int.eq_ofNat_of_zero_le h2a
      have hyn : yn < r.rows.length := by omega
      obtain ⟨b, off, a, rfl, _, hb, hla, q1⟩ := hr.at1 hyn
      obtain ⟨ea, hrow⟩ := Reg.row_of HV.out hla
      have hp := Reg.two_pow_le HV.out
      have hrl : r.row yn < 9223372036854775808 := by omega
      have hbt := bit_test (x := xn) hrl
      have hres : (bits .and .i64 ((r.row yn : Int) / 2 ^ xn) 1 == 1) = r.has xn yn := by rw [hbt, Reg.has_eq h1b hyn]
      generalize r.row yn = m at *
      subst ea
      have g1 : (0 : Int) ≤ (m : Int) := Int.natCast_nonneg _
      have HR := Lib.hid hres
      clear hres hbt hla hr hrow hp
      skip
      go_enter Tryd.func69, Tryd.ntmps69
      go_wp2
      go_ret
      exact ⟨by rw [← HR.out]; rfl, hbel⟩
    · have hf : r.has x y = false := Reg.has_out (by omega)
      rw [hf]
      clear hf
      have hsp : y < 0 ∨ (0 ≤ y ∧ (r.rows.length : Int) ≤ y) := by omega
      rcases hsp with h | ⟨h, h'⟩
      all_goals
        go_enter Tryd.func69, Tryd.ntmps69
        go_wp2
        go_ret
        exact ⟨rfl, hbel⟩
  · have hf : r.has x y = false := Reg.has_out (by omega)
    rw [hf]
    clear hf
    by_cases hx0 : 0 ≤ x
    · have hx1 : r.w ≤ x := by omega
      by_cases hy0 : 0 ≤ y
      all_goals
        go_enter Tryd.func69, Tryd.ntmps69
        go_wp2
        go_ret
        exact ⟨rfl, hbel⟩
    · go_enter Tryd.func69, Tryd.ntmps69
      go_wp2
      go_ret
      exact ⟨rfl, hbel⟩
end Go.Proofs.YtdbneilhgckhjaaDoor
