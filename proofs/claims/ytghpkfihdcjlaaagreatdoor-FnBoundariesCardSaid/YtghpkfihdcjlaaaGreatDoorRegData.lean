
/-
  Regions in plain Lean: when one is right, which cells it has, its mask. No program in sight.
-/
import Derived.Test.YtghpkfihdcjlaaaGreatDoorKinds
namespace Go.Proofs.YtghpkfihdcjlaaaGreatDoor
open Go.RowKit

def Reg.Valid (r : Reg) : Prop := 1 ≤ r.w ∧ r.w ≤ 6 ∧ 1 ≤ r.rows.length ∧ r.rows.length ≤ 6 ∧ ∀ a ∈ r.rows, 0 ≤ a ∧ a < 2 ^ r.w.toNat
instance (r : Reg) : Decidable r.Valid := by unfold Reg.Valid; exact inferInstance
def Reg.valid (r : Reg) : Bool := decide r.Valid
theorem Reg.valid_iff {r : Reg} : r.valid = true ↔ r.Valid := by simp [Reg.valid]
theorem Reg.valid_not {r : Reg} : r.valid = false ↔ ¬ r.Valid := by simp [Reg.valid]

/-- row y as a number -/
def Reg.row (r : Reg) (y : Nat) : Nat := (r.rows.getD y 0).toNat
/-- is (x, y) a cell? -/
def Reg.has (r : Reg) (x y : Int) : Bool := decide (0 ≤ x ∧ x < r.w ∧ 0 ≤ y ∧ y < r.rows.length) && (r.row y.toNat).testBit x.toNat

theorem Reg.row_of {r : Reg} (h : r.Valid) {y : Nat} {a : Int} (ha : r.rows[y]? = some a) : a = (r.row y : Int) ∧ r.row y < 2 ^ r.w.toNat := by
  obtain ⟨_, _, _, _, h5⟩ := h
  have hm := h5 a (List.mem_of_getElem? ha)
  have e : r.row y = a.toNat := by simp [Reg.row, List.getD, ha]
  rw [e]
  refine ⟨by omega, ?_⟩
  have : ((a.toNat : Nat) : Int) < ((2 ^ r.w.toNat : Nat) : Int) := by rw [Int.toNat_of_nonneg hm.1]; simpa using hm.2
  exact_mod_cast this
theorem Reg.row_lt {r : Reg} (h : r.Valid) (y : Nat) : r.row y < 2 ^ r.w.toNat := by
  by_cases hy : y < r.rows.length
  · exact (Reg.row_of h (List.getElem?_eq_getElem hy)).2
  · simp [Reg.row, List.getD, List.getElem?_eq_none (Nat.le_of_not_lt hy)]
    exact Nat.pos_of_ne_zero (by simp)
theorem Reg.two_pow_le {r : Reg} (h : r.Valid) : 2 ^ r.w.toNat ≤ 64 := by
  obtain ⟨_, h2, _⟩ := h
  calc 2 ^ r.w.toNat ≤ 2 ^ 6 := Nat.pow_le_pow_right (by decide) (by omega)
    _ = 64 := by decide

theorem ofInt_i64 (a : Nat) (ha : a < 9223372036854775808) : (BitVec.ofInt 64 (a : Int)).toNat = a := by
  rw [BitVec.ofInt_natCast, BitVec.toNat_ofNat]; exact Nat.mod_eq_of_lt (by omega)
theorem i64_and_nat (a b : Nat) (ha : a < 9223372036854775808) (hb : b < 9223372036854775808) : bits .and .i64 (a : Int) (b : Int) = ((a &&& b : Nat) : Int) := by
  have hx : a &&& b < 2 ^ 63 := Nat.and_lt_two_pow _ (by omega)
  show IntKind.i64.wrap ((BitVec.ofInt 64 (a : Int) &&& BitVec.ofInt 64 (b : Int)).toNat : Int) = _
  rw [BitVec.toNat_and, ofInt_i64 a ha, ofInt_i64 b hb, IntKind.wrap_i64]
  omega
theorem i64_or_nat (a b : Nat) (ha : a < 9223372036854775808) (hb : b < 9223372036854775808) : bits .or .i64 (a : Int) (b : Int) = ((a ||| b : Nat) : Int) := by
  have hx : a ||| b < 2 ^ 63 := Nat.or_lt_two_pow (by omega) (by omega)
  show IntKind.i64.wrap ((BitVec.ofInt 64 (a : Int) ||| BitVec.ofInt 64 (b : Int)).toNat : Int) = _
  rw [BitVec.toNat_or, ofInt_i64 a ha, ofInt_i64 b hb, IntKind.wrap_i64]
  omega
theorem i64_xor_nat (a b : Nat) (ha : a < 9223372036854775808) (hb : b < 9223372036854775808) : bits .xor .i64 (a : Int) (b : Int) = ((a ^^^ b : Nat) : Int) := by
  have hx : a ^^^ b < 2 ^ 63 := Nat.xor_lt_two_pow (by omega) (by omega)
  show IntKind.i64.wrap ((BitVec.ofInt 64 (a : Int) ^^^ BitVec.ofInt 64 (b : Int)).toNat : Int) = _
  rw [BitVec.toNat_xor, ofInt_i64 a ha, ofInt_i64 b hb, IntKind.wrap_i64]
  omega

/-- the walk's own spelling of a bit's test -/
theorem bit_test {m x : Nat} (hm : m < 9223372036854775808) : (bits .and .i64 ((m : Int) / 2 ^ x) 1 == 1) = m.testBit x := by
  have e1 : ((m : Int) / 2 ^ x) = ((m / 2 ^ x : Nat) : Int) := by simp
  have hd : m / 2 ^ x < 9223372036854775808 := Nat.lt_of_le_of_lt (Nat.div_le_self _ _) hm
  rw [e1, show (1 : Int) = ((1 : Nat) : Int) from rfl, i64_and_nat _ 1 hd (by decide), nat_mask1, Nat.testBit_eq_decide_div_mod_eq]
  rw [Bool.eq_iff_iff]
  simp only [beq_iff_eq, decide_eq_true_eq]
  omega

/-- the mask of the first k rows -/
def Reg.maskTo (r : Reg) : Nat → Nat
  | 0 => 0
  | k + 1 => r.maskTo k + r.row k * 2 ^ (k * r.w.toNat)
def Reg.mask (r : Reg) : Nat := r.maskTo r.rows.length
theorem Reg.maskTo_lt {r : Reg} (h : r.Valid) (k : Nat) : r.maskTo k < 2 ^ (k * r.w.toNat) := by
  induction k with
  | zero => simp [Reg.maskTo]
  | succ k ih =>
    have h1 := Reg.row_lt h k
    have h2 : r.row k * 2 ^ (k * r.w.toNat) + 2 ^ (k * r.w.toNat) ≤ 2 ^ r.w.toNat * 2 ^ (k * r.w.toNat) := by
      rw [← Nat.succ_mul]; exact Nat.mul_le_mul_right _ h1
    rw [Reg.maskTo, Nat.add_mul, Nat.one_mul, Nat.pow_add, Nat.mul_comm (2 ^ (k * r.w.toNat))]
    omega
theorem Reg.maskTo_or {r : Reg} (h : r.Valid) (k : Nat) : r.maskTo k ||| r.row k * 2 ^ (k * r.w.toNat) = r.maskTo (k + 1) := by
  rw [Nat.or_comm, nat_join (k * r.w.toNat) _ _ (by simp) (Reg.maskTo_lt h k), Reg.maskTo, Nat.add_comm]
theorem Reg.maskTo_le {r : Reg} (h : r.Valid) {k : Nat} (hk : k ≤ 6) : r.maskTo k < 68719476736 := by
  have h1 := Reg.maskTo_lt h k
  have h2 : k * r.w.toNat ≤ 36 := by
    have : r.w.toNat ≤ 6 := by have := h.2.1; omega
    calc k * r.w.toNat ≤ 6 * 6 := Nat.mul_le_mul hk this
      _ = 36 := rfl
  calc r.maskTo k < 2 ^ (k * r.w.toNat) := h1
    _ ≤ 2 ^ 36 := Nat.pow_le_pow_right (by decide) h2
    _ = 68719476736 := by decide
theorem Reg.mask_lt {r : Reg} (h : r.Valid) : r.mask < 68719476736 := Reg.maskTo_le h h.2.2.2.1
theorem Reg.shl_le {r : Reg} (h : r.Valid) {k : Nat} (hk : k < 6) : r.row k * 2 ^ (k * r.w.toNat) < 68719476736 := by
  have := Reg.maskTo_le h (k := k + 1) (by omega)
  rw [Reg.maskTo] at this
  omega
theorem Reg.kw_le {r : Reg} (h : r.Valid) {k : Nat} (hk : k < 6) : k * r.w.toNat ≤ 30 := by
  have : r.w.toNat ≤ 6 := by have := h.2.1; omega
  calc k * r.w.toNat ≤ 5 * 6 := Nat.mul_le_mul (by omega) this
    _ = 30 := rfl

theorem i64_andNot_nat (a b : Nat) (ha : a < 9223372036854775808) (hb : b < 9223372036854775808) : bits .andNot .i64 (a : Int) (b : Int) = ((a &&& (2 ^ 64 - (b + 1)) : Nat) : Int) := by
  have hx : a &&& (2 ^ 64 - (b + 1)) < 2 ^ 63 := Nat.lt_of_le_of_lt Nat.and_le_left (by omega)
  show IntKind.i64.wrap ((BitVec.ofInt 64 (a : Int) &&& ~~~ BitVec.ofInt 64 (b : Int)).toNat : Int) = _
  rw [BitVec.toNat_and, BitVec.toNat_not, ofInt_i64 a ha, ofInt_i64 b hb, IntKind.wrap_i64]
  rw [show 2 ^ 64 - 1 - b = 2 ^ 64 - (b + 1) by omega]
  omega
theorem andNot_zero (a b : Nat) (ha : a < 2 ^ 64) (hb : b < 2 ^ 64) : a &&& (2 ^ 64 - (b + 1)) = 0 ↔ a &&& b = a := by
  constructor
  · intro h
    apply Nat.eq_of_testBit_eq
    intro i
    have hi : (a &&& (2 ^ 64 - (b + 1))).testBit i = false := by rw [h]; simp
    rw [Nat.testBit_and, Nat.testBit_two_pow_sub_succ hb] at hi
    rw [Nat.testBit_and]
    by_cases hlt : i < 64
    · simp [hlt] at hi
      cases ht : a.testBit i
      · simp
      · simp [ht] at hi; simp [hi]
    · have : a.testBit i = false := Nat.testBit_lt_two_pow (Nat.lt_of_lt_of_le ha (Nat.pow_le_pow_right (by decide) (by omega)))
      simp [this]
  · intro h
    apply Nat.eq_of_testBit_eq
    intro i
    rw [Nat.testBit_and, Nat.testBit_two_pow_sub_succ hb]
    have hi : (a &&& b).testBit i = a.testBit i := by rw [h]
    rw [Nat.testBit_and] at hi
    simp
    intro h1 _
    rw [h1] at hi
    simpa using hi
theorem shl_in {m p : Nat} (h : m * 2 ^ p < 9223372036854775808) : wrap64 ((m : Int) * 2 ^ p) = ((m * 2 ^ p : Nat) : Int) := by
  have e : ((m : Int) * 2 ^ p) = ((m * 2 ^ p : Nat) : Int) := by simp
  rw [e, IntWalk.wrap64_in _ ⟨by omega, by omega⟩]
theorem or_step {a m p : Nat} (ha : a < 9223372036854775808) (h : m * 2 ^ p < 9223372036854775808) : bits .or .i64 (a : Int) (wrap64 ((m : Int) * 2 ^ p)) = ((a ||| m * 2 ^ p : Nat) : Int) := by
  rw [shl_in h, i64_or_nat a _ ha h]
/-- is a number a mask of cells of the region alone? -/
def Reg.isMask (r : Reg) (n : Int) : Bool := decide (0 ≤ n) && (n.toNat &&& r.mask == n.toNat)

end Go.Proofs.YtghpkfihdcjlaaaGreatDoor
