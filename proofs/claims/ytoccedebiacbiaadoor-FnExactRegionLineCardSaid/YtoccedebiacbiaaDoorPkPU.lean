
/-
  The library's count of ones, at any number: what it computes, step by step. The library's count of ones is the number of bits, below 2 ^ 36: plain. Packings, plain: a largest one, in order; how many it has. Placements are masks of cells of the region, and not 0: plain. The submasks of a mask in ascending order, plain: as the program lists them, as the reference's codes; the first with fewest bits that blocks.
-/
import Derived.Test.YtoccedebiacbiaaDoorArX
import Derived.Test.YtoccedebiacbiaaDoorPlcP
import Derived.Test.YtoccedebiacbiaaDoorCellX
namespace Go.Proofs.YtoccedebiacbiaaDoor
open Go.RowKit

/-- how many of the first k bits are set -/
def cntTo (m : Nat) : Nat → Nat
  | 0 => 0
  | k + 1 => cntTo m k + m / 2 ^ k % 2
theorem cntTo_le {m : Nat} : ∀ k, cntTo m k ≤ k
  | 0 => Nat.le_refl _
  | k + 1 => by have := cntTo_le (m := m) k; have := Nat.mod_lt (m / 2 ^ k) (show 0 < 2 by decide); unfold cntTo; omega
theorem cntTo_up {m k : Nat} (h : m / 2 ^ k = 0) : ∀ d, cntTo m (k + d) = cntTo m k
  | 0 => rfl
  | d + 1 => by
    have h2 : m / 2 ^ (k + d) = 0 := by rw [Nat.pow_add, ← Nat.div_div_eq_div_mul, h, Nat.zero_div]
    show cntTo m (k + d) + m / 2 ^ (k + d) % 2 = _
    rw [h2, cntTo_up h d]
    rfl
/-- how many cells a mask has -/
def cntB (m : Nat) : Nat := cntTo m 36
set_option maxRecDepth 100000 in
set_option maxHeartbeats 800000 in
theorem ones64g_c (m : Nat) (w : World) :
    Calls Tryd.prog 65 #[.int .u64 (m : Int)] w fun e w' => e = .returned (.int .i64 (onesOf (m : Int))) ∧ w = w' := by
  go_enter Tryd.func65, Tryd.ntmps65
  go_wp2
  go_ret
  exact ⟨rfl, rfl⟩
set_option maxRecDepth 100000 in
set_option maxHeartbeats 800000 in
theorem onesg_c (m : Nat) (w : World) :
    Calls Tryd.prog 48 #[.int .u64 (m : Int)] w fun e w' => e = .returned (.int .i64 (onesOf (m : Int))) ∧ w = w' := by
  go_enter Tryd.func48, Tryd.ntmps48
  go_wp2_with fail
  refine (ones64g_c m _).mono ?_
  rintro e w' ⟨rfl, rfl⟩
  go_wp2
  go_ret
  exact ⟨rfl, rfl⟩
end Go.Proofs.YtoccedebiacbiaaDoor

namespace Go.Proofs.YtoccedebiacbiaaDoor
open Go.RowKit

theorem ofInt_u64 (a : Nat) (ha : a < 18446744073709551616) : (BitVec.ofInt 64 (a : Int)).toNat = a := by
  rw [BitVec.ofInt_natCast, BitVec.toNat_ofNat]; exact Nat.mod_eq_of_lt (by omega)
theorem u64_and_nat (a b : Nat) (ha : a < 18446744073709551616) (hb : b < 18446744073709551616) : bits .and .u64 (a : Int) (b : Int) = ((a &&& b : Nat) : Int) := by
  have hx : a &&& b < 2 ^ 64 := Nat.and_lt_two_pow _ (by omega)
  show IntKind.u64.wrap ((BitVec.ofInt 64 (a : Int) &&& BitVec.ofInt 64 (b : Int)).toNat : Int) = _
  rw [BitVec.toNat_and, ofInt_u64 a ha, ofInt_u64 b hb]
  show ((a &&& b : Nat) : Int) % 18446744073709551616 = _
  omega
theorem u64_in (a : Nat) (ha : a < 18446744073709551616) : IntKind.u64.wrap (a : Int) = (a : Int) := by
  show (a : Int) % 18446744073709551616 = _
  omega
theorem and_split {a b q d : Nat} (ha : a < 256) (hb : b < 256) : (a + 256 * q) &&& (b + 256 * d) = (a &&& b) + 256 * (q &&& d) := by
  have h1 : ((a + 256 * q) &&& (b + 256 * d)) % 2 ^ 8 = a &&& b := by
    rw [Nat.and_mod_two_pow, show (a + 256 * q) % 2 ^ 8 = a by omega, show (b + 256 * d) % 2 ^ 8 = b by omega]
  have h2 : ((a + 256 * q) &&& (b + 256 * d)) / 2 ^ 8 = q &&& d := by
    rw [Nat.and_div_two_pow, show (a + 256 * q) / 2 ^ 8 = q by omega, show (b + 256 * d) / 2 ^ 8 = d by omega]
  omega
def o1 (M m : Nat) : Nat := (m / 2 &&& M) + (m &&& M)
def o2 (M m : Nat) : Nat := (m / 4 &&& M) + (m &&& M)
def o3 (M m : Nat) : Nat := (m / 16 + m) &&& M
theorem o1_low : ∀ a, a < 256 → ∀ t, t < 2 → (a / 2 + 128 * t) &&& 85 = a / 2 &&& 85 := by decide +kernel
theorem o2_low : ∀ a, a < 256 → ∀ t, t < 4 → (a / 4 + 64 * t) &&& 51 = a / 4 &&& 51 := by decide +kernel
theorem o3_low : ∀ a, a < 69 → ∀ t, t < 5 → (a / 16 + a + 16 * t) &&& 15 = (a / 16 + a) &&& 15 := by decide +kernel
theorem o1_step {a q M : Nat} (ha : a < 256) : o1 (85 + 256 * M) (a + 256 * q) = o1 85 a + 256 * o1 M q := by
  unfold o1
  rw [show (a + 256 * q) / 2 = (a / 2 + 128 * (q % 2)) + 256 * (q / 2) by omega, and_split (by omega) (by decide), and_split ha (by decide), o1_low a ha (q % 2) (by omega)]
  omega
theorem o2_step {a q M : Nat} (ha : a < 256) : o2 (51 + 256 * M) (a + 256 * q) = o2 51 a + 256 * o2 M q := by
  unfold o2
  rw [show (a + 256 * q) / 4 = (a / 4 + 64 * (q % 4)) + 256 * (q / 4) by omega, and_split (by omega) (by decide), and_split ha (by decide), o2_low a ha (q % 4) (by omega)]
  omega
theorem o3_step {a q M : Nat} (ha : a < 69) (hq : q % 16 < 5) : o3 (15 + 256 * M) (a + 256 * q) = o3 15 a + 256 * o3 M q := by
  unfold o3
  rw [show (a + 256 * q) / 16 + (a + 256 * q) = (a / 16 + a + 16 * (q % 16)) + 256 * (q / 16 + q) by omega, and_split (by omega) (by decide), o3_low a ha (q % 16) hq]
theorem o1_zero {M : Nat} : o1 M 0 = 0 := by simp [o1]
theorem o2_zero {M : Nat} : o2 M 0 = 0 := by simp [o2]
theorem o3_zero {M : Nat} : o3 M 0 = 0 := by simp [o3]
theorem o1_last {a M : Nat} (ha : a < 256) : o1 (85 + 256 * M) a = o1 85 a := by simpa [o1_zero] using o1_step (q := 0) (M := M) ha
theorem o2_last {a M : Nat} (ha : a < 256) : o2 (51 + 256 * M) a = o2 51 a := by simpa [o2_zero] using o2_step (q := 0) (M := M) ha
theorem o3_last {a M : Nat} (ha : a < 69) : o3 (15 + 256 * M) a = o3 15 a := by simpa [o3_zero] using o3_step (q := 0) (M := M) ha (by decide)
theorem byte_o : ∀ b, b < 256 → o1 85 b < 256 ∧ o2 51 (o1 85 b) < 69 ∧ o2 51 (o1 85 b) % 16 < 5 ∧ o3 15 (o2 51 (o1 85 b)) = cntTo b 8 := by decide +kernel
theorem cnt_split {a q : Nat} (ha : a < 256) : ∀ k, cntTo (a + 256 * q) (8 + k) = cntTo a 8 + cntTo q k
  | 0 => by simp only [cntTo, Nat.add_zero]; omega
  | k + 1 => by
    have h1 : (a + 256 * q) / 2 ^ (8 + k) = q / 2 ^ k := by
      rw [Nat.pow_add, ← Nat.div_div_eq_div_mul]
      congr 1
      omega
    show cntTo (a + 256 * q) (8 + k) + (a + 256 * q) / 2 ^ (8 + k) % 2 = cntTo a 8 + (cntTo q k + q / 2 ^ k % 2)
    rw [cnt_split ha k, h1]
    omega
theorem cnt_four : ∀ b, b < 16 → cntTo b 4 = cntTo b 8 := by decide +kernel
theorem o_all {b0 b1 b2 b3 b4 : Nat} (h0 : b0 < 256) (h1 : b1 < 256) (h2 : b2 < 256) (h3 : b3 < 256) (h4 : b4 < 256) :
    o3 1085102592571150095 (o2 3689348814741910323 (o1 6148914691236517205 (b0 + 256 * (b1 + 256 * (b2 + 256 * (b3 + 256 * b4)))))) = cntTo b0 8 + 256 * (cntTo b1 8 + 256 * (cntTo b2 8 + 256 * (cntTo b3 8 + 256 * cntTo b4 8))) := by
  obtain ⟨p0, q0, r0, s0⟩ := byte_o b0 h0
  obtain ⟨p1, q1, r1, s1⟩ := byte_o b1 h1
  obtain ⟨p2, q2, r2, s2⟩ := byte_o b2 h2
  obtain ⟨p3, q3, r3, s3⟩ := byte_o b3 h3
  obtain ⟨p4, q4, r4, s4⟩ := byte_o b4 h4
  have e1 : o1 6148914691236517205 (b0 + 256 * (b1 + 256 * (b2 + 256 * (b3 + 256 * b4)))) = o1 85 b0 + 256 * (o1 85 b1 + 256 * (o1 85 b2 + 256 * (o1 85 b3 + 256 * o1 85 b4))) := by
    rw [show 6148914691236517205 = 85 + 256 * 24019198012642645 from rfl, o1_step h0, show 24019198012642645 = 85 + 256 * 93824992236885 from rfl, o1_step h1, show 93824992236885 = 85 + 256 * 366503875925 from rfl, o1_step h2, show 366503875925 = 85 + 256 * 1431655765 from rfl, o1_step h3, show 1431655765 = 85 + 256 * 5592405 from rfl, o1_last h4]
  have e2 : o2 3689348814741910323 (o1 85 b0 + 256 * (o1 85 b1 + 256 * (o1 85 b2 + 256 * (o1 85 b3 + 256 * o1 85 b4)))) = o2 51 (o1 85 b0) + 256 * (o2 51 (o1 85 b1) + 256 * (o2 51 (o1 85 b2) + 256 * (o2 51 (o1 85 b3) + 256 * o2 51 (o1 85 b4)))) := by
    rw [show 3689348814741910323 = 51 + 256 * 14411518807585587 from rfl, o2_step p0, show 14411518807585587 = 51 + 256 * 56294995342131 from rfl, o2_step p1, show 56294995342131 = 51 + 256 * 219902325555 from rfl, o2_step p2, show 219902325555 = 51 + 256 * 858993459 from rfl, o2_step p3, show 858993459 = 51 + 256 * 3355443 from rfl]
    rw [o2_last p4]
  rw [e1, e2]
  generalize o2 51 (o1 85 b0) = x0 at *
  generalize o2 51 (o1 85 b1) = x1 at *
  generalize o2 51 (o1 85 b2) = x2 at *
  generalize o2 51 (o1 85 b3) = x3 at *
  generalize o2 51 (o1 85 b4) = x4 at *
  rw [show 1085102592571150095 = 15 + 256 * 4238682002231055 from rfl, o3_step q0 (by omega), show 4238682002231055 = 15 + 256 * 16557351571215 from rfl, o3_step q1 (by omega), show 16557351571215 = 15 + 256 * 64677154575 from rfl, o3_step q2 (by omega), show 64677154575 = 15 + 256 * 252645135 from rfl, o3_step q3 (by omega), show 252645135 = 15 + 256 * 986895 from rfl]
  rw [o3_last q4, s0, s1, s2, s3, s4]
theorem fold_y {x c0 c1 c2 c3 c4 : Nat} (h0 : c0 ≤ 8) (hx : x = c0 + 256 * c1 + 65536 * c2 + 16777216 * c3 + 4294967296 * c4) : x + x / 256 = (c0 + c1) + 256 * (c1 + c2) + 65536 * (c2 + c3) + 16777216 * (c3 + c4) + 4294967296 * c4 := by
  have : x / 256 = c1 + 256 * c2 + 65536 * c3 + 16777216 * c4 := by omega
  omega
theorem fold_z {y d0 d1 d2 d3 d4 : Nat} (h0 : d0 ≤ 16) (h1 : d1 ≤ 16) (hy : y = d0 + 256 * d1 + 65536 * d2 + 16777216 * d3 + 4294967296 * d4) : y + y / 65536 = (d0 + d2) + 256 * (d1 + d3) + 65536 * (d2 + d4) + 16777216 * d3 + 4294967296 * d4 := by
  have : y / 65536 = d2 + 256 * d3 + 65536 * d4 := by omega
  omega
theorem fold_t {z f0 f1 f2 f3 f4 : Nat} (h0 : f0 ≤ 32) (h1 : f1 ≤ 32) (h2 : f2 ≤ 32) (h3 : f3 ≤ 32) (hz : z = f0 + 256 * f1 + 65536 * f2 + 16777216 * f3 + 4294967296 * f4) : z / 4294967296 = f4 := by omega
theorem fold_m {t f0 f1 f2 f3 f4 : Nat} (h : f0 + f4 < 128) (ht : t = f0 + 256 * f1 + 65536 * f2 + 16777216 * f3 + 4294967296 * f4 + f4) : t % 128 = f0 + f4 := by omega
theorem onesE_fold {c0 c1 c2 c3 c4 : Nat} (h0 : c0 ≤ 8) (h1 : c1 ≤ 8) (h2 : c2 ≤ 8) (h3 : c3 ≤ 8) (h4 : c4 ≤ 8) :
    bits .and .i64 (wrap64 (onesE6 (onesE5 (onesE4 ((c0 + 256 * (c1 + 256 * (c2 + 256 * (c3 + 256 * c4))) : Nat) : Int))))) 127 = ((c0 + c1 + c2 + c3 + c4 : Nat) : Int) := by
  obtain ⟨x, hx⟩ : ∃ x, x = c0 + 256 * (c1 + 256 * (c2 + 256 * (c3 + 256 * c4))) := ⟨_, rfl⟩
  rw [← hx]
  have hx2 : x = c0 + 256 * c1 + 65536 * c2 + 16777216 * c3 + 4294967296 * c4 := by omega
  have ex : x ≤ 40000000000 := by omega
  clear hx
  have hy := fold_y h0 hx2
  have e4 : onesE4 (x : Int) = ((x + x / 256 : Nat) : Int) := by
    have hb : x / 256 ≤ x := Nat.div_le_self _ _
    unfold onesE4
    rw [show (x : Int) + (x : Int) / 256 = ((x + x / 256 : Nat) : Int) from rfl, u64_in _ (by omega)]
  obtain ⟨y, hyd⟩ : ∃ y, y = x + x / 256 := ⟨_, rfl⟩
  rw [← hyd] at hy e4
  have ey : y ≤ 80000000000 := by rw [hyd]; have := Nat.div_le_self x 256; omega
  clear hyd hx2 ex
  have hz := fold_z (y := y) (d0 := c0 + c1) (d1 := c1 + c2) (d2 := c2 + c3) (d3 := c3 + c4) (d4 := c4) (by omega) (by omega) hy
  have e5 : onesE5 (y : Int) = ((y + y / 65536 : Nat) : Int) := by
    have hb : y / 65536 ≤ y := Nat.div_le_self _ _
    unfold onesE5
    rw [show (y : Int) + (y : Int) / 65536 = ((y + y / 65536 : Nat) : Int) from rfl, u64_in _ (by omega)]
  obtain ⟨z, hzd⟩ : ∃ z, z = y + y / 65536 := ⟨_, rfl⟩
  rw [← hzd] at hz e5
  have ez : z ≤ 160000000000 := by rw [hzd]; have := Nat.div_le_self y 65536; omega
  clear hzd hy ey
  have ht := fold_t (z := z) (f0 := c0 + c1 + (c2 + c3)) (f1 := c1 + c2 + (c3 + c4)) (f2 := c2 + c3 + c4) (f3 := c3 + c4) (f4 := c4) (by omega) (by omega) (by omega) (by omega) hz
  have e6 : onesE6 (z : Int) = ((z + c4 : Nat) : Int) := by
    unfold onesE6
    rw [show (z : Int) + (z : Int) / 4294967296 = ((z + z / 4294967296 : Nat) : Int) from rfl, ht, u64_in _ (by omega)]
  have hm := fold_m (t := z + c4) (f0 := c0 + c1 + (c2 + c3)) (f1 := c1 + c2 + (c3 + c4)) (f2 := c2 + c3 + c4) (f3 := c3 + c4) (f4 := c4) (by omega) (by rw [← hz])
  rw [e4, e5, e6, IntWalk.wrap64_in _ ⟨by omega, by omega⟩, show (127 : Int) = ((127 : Nat) : Int) from rfl, i64_and_nat (z + c4) 127 (by omega) (by decide), show (127 : Nat) = 2 ^ 7 - 1 from rfl, Nat.and_two_pow_sub_one_eq_mod]
  rw [show (2 : Nat) ^ 7 = 128 from rfl, hm]
  congr 1
  omega
/-- the library's count is the number of bits -/
theorem onesOf_cnt {m : Nat} (hm : m < 2 ^ 36) : onesOf (m : Int) = (cntB m : Int) := by
  obtain ⟨b0, hb0⟩ : ∃ b, b = m % 256 := ⟨_, rfl⟩
  obtain ⟨b1, hb1⟩ : ∃ b, b = m / 256 % 256 := ⟨_, rfl⟩
  obtain ⟨b2, hb2⟩ : ∃ b, b = m / 65536 % 256 := ⟨_, rfl⟩
  obtain ⟨b3, hb3⟩ : ∃ b, b = m / 16777216 % 256 := ⟨_, rfl⟩
  obtain ⟨b4, hb4⟩ : ∃ b, b = m / 4294967296 := ⟨_, rfl⟩
  have hM : m = b0 + 256 * (b1 + 256 * (b2 + 256 * (b3 + 256 * b4))) := by omega
  have h0 : b0 < 256 := by omega
  have h1 : b1 < 256 := by omega
  have h2 : b2 < 256 := by omega
  have h3 : b3 < 256 := by omega
  have h4 : b4 < 16 := by omega
  have hc : cntB m = cntTo b0 8 + cntTo b1 8 + cntTo b2 8 + cntTo b3 8 + cntTo b4 8 := by
    unfold cntB
    have e := cnt_split (q := b1 + 256 * (b2 + 256 * (b3 + 256 * b4))) h0 28
    have e1 := cnt_split (q := b2 + 256 * (b3 + 256 * b4)) h1 20
    have e2 := cnt_split (q := b3 + 256 * b4) h2 12
    have e3 := cnt_split (q := b4) h3 4
    rw [cnt_four b4 h4] at e3
    rw [hM]
    simp only [Nat.reduceAdd] at e e1 e2 e3
    omega
  have hE1 : onesE1 (m : Int) = ((o1 6148914691236517205 m : Nat) : Int) := by
    unfold onesE1 o1
    have hl : m / 2 &&& 6148914691236517205 ≤ m / 2 := Nat.and_le_left
    have hl2 : m &&& 6148914691236517205 ≤ m := Nat.and_le_left
    rw [show (m : Int) / 2 = ((m / 2 : Nat) : Int) by omega, show (6148914691236517205 : Int) = ((6148914691236517205 : Nat) : Int) from rfl, u64_and_nat _ _ (by omega) (by decide), u64_and_nat _ _ (by omega) (by decide), ← Int.natCast_add, u64_in _ (by omega)]
  obtain ⟨x1, hx1⟩ : ∃ x, x = o1 6148914691236517205 m := ⟨_, rfl⟩
  have hx1b : x1 ≤ m / 2 + m := by rw [hx1]; unfold o1; exact Nat.add_le_add Nat.and_le_left Nat.and_le_left
  have hE2 : onesE2 (x1 : Int) = ((o2 3689348814741910323 x1 : Nat) : Int) := by
    unfold onesE2 o2
    have hl : x1 / 4 &&& 3689348814741910323 ≤ x1 / 4 := Nat.and_le_left
    have hl2 : x1 &&& 3689348814741910323 ≤ x1 := Nat.and_le_left
    rw [show (x1 : Int) / 4 = ((x1 / 4 : Nat) : Int) by omega, show (3689348814741910323 : Int) = ((3689348814741910323 : Nat) : Int) from rfl, u64_and_nat _ _ (by omega) (by decide), u64_and_nat _ _ (by omega) (by decide), ← Int.natCast_add, u64_in _ (by omega)]
  obtain ⟨x2, hx2⟩ : ∃ x, x = o2 3689348814741910323 x1 := ⟨_, rfl⟩
  have hx2b : x2 ≤ x1 / 4 + x1 := by rw [hx2]; unfold o2; exact Nat.add_le_add Nat.and_le_left Nat.and_le_left
  have hE3 : onesE3 (x2 : Int) = ((o3 1085102592571150095 x2 : Nat) : Int) := by
    unfold onesE3 o3
    rw [show (x2 : Int) / 16 + (x2 : Int) = ((x2 / 16 + x2 : Nat) : Int) by omega, u64_in _ (by omega), show (1085102592571150095 : Int) = ((1085102592571150095 : Nat) : Int) from rfl, u64_and_nat _ _ (by omega) (by decide)]
  unfold onesOf
  rw [hE1, ← hx1, hE2, ← hx2, hE3, hx2, hx1, hM, o_all h0 h1 h2 h3 (by omega), onesE_fold (cntTo_le 8) (cntTo_le 8) (cntTo_le 8) (cntTo_le 8) (cntTo_le 8), ← hM, hc]
end Go.Proofs.YtoccedebiacbiaaDoor

namespace Go.Proofs.YtoccedebiacbiaaDoor

/-- a largest packing of the placements; of equal ones, that with the earlier placements -/
def pk : List Nat → Nat → List Nat
  | [], _ => []
  | m :: A, u => if m &&& u ≠ 0 then pk A u else if (pk A u).length > (pk A (u ||| m)).length + 1 then pk A u else m :: pk A (u ||| m)
def pkN (A : List Nat) (i u : Nat) : Nat := (pk (A.drop i) u).length
theorem pk_drop {A : List Nat} {i m : Nat} (h : A[i]? = some m) : A.drop i = m :: A.drop (i + 1) := by
  obtain ⟨h1, h2⟩ := List.getElem?_eq_some_iff.1 h
  rw [List.drop_eq_getElem_cons h1, h2]
theorem pkN_end {A : List Nat} {i u : Nat} (h : i = A.length) : pkN A i u = 0 := by
  unfold pkN; rw [h, List.drop_length]; rfl
theorem pkN_le {A : List Nat} : ∀ u, (pk A u).length ≤ A.length := by
  induction A with
  | nil => intro u; exact Nat.le_refl _
  | cons m A ih =>
    intro u
    unfold pk
    split
    · have := ih u; simp only [List.length_cons]; omega
    · split
      · have := ih u; simp only [List.length_cons]; omega
      · have := ih (u ||| m); simp only [List.length_cons]; omega
theorem pkN_no {A : List Nat} {i u m : Nat} (h : A[i]? = some m) (hm : m &&& u ≠ 0) : pkN A i u = pkN A (i + 1) u := by
  unfold pkN; rw [pk_drop h, pk, if_pos hm]
theorem pkN_yes {A : List Nat} {i u m : Nat} (h : A[i]? = some m) (hm : m &&& u = 0) : pkN A i u = max (pkN A (i + 1) u) (1 + pkN A (i + 1) (u ||| m)) := by
  unfold pkN
  rw [pk_drop h, pk, if_neg (fun h2 => h2 hm)]
  split
  · omega
  · simp only [List.length_cons]; omega
/-- the program's choice -/
theorem pk_take {A : List Nat} {i u m : Nat} (h : A[i]? = some m) (hm : m &&& u = 0) (he : 1 + pkN A (i + 1) (u ||| m) = pkN A i u) : pk (A.drop i) u = m :: pk (A.drop (i + 1)) (u ||| m) := by
  rw [pkN_yes h hm] at he
  unfold pkN at he
  rw [pk_drop h, pk, if_neg (fun h2 => h2 hm), if_neg (by omega)]
theorem pk_leave {A : List Nat} {i u m : Nat} (h : A[i]? = some m) (he : m &&& u ≠ 0 ∨ 1 + pkN A (i + 1) (u ||| m) ≠ pkN A i u) : pk (A.drop i) u = pk (A.drop (i + 1)) u := by
  by_cases hm : m &&& u = 0
  · have he2 : 1 + pkN A (i + 1) (u ||| m) ≠ pkN A i u := he.resolve_left (fun h2 => h2 hm)
    rw [pkN_yes h hm] at he2
    unfold pkN at he2
    rw [pk_drop h, pk, if_neg (fun h2 => h2 hm), if_pos (by omega)]
  · rw [pk_drop h, pk, if_pos hm]
/-- the reference's loop: b is the best so far -/
def pkB (A : List Nat) (u : Nat) (b : List Nat) : List Nat := if (pk A u).length > b.length then pk A u else b
theorem pkB_start {A : List Nat} {u : Nat} : pkB A u [] = pk A u := by
  unfold pkB
  cases h : pk A u with
  | nil => rfl
  | cons x y => rfl
theorem pkB_end {A : List Nat} {i u : Nat} {b : List Nat} (h : i = A.length) : pkB (A.drop i) u b = b := by
  rw [h, List.drop_length]; rfl
theorem pkB_no {A : List Nat} {i u m : Nat} {b : List Nat} (h : A[i]? = some m) (hm : m &&& u ≠ 0) : pkB (A.drop i) u b = pkB (A.drop (i + 1)) u b := by
  unfold pkB; rw [pk_drop h, pk, if_pos hm]
theorem pkB_yes {A : List Nat} {i u m : Nat} {b : List Nat} (h : A[i]? = some m) (hm : m &&& u = 0) : pkB (A.drop i) u b = pkB (A.drop (i + 1)) u (if (m :: pk (A.drop (i + 1)) (u ||| m)).length > b.length then m :: pk (A.drop (i + 1)) (u ||| m) else b) := by
  have e : pk (A.drop i) u = if (pk (A.drop (i + 1)) u).length > (pk (A.drop (i + 1)) (u ||| m)).length + 1 then pk (A.drop (i + 1)) u else m :: pk (A.drop (i + 1)) (u ||| m) := by rw [pk_drop h, pk, if_neg (fun h2 => h2 hm)]
  unfold pkB
  rw [e]
  clear e
  generalize pk (A.drop (i + 1)) u = y
  generalize pk (A.drop (i + 1)) (u ||| m) = x
  by_cases h1 : y.length > x.length + 1
  · rw [if_pos h1]
    by_cases h2 : (m :: x).length > b.length
    · have h3 : x.length + 1 > b.length := h2
      rw [if_pos h2, if_pos (by omega), if_pos (by rw [List.length_cons]; omega)]
    · rw [if_neg h2]
  · rw [if_neg h1]
    by_cases h2 : (m :: x).length > b.length
    · rw [if_pos h2, if_neg (by rw [List.length_cons]; omega)]
    · have h3 : ¬ x.length + 1 > b.length := h2
      rw [if_neg h2, if_neg (by omega)]
/-- what is remembered is right -/
def PkM (A : List Nat) (l : List ((Int × Int) × Int)) : Prop := ∀ p ∈ l, ∃ i u : Nat, i ≤ A.length ∧ p = (((i : Int), (u : Int)), ((pkN A i u : Nat) : Int))
theorem PkM.snoc {A : List Nat} {l : List ((Int × Int) × Int)} {i u : Nat} (h : PkM A l) (hi : i ≤ A.length) : PkM A (l ++ [(((i : Int), (u : Int)), ((pkN A i u : Nat) : Int))]) := by
  intro p hp
  rcases List.mem_append.1 hp with hp | hp
  · exact h p hp
  · simp only [List.mem_singleton] at hp
    exact ⟨i, u, hi, hp⟩
def smlB (r : Reg) (ps : List (List Cell)) : Bool := (r.valid && arePcs ps) && decide (areaR r ≤ 12)
def blkB (A : List Nat) (m : Nat) : Bool := A.all fun x => decide (x &&& m ≠ 0)
theorem blkB_no {A : List Nat} {m i x : Nat} (h : A[i]? = some x) (hx : x &&& m = 0) : blkB A m = false := by
  unfold blkB
  rw [List.all_eq_false]
  exact ⟨x, List.mem_of_getElem? h, by simp [hx]⟩
theorem blkB_yes {A : List Nat} {m : Nat} (h : ∀ (i x : Nat), A[i]? = some x → x &&& m ≠ 0) : blkB A m = true := by
  unfold blkB
  rw [List.all_eq_true]
  intro x hx
  obtain ⟨i, hi⟩ := List.getElem?_of_mem hx
  simpa using h i x hi
end Go.Proofs.YtoccedebiacbiaaDoor

namespace Go.Proofs.YtoccedebiacbiaaDoor
open Go.RowKit

/-! placements are masks of cells of the region, and not 0 -/
theorem maskTo_bit {r : Reg} (h : r.Valid) : ∀ (k y x : Nat), y < k → x < r.w.toNat → (r.maskTo k).testBit (y * r.w.toNat + x) = (r.row y).testBit x
  | 0, y, x, hy, _ => absurd hy (Nat.not_lt_zero y)
  | k + 1, y, x, hy, hx => by
    rw [← Reg.maskTo_or h k, Nat.testBit_or]
    by_cases e : y = k
    · subst e
      have h1 : (r.maskTo y).testBit (y * r.w.toNat + x) = false := Nat.testBit_lt_two_pow (Nat.lt_of_lt_of_le (Reg.maskTo_lt h y) (Nat.pow_le_pow_right (by decide) (Nat.le_add_right _ _)))
      rw [h1, Nat.mul_comm (r.row y), Nat.testBit_two_pow_mul, Bool.false_or]
      have : y * r.w.toNat + x - y * r.w.toNat = x := by omega
      rw [this, decide_eq_true (Nat.le_add_right _ _), Bool.true_and]
    · have hyk : y < k := by omega
      rw [maskTo_bit h k y x hyk hx]
      have hlt : y * r.w.toNat + x < k * r.w.toNat := by
        have h2 : (y + 1) * r.w.toNat ≤ k * r.w.toNat := Nat.mul_le_mul_right _ hyk
        rw [Nat.add_mul] at h2
        omega
      rw [Nat.mul_comm (r.row k), Nat.testBit_two_pow_mul, decide_eq_false (by omega), Bool.false_and, Bool.or_false]
theorem has_bit {r : Reg} (h : r.Valid) {c : Cell} (hc : r.has c.x c.y = true) : r.mask.testBit (bitOf r c) = true := by
  obtain ⟨h1, h2, h3, h4⟩ := has_in hc
  unfold Reg.mask bitOf
  rw [maskTo_bit h _ _ _ (by omega) (by omega)]
  unfold Reg.has at hc
  exact (Bool.and_eq_true_iff.1 hc).2
theorem or_and_sub {n b M : Nat} (hn : n &&& M = n) (hb : M.testBit b = true) : (n ||| 2 ^ b) &&& M = n ||| 2 ^ b := by
  apply Nat.eq_of_testBit_eq
  intro i
  rw [Nat.testBit_and, Nat.testBit_or, Nat.testBit_two_pow]
  have h1 : (n.testBit i && M.testBit i) = n.testBit i := by rw [← Nat.testBit_and, hn]
  by_cases e : b = i
  · subst e; rw [hb]; simp
  · rw [decide_eq_false e, Bool.or_false, h1]
theorem maskFrom_sub {r : Reg} (hv : r.Valid) : ∀ {s : List Cell} {n m : Nat}, n &&& r.mask = n → maskFrom r n s = some m → m &&& r.mask = m ∧ n ≤ m ∧ (s ≠ [] → 0 < m)
  | [], n, m, hn, h => by injection h with h; subst h; exact ⟨hn, Nat.le_refl _, fun h => absurd rfl h⟩
  | c :: s, n, m, hn, h => by
    unfold maskFrom at h
    split at h
    · rename_i hc
      have h1 := maskFrom_sub hv (n := n + 2 ^ bitOf r c) (by rw [add_bit hc.2]; exact or_and_sub hn (has_bit hv hc.1)) h
      have := Nat.pow_pos (a := 2) (n := bitOf r c) (by decide)
      exact ⟨h1.1, by omega, fun _ => by omega⟩
    · cases h
theorem moveS_ne {s : List Cell} {x y : Int} (h : s ≠ []) : moveS s x y ≠ [] := by
  intro e
  have := congrArg List.length e
  unfold moveS at this
  simp at this
  exact h this
theorem allP_sub {r : Reg} (hv : r.Valid) {ps : List (List Cell)} (hp : arePcs ps = true) {n : Int} (h : n ∈ allP r ps) : n.toNat &&& r.mask = n.toNat ∧ 0 < n.toNat := by
  unfold allP at h
  rw [mem_srtU] at h
  obtain ⟨s, hs, h⟩ := List.mem_flatMap.1 h
  unfold plc at h
  rw [mem_srtU] at h
  unfold plcRaw rawT at h
  obtain ⟨t, ht, h⟩ := List.mem_flatMap.1 h
  obtain ⟨y, _, h⟩ := List.mem_flatMap.1 h
  obtain ⟨x, _, h⟩ := List.mem_flatMap.1 h
  unfold optI at h
  cases hm : maskS r (moveS t x y) with
  | none => rw [hm] at h; simp at h
  | some m =>
    rw [hm] at h
    simp at h
    subst h
    have h1 := maskFrom_sub hv (Nat.zero_and _) hm
    have hsh := List.all_eq_true.1 (Bool.and_eq_true_iff.1 (show (ps.all isShape && inR ps.length 1 5) = true from hp)).1 s hs
    obtain ⟨k, _, rfl⟩ := orients_row 8 t ht
    have hne : turnS k s ≠ [] := by
      have := shp_len hsh
      intro e
      have h2 : 0 < (sortC (s.map (carryC k))).length := sortC_pos (by rw [List.length_map]; omega)
      have h3 := congrArg List.length e
      unfold turnS corner at h3
      rw [shift_length, List.length_nil] at h3
      omega
    have := h1.2.2 (moveS_ne hne)
    exact ⟨by simpa using h1.1, by simpa using this⟩
theorem allN_sub {r : Reg} (hv : r.Valid) {ps : List (List Cell)} (hp : arePcs ps = true) : ∀ m ∈ allN r ps, m &&& r.mask = m ∧ 0 < m := by
  intro m hm
  obtain ⟨a, ha, rfl⟩ := List.mem_map.1 hm
  exact allP_sub hv hp ha
end Go.Proofs.YtoccedebiacbiaaDoor

namespace Go.Proofs.YtoccedebiacbiaaDoor
open Go.RowKit

/-- the set bits below k -/
def bitsTo (m : Nat) : Nat → List Nat
  | 0 => []
  | k + 1 => if m.testBit k = true then bitsTo m k ++ [k] else bitsTo m k
/-- the submasks of the bits below k -/
def subs (m : Nat) : Nat → List Nat
  | 0 => [0]
  | k + 1 => if m.testBit k = true then subs m k ++ (subs m k).map (· ||| 2 ^ k) else subs m k
def selTo (B : List Nat) (c : Nat) : Nat → Nat
  | 0 => 0
  | i + 1 => selTo B c i + if c.testBit i = true then 2 ^ B.getD i 0 else 0
def cntC (c : Nat) : Nat → Nat
  | 0 => 0
  | i + 1 => cntC c i + if c.testBit i = true then 1 else 0
theorem bitsTo_t {m k : Nat} (h : m.testBit k = true) : bitsTo m (k + 1) = bitsTo m k ++ [k] := by rw [bitsTo, if_pos h]
theorem bitsTo_f {m k : Nat} (h : m.testBit k = false) : bitsTo m (k + 1) = bitsTo m k := by rw [bitsTo, h]; simp
theorem subs_t {m k : Nat} (h : m.testBit k = true) : subs m (k + 1) = subs m k ++ (subs m k).map (· ||| 2 ^ k) := by rw [subs, if_pos h]
theorem subs_f {m k : Nat} (h : m.testBit k = false) : subs m (k + 1) = subs m k := by rw [subs, h]; simp
theorem selTo_pre {B B2 : List Nat} {c : Nat} : ∀ i, i ≤ B.length → selTo (B ++ B2) c i = selTo B c i
  | 0, _ => rfl
  | i + 1, h => by
    unfold selTo
    rw [selTo_pre i (by omega)]
    congr 1
    rw [List.getD_eq_getElem?_getD, List.getD_eq_getElem?_getD, List.getElem?_append_left (by omega)]
theorem selTo_code {B : List Nat} {c c2 : Nat} : ∀ i, (∀ j < i, c.testBit j = c2.testBit j) → selTo B c i = selTo B c2 i
  | 0, _ => rfl
  | i + 1, h => by
    unfold selTo
    rw [selTo_code i (fun j hj => h j (by omega)), h i (by omega)]
theorem cntC_code {c c2 : Nat} : ∀ i, (∀ j < i, c.testBit j = c2.testBit j) → cntC c i = cntC c2 i
  | 0, _ => rfl
  | i + 1, h => by
    unfold cntC
    rw [cntC_code i (fun j hj => h j (by omega)), h i (by omega)]
theorem cntC_le {c : Nat} : ∀ i, cntC c i ≤ i
  | 0 => Nat.le_refl _
  | i + 1 => by have := cntC_le (c := c) i; unfold cntC; split <;> omega
theorem cntC_full {n c : Nat} : ∀ i, cntC c i = i → ∀ j < i, c.testBit j = true
  | 0, _, j, hj => absurd hj (Nat.not_lt_zero _)
  | i + 1, h, j, hj => by
    have h1 := cntC_le (c := c) i
    unfold cntC at h
    split at h
    · rename_i hb
      by_cases e : j = i
      · subst e; exact hb
      · exact cntC_full (n := n) i (by omega) j (by omega)
    · omega
theorem cntTo_low {x b : Nat} : ∀ k, k ≤ b → cntTo (x + 2 ^ b) k = cntTo x k
  | 0, _ => rfl
  | k + 1, h => by
    have h1 : (x + 2 ^ b) / 2 ^ k % 2 = x / 2 ^ k % 2 := by
      obtain ⟨d, hd⟩ : ∃ d, b = k + 1 + d := ⟨b - (k + 1), by omega⟩
      rw [hd, Nat.pow_add, Nat.pow_succ, show 2 ^ k * 2 * 2 ^ d = 2 ^ k * (2 * 2 ^ d) by rw [Nat.mul_assoc], Nat.add_mul_div_left _ _ (Nat.pow_pos (by decide))]
      omega
    show cntTo (x + 2 ^ b) k + (x + 2 ^ b) / 2 ^ k % 2 = cntTo x k + x / 2 ^ k % 2
    rw [cntTo_low k (by omega), h1]
theorem cntTo_high {x k : Nat} (h : x < 2 ^ k) : ∀ d, cntTo x (k + d) = cntTo x k := cntTo_up (Nat.div_eq_of_lt h)
theorem cntB_add {x b : Nat} (h : x < 2 ^ b) (hb : b < 36) : cntB (x + 2 ^ b) = cntB x + 1 := by
  unfold cntB
  obtain ⟨d, hd⟩ : ∃ d, 36 = (b + 1) + d := ⟨36 - (b + 1), by omega⟩
  have hx : x < 2 ^ (b + 1) := by rw [Nat.pow_succ]; omega
  have hy : x + 2 ^ b < 2 ^ (b + 1) := by rw [Nat.pow_succ]; omega
  rw [hd, cntTo_high hx, cntTo_high hy]
  show cntTo (x + 2 ^ b) b + (x + 2 ^ b) / 2 ^ b % 2 = cntTo x b + x / 2 ^ b % 2 + 1
  rw [cntTo_low b (Nat.le_refl _), Nat.div_eq_of_lt h, show (x + 2 ^ b) / 2 ^ b = 1 by rw [Nat.add_div_right _ (Nat.pow_pos (by decide)), Nat.div_eq_of_lt h]]
theorem bitsTo_lt {m : Nat} : ∀ {k b : Nat}, b ∈ bitsTo m k → b < k
  | 0, b, h => by simp [bitsTo] at h
  | k + 1, b, h => by
    cases hb : m.testBit k
    · rw [bitsTo_f hb] at h; have := bitsTo_lt h; omega
    · rw [bitsTo_t hb] at h
      rcases List.mem_append.1 h with h | h
      · have := bitsTo_lt h; omega
      · simp at h; omega
theorem bitsTo_le {m : Nat} : ∀ k, (bitsTo m k).length ≤ k
  | 0 => Nat.le_refl _
  | k + 1 => by
    have := bitsTo_le (m := m) k
    cases hb : m.testBit k
    · rw [bitsTo_f hb]; omega
    · rw [bitsTo_t hb, List.length_append, List.length_singleton]; omega
theorem bitsTo_cnt {m : Nat} : ∀ k, (bitsTo m k).length = cntTo m k
  | 0 => rfl
  | k + 1 => by
    have hb2 : m / 2 ^ k % 2 = if m.testBit k = true then 1 else 0 := by
      have := Nat.testBit_eq_decide_div_mod_eq (x := m) (i := k)
      rw [this]
      have := Nat.mod_lt (m / 2 ^ k) (show 0 < 2 by decide)
      by_cases h : m / 2 ^ k % 2 = 1
      · simp [h]
      · simp [h]; omega
    show _ = cntTo m k + m / 2 ^ k % 2
    rw [hb2, ← bitsTo_cnt k]
    cases hb : m.testBit k
    · rw [bitsTo_f hb]; rfl
    · rw [bitsTo_t hb, List.length_append, List.length_singleton]; rfl
theorem subs_len {m : Nat} : ∀ k, (subs m k).length = 2 ^ (bitsTo m k).length
  | 0 => rfl
  | k + 1 => by
    cases hb : m.testBit k
    · rw [bitsTo_f hb, subs_f hb, subs_len k]
    · rw [bitsTo_t hb, subs_t hb, List.length_append, List.length_map, List.length_append, List.length_singleton, Nat.pow_succ, subs_len k]; omega
theorem subs_lt {m : Nat} : ∀ {k x : Nat}, x ∈ subs m k → x < 2 ^ k
  | 0, x, h => by simp [subs] at h; subst h; decide
  | k + 1, x, h => by
    have hp : 2 ^ k < 2 ^ (k + 1) := by rw [Nat.pow_succ]; have := Nat.pow_pos (a := 2) (n := k) (by decide); omega
    cases hb : m.testBit k
    · rw [subs_f hb] at h; have := subs_lt h; omega
    · rw [subs_t hb] at h
      rcases List.mem_append.1 h with h | h
      · have := subs_lt h; omega
      · obtain ⟨y, hy, rfl⟩ := List.mem_map.1 h
        have := subs_lt hy
        exact Nat.or_lt_two_pow (by omega) hp
theorem or_pow {x k : Nat} (h : x < 2 ^ k) : x ||| 2 ^ k = x + 2 ^ k := by
  have := Nat.two_pow_add_eq_or_of_lt h 1
  rw [Nat.mul_one] at this
  rw [Nat.or_comm, ← this, Nat.add_comm]
/-- the submask at a code is what the code picks; its bits are the code's -/
theorem subs_at {m : Nat} : ∀ k, k ≤ 36 → ∀ c, c < 2 ^ (bitsTo m k).length → (subs m k)[c]? = some (selTo (bitsTo m k) c (bitsTo m k).length) ∧ cntB (selTo (bitsTo m k) c (bitsTo m k).length) = cntC c (bitsTo m k).length
  | 0, _, c, h => by
    have h0 : c = 0 := by simp [bitsTo] at h; omega
    subst h0
    exact ⟨rfl, show cntB 0 = 0 by decide⟩
  | k + 1, hk, c, h => by
    cases hb : m.testBit k
    · rw [bitsTo_f hb, subs_f hb] at *
      exact subs_at k (by omega) c h
    · rw [bitsTo_t hb, subs_t hb] at *
      rw [List.length_append, List.length_singleton] at *
      have hl := subs_len (m := m) k
      have hgd : (bitsTo m k ++ [k]).getD (bitsTo m k).length 0 = k := by rw [List.getD_eq_getElem?_getD, List.getElem?_append_right (Nat.le_refl _), Nat.sub_self]; rfl
      by_cases hc : c < 2 ^ (bitsTo m k).length
      · have ih := subs_at k (by omega) c hc
        have hbit : c.testBit (bitsTo m k).length = false := Nat.testBit_lt_two_pow hc
        have e1 : selTo (bitsTo m k ++ [k]) c ((bitsTo m k).length + 1) = selTo (bitsTo m k) c (bitsTo m k).length := by
          show selTo _ c (bitsTo m k).length + (if c.testBit (bitsTo m k).length = true then _ else 0) = _
          rw [hbit, selTo_pre _ (Nat.le_refl _)]; rfl
        have e2 : cntC c ((bitsTo m k).length + 1) = cntC c (bitsTo m k).length := by
          show cntC c _ + (if c.testBit (bitsTo m k).length = true then 1 else 0) = _
          rw [hbit]; rfl
        rw [e1, e2, List.getElem?_append_left (by rw [hl]; exact hc)]
        exact ih
      · obtain ⟨c2, hc2⟩ : ∃ c2, c = c2 + 2 ^ (bitsTo m k).length := ⟨c - 2 ^ (bitsTo m k).length, by omega⟩
        have hc3 : c2 < 2 ^ (bitsTo m k).length := by rw [Nat.pow_succ] at h; omega
        have ih := subs_at k (by omega) c2 hc3
        have hor : c = c2 ||| 2 ^ (bitsTo m k).length := by rw [or_pow hc3]; exact hc2
        have hbit : c.testBit (bitsTo m k).length = true := by rw [hor, Nat.testBit_or, Nat.testBit_two_pow_self, Bool.or_true]
        have hlow : ∀ j < (bitsTo m k).length, c.testBit j = c2.testBit j := by
          intro j hj
          rw [hor, Nat.testBit_or, Nat.testBit_two_pow, decide_eq_false (by omega), Bool.or_false]
        have hs : selTo (bitsTo m k) c2 (bitsTo m k).length < 2 ^ k := subs_lt (List.mem_of_getElem? ih.1)
        have e1 : selTo (bitsTo m k ++ [k]) c ((bitsTo m k).length + 1) = selTo (bitsTo m k) c2 (bitsTo m k).length + 2 ^ k := by
          show selTo _ c (bitsTo m k).length + (if c.testBit (bitsTo m k).length = true then _ else 0) = _
          rw [if_pos hbit, hgd, selTo_pre _ (Nat.le_refl _), selTo_code _ hlow]
        have e2 : cntC c ((bitsTo m k).length + 1) = cntC c2 (bitsTo m k).length + 1 := by
          show cntC c _ + (if c.testBit (bitsTo m k).length = true then 1 else 0) = _
          rw [if_pos hbit, cntC_code _ hlow]
        rw [e1, e2, List.getElem?_append_right (by rw [hl]; omega), hl, List.getElem?_map, show c - 2 ^ (bitsTo m k).length = c2 by omega, ih.1, cntB_add hs (by omega), ih.2]
        exact ⟨by rw [Option.map_some, or_pow hs], rfl⟩
/-! the cells of a region are the bits of its mask -/
theorem bitsTo_add {m a : Nat} : ∀ b, bitsTo m (a + b) = bitsTo m a ++ ((List.range b).filter fun x => m.testBit (a + x)).map (a + ·)
  | 0 => by simp
  | b + 1 => by
    show bitsTo m (a + b + 1) = _
    rw [List.range_succ, List.filter_append, List.map_append, ← List.append_assoc, ← bitsTo_add b]
    cases h : m.testBit (a + b)
    · rw [bitsTo_f h]; simp [h]
    · rw [bitsTo_t h]; simp [h]
theorem bitsTo_top {m k : Nat} (h : m < 2 ^ k) : ∀ d, bitsTo m (k + d) = bitsTo m k
  | 0 => rfl
  | d + 1 => by
    have : m.testBit (k + d) = false := Nat.testBit_lt_two_pow (Nat.lt_of_lt_of_le h (Nat.pow_le_pow_right (by decide) (Nat.le_add_right _ _)))
    rw [show k + (d + 1) = k + d + 1 from rfl, bitsTo_f this, bitsTo_top h d]
theorem subs_top {m k : Nat} (h : m < 2 ^ k) : ∀ d, subs m (k + d) = subs m k
  | 0 => rfl
  | d + 1 => by
    have : m.testBit (k + d) = false := Nat.testBit_lt_two_pow (Nat.lt_of_lt_of_le h (Nat.pow_le_pow_right (by decide) (Nat.le_add_right _ _)))
    rw [show k + (d + 1) = k + d + 1 from rfl, subs_f this, subs_top h d]
theorem cells_bitsTo {r : Reg} (hv : r.Valid) : ∀ k, k ≤ r.rows.length → (r.cellsTo k).map (bitOf r) = bitsTo r.mask (k * r.w.toNat)
  | 0, _ => by simp [Reg.cellsTo, bitsTo]
  | k + 1, h => by
    rw [Reg.cellsTo_succ, List.map_append, cells_bitsTo hv k (by omega), Nat.add_mul, Nat.one_mul, bitsTo_add]
    congr 1
    unfold Reg.rowTo
    rw [List.map_map]
    have hw : ((r.w.toNat : Nat) : Int) = r.w := by have := hv.1; omega
    have hf : ∀ x ∈ List.range r.w.toNat, r.has (x : Int) (k : Int) = r.mask.testBit (k * r.w.toNat + x) := by
      intro x hx
      have hx2 := List.mem_range.1 hx
      rw [Reg.has_eq (by omega) (by omega)]
      unfold Reg.mask
      rw [maskTo_bit hv _ _ _ (by omega) hx2]
    rw [List.filter_congr hf]
    refine List.map_congr_left fun x hx => ?_
    unfold bitOf
    simp
theorem cells_bits {r : Reg} (hv : r.Valid) : r.cells.map (bitOf r) = bitsTo r.mask 36 := by
  have h1 := cells_bitsTo hv r.rows.length (Nat.le_refl _)
  have hle : r.rows.length * r.w.toNat ≤ 36 := by
    have a := hv.1
    have b := hv.2.1
    have c := hv.2.2.2.1
    have h2 : r.rows.length * r.w.toNat ≤ 6 * 6 := Nat.mul_le_mul c (by omega)
    omega
  obtain ⟨d, hd⟩ : ∃ d, 36 = r.rows.length * r.w.toNat + d := ⟨36 - r.rows.length * r.w.toNat, by omega⟩
  rw [hd, bitsTo_top (by unfold Reg.mask; exact Reg.maskTo_lt hv _), ← h1]
  rfl
/-! the choice -/
/-- the reference's loop: the best so far, its size -/
def fbS (A : List Nat) : List Nat → Nat × Nat → Nat × Nat
  | [], s => s
  | m :: S, s => fbS A S (if cntB m < s.2 ∧ blkB A m = true then (m, cntB m) else s)
/-- the program's loop: the best so far, if one was found -/
def fbI (A : List Nat) : List Nat → Nat × Bool → Nat × Bool
  | [], s => s
  | m :: S, s => fbI A S (if (s.2 = false ∨ cntB m < cntB s.1) ∧ blkB A m = true then (m, true) else s)
theorem fbI_found {A : List Nat} : ∀ (S : List Nat) (b : Nat), fbI A S (b, true) = ((fbS A S (b, cntB b)).1, true)
  | [], b => rfl
  | m :: S, b => by
    unfold fbI fbS
    by_cases h : cntB m < cntB b ∧ blkB A m = true
    · rw [if_pos ⟨.inr h.1, h.2⟩, if_pos h]; exact fbI_found S m
    · rw [if_neg (fun h2 => h ⟨h2.1.resolve_left (by simp), h2.2⟩), if_neg h]; exact fbI_found S b
theorem fb_same {A : List Nat} {f : Nat} (hf : blkB A f = true) : ∀ (S : List Nat), (∀ m ∈ S, cntB m < cntB f) → fbI A (S ++ [f]) (0, false) = ((fbS A (S ++ [f]) (f, cntB f)).1, true)
  | [], _ => by
    show fbI A [f] (0, false) = ((fbS A [f] (f, cntB f)).1, true)
    unfold fbI fbS
    rw [if_pos ⟨.inl rfl, hf⟩, if_neg (fun h => Nat.lt_irrefl _ h.1)]
    rfl
  | m :: S, h => by
    show fbI A (m :: (S ++ [f])) (0, false) = ((fbS A (m :: (S ++ [f])) (f, cntB f)).1, true)
    unfold fbI fbS
    by_cases hb : blkB A m = true
    · rw [if_pos ⟨.inl rfl, hb⟩, if_pos ⟨h m (by simp), hb⟩]
      exact fbI_found _ m
    · rw [if_neg (fun h2 => hb h2.2), if_neg (fun h2 => hb h2.2)]
      exact fb_same hf S (fun x hx => h x (by simp [hx]))
theorem fbS_cnt {A : List Nat} : ∀ (S : List Nat) (b : Nat), fbS A S (b, cntB b) = ((fbS A S (b, cntB b)).1, cntB (fbS A S (b, cntB b)).1)
  | [], b => rfl
  | m :: S, b => by
    unfold fbS
    by_cases h : cntB m < cntB b ∧ blkB A m = true
    · rw [if_pos h]; exact fbS_cnt S m
    · rw [if_neg h]; exact fbS_cnt S b
theorem fbS_step {A S : List Nat} {i m : Nat} {s : Nat × Nat} (h : S[i]? = some m) : fbS A (S.drop i) s = fbS A (S.drop (i + 1)) (if cntB m < s.2 ∧ blkB A m = true then (m, cntB m) else s) := by
  rw [pk_drop h]; rfl
theorem fbI_step {A S : List Nat} {i m : Nat} {s : Nat × Bool} (h : S[i]? = some m) : fbI A (S.drop i) s = fbI A (S.drop (i + 1)) (if (s.2 = false ∨ cntB m < cntB s.1) ∧ blkB A m = true then (m, true) else s) := by
  rw [pk_drop h]; rfl
/-- the last submask is the mask -/
theorem subs_last {m : Nat} : ∀ k, k ≤ 36 → ∃ S, subs m k = S ++ [m % 2 ^ k] ∧ ∀ x ∈ S, cntB x < cntB (m % 2 ^ k)
  | 0, _ => ⟨[], by simp [subs, Nat.mod_one], fun x hx => by simp at hx⟩
  | k + 1, hk => by
    obtain ⟨S, hS, hc⟩ := subs_last (m := m) k (by omega)
    have hlt : m % 2 ^ k < 2 ^ k := Nat.mod_lt _ (Nat.pow_pos (by decide))
    cases hb : m.testBit k
    · have e : m % 2 ^ (k + 1) = m % 2 ^ k := by
        apply Nat.eq_of_testBit_eq
        intro i
        rw [Nat.testBit_mod_two_pow, Nat.testBit_mod_two_pow]
        by_cases h1 : i < k
        · simp [h1, Nat.lt_succ_of_lt h1]
        · by_cases h2 : i = k
          · subst h2; simp [hb]
          · simp [h1, show ¬ i < k + 1 by omega]
      rw [subs_f hb, e]
      exact ⟨S, hS, hc⟩
    · have e : m % 2 ^ (k + 1) = m % 2 ^ k ||| 2 ^ k := by
        apply Nat.eq_of_testBit_eq
        intro i
        rw [Nat.testBit_or, Nat.testBit_mod_two_pow, Nat.testBit_mod_two_pow, Nat.testBit_two_pow]
        by_cases h1 : i < k
        · simp [h1, Nat.lt_succ_of_lt h1, show ¬ k = i by omega]
        · by_cases h2 : i = k
          · subst h2; simp [hb]
          · simp [h1, show ¬ i < k + 1 by omega, show ¬ k = i by omega]
      refine ⟨subs m k ++ S.map (· ||| 2 ^ k), ?_, ?_⟩
      · rw [subs_t hb, e]
        conv => lhs; rw [hS]
        rw [List.map_append, ← List.append_assoc, hS]
        rfl
      · have hall : ∀ x ∈ subs m k, cntB x ≤ cntB (m % 2 ^ k) ∧ x < 2 ^ k := by
          intro x hx
          refine ⟨?_, subs_lt hx⟩
          rw [hS] at hx
          rcases List.mem_append.1 hx with hx | hx
          · exact Nat.le_of_lt (hc x hx)
          · simp at hx; subst hx; exact Nat.le_refl _
        intro x hx
        rw [e, or_pow hlt, cntB_add hlt (by omega)]
        rcases List.mem_append.1 hx with hx | hx
        · have := (hall x hx).1; omega
        · obtain ⟨y, hy, rfl⟩ := List.mem_map.1 hx
          have h1 : y < 2 ^ k := subs_lt (by rw [hS]; exact List.mem_append_left _ hy)
          have h2 := hc y hy
          show cntB (y ||| 2 ^ k) < _
          rw [or_pow h1, cntB_add h1 (by omega)]
          omega
/-- the fewest blockers of a region -/
def fbM (r : Reg) (ps : List (List Cell)) : Nat := if smlB r ps = true then (fbS (allN r ps) (subs r.mask 36) (r.mask, cntB r.mask)).1 else 0
theorem blkB_mask {r : Reg} (hv : r.Valid) {ps : List (List Cell)} (hp : arePcs ps = true) : blkB (allN r ps) r.mask = true :=
  blkB_yes fun i x hx => by
    have := allN_sub hv hp x (List.mem_of_getElem? hx)
    rw [this.1]
    omega
theorem fbI_is {r : Reg} (hv : r.Valid) {ps : List (List Cell)} (hp : arePcs ps = true) : fbI (allN r ps) (subs r.mask 36) (0, false) = ((fbS (allN r ps) (subs r.mask 36) (r.mask, cntB r.mask)).1, true) := by
  obtain ⟨S, hS, hc⟩ := subs_last (m := r.mask) 36 (Nat.le_refl _)
  have hm : r.mask % 2 ^ 36 = r.mask := Nat.mod_eq_of_lt (Reg.mask_lt hv)
  rw [hm] at hS hc
  rw [hS]
  exact fb_same (blkB_mask hv hp) S hc
theorem cells_cnt {r : Reg} (hv : r.Valid) : r.cells.length = cntB r.mask := by
  have := congrArg List.length (cells_bits hv)
  rw [List.length_map, bitsTo_cnt] at this
  exact this
end Go.Proofs.YtoccedebiacbiaaDoor
