
/-
  The walks over regions: masks.
-/
import Derived.Test.YtjmeplchabehfaaRegB
namespace Go.Proofs.Ytjmeplchabehfaa
open Go.RowKit

theorem isMask_step {a b : Nat} (ha : a < 9223372036854775808) (hb : b < 9223372036854775808) : (bits .andNot .i64 (a : Int) (b : Int) == 0) = (a &&& b == a) := by
  rw [i64_andNot_nat a b ha hb, Bool.eq_iff_iff]
  simp only [beq_iff_eq]
  rw [← andNot_zero a b (by omega) (by omega)]
  omega

def sameGrid (a b : Reg) : Bool := a.valid && b.valid && decide (a.w = b.w) && decide (a.rows.length = b.rows.length)
end Go.Proofs.Ytjmeplchabehfaa
