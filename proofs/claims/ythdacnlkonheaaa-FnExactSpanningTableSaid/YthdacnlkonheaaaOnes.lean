
/-
  The walk of the library's count of ones, at small numbers.
-/
import Derived.Test.YthdacnlkonheaaaProg
import Derived.Test.YthdacnlkonheaaaCommon
import Derived.Test.YthdacnlkonheaaaSep
namespace Go.Proofs.Ythdacnlkonheaaa
open Go.RowKit

def onesE1 (m : Int) : Int := IntKind.u64.wrap (bits .and .u64 (m / 2) 6148914691236517205 + bits .and .u64 m 6148914691236517205)
def onesE2 (x : Int) : Int := IntKind.u64.wrap (bits .and .u64 (x / 4) 3689348814741910323 + bits .and .u64 x 3689348814741910323)
def onesE3 (x : Int) : Int := bits .and .u64 (IntKind.u64.wrap (x / 16 + x)) 1085102592571150095
def onesE4 (x : Int) : Int := IntKind.u64.wrap (x + x / 256)
def onesE5 (x : Int) : Int := IntKind.u64.wrap (x + x / 65536)
def onesE6 (x : Int) : Int := IntKind.u64.wrap (x + x / 4294967296)
def onesOf (m : Int) : Int := bits .and .i64 (wrap64 (onesE6 (onesE5 (onesE4 (onesE3 (onesE2 (onesE1 m))))))) 127
/-- how many of the bits below twelve are set -/
def popc (m : Nat) : Nat := ((List.range 12).filter fun i => m.testBit i).length
theorem onesOf_small : ∀ a, a < 64 → ∀ b, b < 64 → onesOf ((a * 64 + b : Nat) : Int) = (popc (a * 64 + b) : Int) := by decide +kernel
theorem onesOf_popc {m : Nat} (h : m < 4096) : onesOf (m : Int) = (popc m : Int) := by
  have := onesOf_small (m / 64) (by omega) (m % 64) (by omega)
  rwa [show m / 64 * 64 + m % 64 = m by omega] at this
theorem popc_le (m : Nat) : popc m ≤ 12 := by unfold popc; exact Nat.le_trans (List.length_filter_le _ _) (by simp)

set_option maxRecDepth 100000 in
set_option maxHeartbeats 800000 in
theorem ones64_c (m : Nat) (w : World) (h : m < 4096) :
    Calls Try.prog 130 #[.int .u64 (m : Int)] w fun e w' => e = .returned (.int .i64 (popc m : Int)) ∧ w = w' := by
  rw [← onesOf_popc h]
  go_enter Try.func130, Try.ntmps130
  go_wp2
  go_ret
  exact ⟨rfl, rfl⟩
set_option maxRecDepth 100000 in
set_option maxHeartbeats 800000 in
theorem ones_c (m : Nat) (w : World) (h : m < 4096) :
    Calls Try.prog 84 #[.int .u64 (m : Int)] w fun e w' => e = .returned (.int .i64 (popc m : Int)) ∧ w = w' := by
  go_enter Try.func84, Try.ntmps84
  go_wp2_with fail
  refine (ones64_c m _ h).mono ?_
  rintro e w' ⟨rfl, rfl⟩
  go_wp2
  go_ret
  exact ⟨rfl, rfl⟩
end Go.Proofs.Ythdacnlkonheaaa
