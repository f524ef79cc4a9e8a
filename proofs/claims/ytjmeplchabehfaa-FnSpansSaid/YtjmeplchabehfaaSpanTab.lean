
/-
  The walk of the library's count of ones, at small numbers. The regions that span, counted by their cells, in plain Lean. No program in sight.
-/
import Derived.Test.YtjmeplchabehfaaProg
import Derived.Test.YtjmeplchabehfaaCommon
import Derived.Test.YtjmeplchabehfaaSep
import Derived.Test.YtjmeplchabehfaaBfs
import Derived.Test.YtjmeplchabehfaaWayS
namespace Go.Proofs.Ytjmeplchabehfaa
open Go.RowKit

def onesE1 (m : Int) : Int := IntKind.u64.wrap (bits .and .u64 (m / 2) 6148914691236517205 + bits .and .u64 m 6148914691236517205)
def onesE2 (x : Int) : Int := IntKind.u64.wrap (bits .and .u64 (x / 4) 3689348814741910323 + bits .and .u64 x 3689348814741910323)
def onesE3 (x : Int) : Int := bits .and .u64 (IntKind.u64.wrap (x / 16 + x)) 1085102592571150095
def onesE4 (x : Int) : Int := IntKind.u64.wrap (x + x / 256)
def onesE5 (x : Int) : Int := IntKind.u64.wrap (x + x / 65536)
def onesE6 (x : Int) : Int := IntKind.u64.wrap (x + x / 4294967296)
def onesOf (m : Int) : Int := bits .and .i64 (wrap64 (onesE6 (onesE5 (onesE4 (onesE3 (onesE2 (onesE1 m))))))) 127
/-- how many of the bits below twelve are set -/
def popc (m : Nat) : Nat := ((List.range 12).filter fun i => m.testBit i).length
theorem onesOf_small : ∀ a, a < 64 → ∀ b, b < 64 → onesOf ((a * 64 + b : Nat) : Int) = (popc (a * 64 + b) : Int) := by decide +kernel
theorem onesOf_popc {m : Nat} (h : m < 4096) : onesOf (m : Int) = (popc m : Int) := by
  have := onesOf_small (m / 64) (by omega) (m % 64) (by omega)
  rwa [show m / 64 * 64 + m % 64 = m by omega] at this
theorem popc_le (m : Nat) : popc m ≤ 12 := by unfold popc; exact Nat.le_trans (List.length_filter_le _ _) (by simp)

set_option maxRecDepth 100000 in
set_option maxHeartbeats 800000 in
theorem ones64_c (m : Nat) (w : World) (h : m < 4096) :
    Calls Try.prog 130 #[.int .u64 (m : Int)] w fun e w' => e = .returned (.int .i64 (popc m : Int)) ∧ w = w' := by
  rw [← onesOf_popc h]
  go_enter Try.func130, Try.ntmps130
  go_wp2
  go_ret
  exact ⟨rfl, rfl⟩
set_option maxRecDepth 100000 in
set_option maxHeartbeats 800000 in
theorem ones_c (m : Nat) (w : World) (h : m < 4096) :
    Calls Try.prog 105 #[.int .u64 (m : Int)] w fun e w' => e = .returned (.int .i64 (popc m : Int)) ∧ w = w' := by
  go_enter Try.func105, Try.ntmps105
  go_wp2_with fail
  refine (ones64_c m _ h).mono ?_
  rintro e w' ⟨rfl, rfl⟩
  go_wp2
  go_ret
  exact ⟨rfl, rfl⟩
end Go.Proofs.Ytjmeplchabehfaa

namespace Go.Proofs.Ytjmeplchabehfaa
open Go.RowKit

def maskRow (w m y : Nat) : Int := ((m / 2 ^ (y * w) % 2 ^ w : Nat) : Int)
def regTo (w m k : Nat) : List Int := (List.range k).map (maskRow w m)
def regOf (w h m : Nat) : Reg := ⟨(w : Int), regTo w m h⟩
theorem regTo_succ {w m k : Nat} : regTo w m (k + 1) = regTo w m k ++ [maskRow w m k] := by simp [regTo, List.range_succ]
theorem regTo_length {w m k : Nat} : (regTo w m k).length = k := by simp [regTo]
def bump (l : List Int) (i : Nat) : List Int := l.set i (l.getD i 0 + 1)
theorem bump_length {l : List Int} {i : Nat} : (bump l i).length = l.length := by simp [bump]
def tabTo (w h : Nat) : Nat → List Int
  | 0 => List.replicate (w * h + 1) 0
  | k + 1 => if (regOf w h k).spanWay.isSome then bump (tabTo w h k) (popc k) else tabTo w h k
def spanTab (w h : Nat) : List Int := tabTo w h (2 ^ (w * h))
theorem tabTo_length {w h : Nat} : ∀ k, (tabTo w h k).length = w * h + 1
  | 0 => by simp [tabTo]
  | k + 1 => by
    have := tabTo_length (w := w) (h := h) k
    unfold tabTo
    split
    · rw [bump_length, this]
    · exact this
theorem tabTo_bd {w h : Nat} : ∀ k, ∀ a ∈ tabTo w h k, 0 ≤ a ∧ a ≤ k
  | 0, a, ha => by
    simp [tabTo] at ha
    omega
  | k + 1, a, ha => by
    have ih := tabTo_bd (w := w) (h := h) k
    unfold tabTo at ha
    split at ha
    · rcases List.mem_or_eq_of_mem_set ha with h1 | h1
      · have := ih a h1; omega
      · have hb : 0 ≤ (tabTo w h k).getD (popc k) 0 ∧ (tabTo w h k).getD (popc k) 0 ≤ k := by
          by_cases hlt : popc k < (tabTo w h k).length
          · have := ih _ (List.getElem_mem hlt)
            simpa [List.getD, List.getElem?_eq_getElem hlt] using this
          · simp [List.getD, List.getElem?_eq_none (Nat.le_of_not_lt hlt)]
        omega
    · have := ih a ha; omega
/-- ones, counted one by one -/
def onesLoop : Nat → Nat → Nat
  | 0, _ => 0
  | f + 1, m => m % 2 + onesLoop f (m / 2)
theorem onesLoop_small : ∀ a, a < 64 → ∀ b, b < 64 → onesLoop 12 (a * 64 + b) = popc (a * 64 + b) := by decide +kernel
theorem onesLoop_popc {m : Nat} (h : m < 4096) : onesLoop 12 m = popc m := by
  have := onesLoop_small (m / 64) (by omega) (m % 64) (by omega)
  rwa [show m / 64 * 64 + m % 64 = m by omega] at this
theorem onesLoop_zero : ∀ t, onesLoop t 0 = 0
  | 0 => rfl
  | t + 1 => by unfold onesLoop; rw [Nat.zero_mod, Nat.zero_div, onesLoop_zero t]
theorem and_one {x : Nat} (h : x < 9223372036854775808) : bits .and .i64 (x : Int) 1 = ((x % 2 : Nat) : Int) := by
  have := i64_and_nat x 1 h (by decide)
  rw [show (1 : Nat) = 2 ^ 1 - 1 from rfl, Nat.and_two_pow_sub_one_eq_mod] at this
  simpa using this
theorem popc_lt {w h m : Nat} (h12 : w * h ≤ 12) (hm : m < 2 ^ (w * h)) : popc m < w * h + 1 := by
  unfold popc
  have : ((List.range 12).filter fun i => m.testBit i) = ((List.range (w * h)).filter fun i => m.testBit i) := by
    have hr : List.range 12 = List.range (w * h) ++ (List.range (12 - w * h)).map (w * h + ·) := by rw [← List.range_add]; congr 1; omega
    rw [hr, List.filter_append]
    have : ((List.range (12 - w * h)).map (w * h + ·)).filter (fun i => m.testBit i) = [] := by
      rw [List.filter_eq_nil_iff]
      intro i hi
      obtain ⟨j, _, rfl⟩ := List.mem_map.1 hi
      simp
      exact Nat.testBit_lt_two_pow (Nat.lt_of_lt_of_le hm (Nat.pow_le_pow_right (by decide) (by omega)))
    rw [this, List.append_nil]
  rw [this]
  have := List.length_filter_le (fun i => m.testBit i) (List.range (w * h))
  simp at this
  omega
end Go.Proofs.Ytjmeplchabehfaa
