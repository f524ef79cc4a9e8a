
/-
  The ends of the table of regions that span: none without cells, one with all.
-/
import Derived.Test.YtjmeplchabehfaaSpanTab
namespace Go.Proofs.Ytjmeplchabehfaa
open Go.RowKit

theorem popc_zero_small : ∀ a, a < 64 → ∀ b, b < 64 → popc (a * 64 + b) = 0 → a * 64 + b = 0 := by decide +kernel
theorem popc_zero {m : Nat} (h : m < 4096) (hp : popc m = 0) : m = 0 := by
  have := popc_zero_small (m / 64) (by omega) (m % 64) (by omega)
  rw [show m / 64 * 64 + m % 64 = m by omega] at this
  exact this hp
theorem popc_full_small : ∀ n, n < 13 → ∀ a, a < 64 → ∀ b, b < 64 → a * 64 + b + 1 < 2 ^ n → popc (a * 64 + b) < n := by decide +kernel
theorem popc_full {n m : Nat} (hn : n < 13) (h : m + 1 < 2 ^ n) : popc m < n := by
  have h12 : 2 ^ n ≤ 2 ^ 12 := Nat.pow_le_pow_right (by decide) (by omega)
  have := popc_full_small n hn (m / 64) (by omega) (m % 64) (by omega)
  rw [show m / 64 * 64 + m % 64 = m by omega] at this
  exact this h
theorem popc_all : ∀ n, n < 13 → popc (2 ^ n - 1) = n := by decide +kernel
theorem span_ends_all : ((List.range 5).all fun a => (List.range 5).all fun b => !(decide (1 ≤ a) && decide (1 ≤ b) && decide (a * b ≤ 12)) || (!(regOf a b 0).spanWay.isSome && (regOf a b (2 ^ (a * b) - 1)).spanWay.isSome)) = true := by decide +kernel
theorem span_ends (a : Nat) (ha : a < 5) (b : Nat) (hb : b < 5) (h1 : 1 ≤ a) (h2 : 1 ≤ b) (h : a * b ≤ 12) : (regOf a b 0).spanWay.isSome = false ∧ (regOf a b (2 ^ (a * b) - 1)).spanWay.isSome = true := by
  have := List.all_eq_true.1 (List.all_eq_true.1 span_ends_all a (List.mem_range.2 ha)) b (List.mem_range.2 hb)
  rw [decide_eq_true h1, decide_eq_true h2, decide_eq_true h] at this
  simpa using this
theorem bump_far {l : List Int} {i j : Nat} (h : i ≠ j) : (bump l i).getD j 0 = l.getD j 0 := by
  simp [bump, List.getD, List.getElem?_set_ne h]
theorem tab_head {a b : Nat} (ha : 1 ≤ a ∧ a < 5) (hb : 1 ≤ b ∧ b < 5) (hab : a * b ≤ 12) : ∀ k, k ≤ 2 ^ (a * b) → (tabTo a b k).getD 0 0 = 0
  | 0, _ => by simp [tabTo, List.getD]
  | k + 1, hk => by
    have ih := tab_head ha hb hab k (by omega)
    have h12 : 2 ^ (a * b) ≤ 2 ^ 12 := Nat.pow_le_pow_right (by decide) hab
    unfold tabTo
    split
    · rename_i hs
      rw [bump_far, ih]
      intro h0
      have := popc_zero (m := k) (by omega) h0
      subst this
      rw [(span_ends a ha.2 b hb.2 ha.1 hb.1 hab).1] at hs
      cases hs
    · exact ih
theorem tab_last {a b : Nat} (ha : 1 ≤ a ∧ a < 5) (hb : 1 ≤ b ∧ b < 5) (hab : a * b ≤ 12) : ∀ k, k + 1 ≤ 2 ^ (a * b) → (tabTo a b k).getD (a * b) 0 = 0
  | 0, _ => by
    unfold tabTo
    simp [List.getD]
  | k + 1, hk => by
    have ih := tab_last ha hb hab k (by omega)
    unfold tabTo
    split
    · rw [bump_far, ih]
      have := popc_full (n := a * b) (m := k) (by omega) (by omega)
      omega
    · exact ih
theorem spanTab_ends {a b : Nat} (ha : 1 ≤ a ∧ a < 5) (hb : 1 ≤ b ∧ b < 5) (hab : a * b ≤ 12) : (spanTab a b)[0]? = some 0 ∧ (spanTab a b)[a * b]? = some 1 := by
  have hl := tabTo_length (w := a) (h := b) (2 ^ (a * b))
  have hl' := tabTo_length (w := a) (h := b) (2 ^ (a * b) - 1)
  have h0 := tab_head ha hb hab (2 ^ (a * b)) (Nat.le_refl _)
  have hpos : 0 < 2 ^ (a * b) := Nat.pow_pos (by decide)
  have h1 := tab_last ha hb hab (2 ^ (a * b) - 1) (by omega)
  unfold spanTab
  constructor
  · rw [List.getElem?_eq_getElem (by omega)]
    rw [List.getD_eq_getElem?_getD, List.getElem?_eq_getElem (by omega)] at h0
    simpa using h0
  · have e : 2 ^ (a * b) = (2 ^ (a * b) - 1) + 1 := by omega
    rw [e]
    unfold tabTo
    rw [if_pos (span_ends a ha.2 b hb.2 ha.1 hb.1 hab).2, popc_all _ (by omega), bump, h1]
    rw [List.getElem?_set_self (by omega)]
    rfl
end Go.Proofs.Ytjmeplchabehfaa
