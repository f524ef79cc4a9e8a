
/-
  The walks of what compares lists: numbers, cells, tiles, shapes. Each answers whether they are the same.
-/
import Derived.Test.YtghpkfihdcjlaaaMapCell
import Derived.Test.YtghpkfihdcjlaaaSepX
namespace Go.Proofs.Ytghpkfihdcjlaaa
open Go.RowKit

noncomputable def same {α : Type} (a b : α) : Bool := @decide (a = b) (Classical.propDecidable _)
theorem same_t {α : Type} {a b : α} (h : a = b) : same a b = true := @decide_eq_true _ (Classical.propDecidable _) h
theorem same_f {α : Type} {a b : α} (h : ¬ a = b) : same a b = false := @decide_eq_false _ (Classical.propDecidable _) h
theorem same_far {α : Type} {a b : List α} (h : ¬ a.length = b.length) : same a b = false := same_f fun e => h (by rw [e])
theorem same_at {α : Type} {a b : List α} {k : Nat} {x y : α} (hx : a[k]? = some x) (hy : b[k]? = some y) (h : ¬ x = y) : same a b = false := same_f fun e => h (by subst e; rw [hx] at hy; injection hy)
theorem same_all {α : Type} {a b : List α} (hl : a.length = b.length) (h : ∀ (j : Nat) (x y : α), j < a.length → a[j]? = some x → b[j]? = some y → x = y) : same a b = true := by
  refine same_t (List.ext_getElem hl fun j h1 h2 => ?_)
  exact h j _ _ h1 (List.getElem?_eq_getElem h1) (List.getElem?_eq_getElem h2)
/-- one element more is alike -/
theorem alike_succ {α : Type} {a b : List α} {k : Nat} {x : α} (h : ∀ (j : Nat) (x y : α), j < k → a[j]? = some x → b[j]? = some y → x = y) (hx : a[k]? = some x) (hy : b[k]? = some x) : ∀ (j : Nat) (x y : α), j < k + 1 → a[j]? = some x → b[j]? = some y → x = y := by
  intro j u v hj h1 h2
  by_cases e : j = k
  · subst e; rw [hx] at h1; rw [hy] at h2; injection h1 with h1; injection h2 with h2; rw [← h1, ← h2]
  · exact h j u v (by omega) h1 h2

end Go.Proofs.Ytghpkfihdcjlaaa
