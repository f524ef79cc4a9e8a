
/-
  Wang tiles: what is valid, what fits. The walks of both 'AreWang' and of both tests of fitting.
-/
import Derived.Test.YtdbneilhgckhjaaDoorEqV
import Derived.Test.YtdbneilhgckhjaaDoorCwWalks
import Derived.IntWalk
namespace Go.Proofs.YtdbneilhgckhjaaDoor
open Go.RowKit

def inW (a b c : Int) : Bool := decide (b ≤ a) && decide (a ≤ c)
theorem inW_iff {a b c : Int} : inW a b c = true ↔ b ≤ a ∧ a ≤ c := by simp [inW]
set_option maxRecDepth 100000 in
theorem between_w (a b c : Int) (w : World) : Calls Tryd.prog 65 #[.int .i64 a, .int .i64 b, .int .i64 c] w fun e w' => e = .returned (.bool (inW a b c)) ∧ w = w' := between_any a b c w
set_option maxRecDepth 100000 in
theorem l1In_w (a b c : Int) (w : World) : Calls Tryd.prog 59 #[.int .i64 a, .int .i64 b, .int .i64 c] w fun e w' => e = .returned (.bool (inW a b c)) ∧ w = w' := l1In_any a b c w
def okT (t : Wg) : Bool := inW t.top 0 3 && inW t.right 0 3 && inW t.bottom 0 3 && inW t.left 0 3
def areW (l : List Wg) : Bool := l.all okT && inW l.length 1 6
theorem areW_no {l : List Wg} {k : Nat} {t : Wg} (h : l[k]? = some t) (ho : okT t = false) : areW l = false := by
  unfold areW
  have : l.all okT = false := by
    rw [List.all_eq_false]
    exact ⟨t, List.mem_of_getElem? h, by simp [ho]⟩
  rw [this, Bool.false_and]
theorem areW_end {l : List Wg} (h : ∀ (k : Nat) (t : Wg), k < l.length → l[k]? = some t → okT t = true) : areW l = inW l.length 1 6 := by
  unfold areW
  have : l.all okT = true := by
    rw [List.all_eq_true]
    intro t ht
    obtain ⟨k, hk, rfl⟩ := List.getElem_of_mem ht
    exact h k _ hk (List.getElem?_eq_getElem hk)
  rw [this, Bool.true_and]
theorem upto_succ {α : Type} {l : List α} {k : Nat} {t : α} {P : α → Prop} (h : ∀ (j : Nat) (t : α), j < k → l[j]? = some t → P t) (hk : l[k]? = some t) (ht : P t) : ∀ (j : Nat) (t : α), j < k + 1 → l[j]? = some t → P t := by
  intro j u hj hu
  by_cases e : j = k
  · subst e; rw [hk] at hu; injection hu with hu; subst hu; exact ht
  · exact h j u (by omega) hu

/-- a tile's colors -/
def cols (t : Wg) : List Int := [t.top, t.right, t.bottom, t.left]
theorem cols_all {t : Wg} (h : ∀ (j : Nat) (c : Int), j < 4 → (cols t)[j]? = some c → inW c 0 3 = true) : okT t = true := by
  simp [okT, h 0 t.top (by omega) rfl, h 1 t.right (by omega) rfl, h 2 t.bottom (by omega) rfl, h 3 t.left (by omega) rfl]
theorem cols_no {t : Wg} {j : Nat} {c : Int} (h : (cols t)[j]? = some c) (hc : inW c 0 3 = false) : okT t = false := by
  have hj : j < 4 := by have := (List.getElem?_eq_some_iff.1 h).1; simpa [cols] using this
  have hj' : j = 0 ∨ j = 1 ∨ j = 2 ∨ j = 3 := by omega
  rcases hj' with rfl | rfl | rfl | rfl <;> simp [cols] at h <;> subst h <;> simp [okT, hc]
end Go.Proofs.YtdbneilhgckhjaaDoor
