
/-
  Cells put in order: the reference's walk.
-/
import Derived.Test.YtoccedebiacbiaaDoorMotAB
import Derived.Test.YtoccedebiacbiaaDoorSepX
import Derived.Test.YtoccedebiacbiaaDoorEqW
namespace Go.Proofs.YtoccedebiacbiaaDoor
open Go.RowKit

theorem cc_take {l : List Cell} {k : Nat} (hk : k ≤ l.length) : (cc l).take (k * 2) = cc (l.take k) := by
  have h := cc_append (l.take k) (l.drop k)
  rw [List.take_append_drop] at h
  rw [h]
  exact List.take_left' (by rw [cc_length, List.length_take]; omega)
theorem cc_drop {l : List Cell} {k : Nat} (hk : k ≤ l.length) : (cc l).drop (k * 2) = cc (l.drop k) := by
  have h := cc_append (l.take k) (l.drop k)
  rw [List.take_append_drop] at h
  rw [h]
  exact List.drop_left' (by rw [cc_length, List.length_take]; omega)
section
variable {w : World} {e : TypeId} {sz n g c : Nat} {xs : List Value}
/-- the head of a row, read -/
theorem own_take {k : Nat} (h : w.ownsRow 0 e sz (.slice (some ⟨g, 0, none⟩) n c) n xs) (hk : k ≤ n) : Rd w 0 w.heap.size sz (some ⟨g, 0, none⟩) k (xs.take (k * sz)) := by
  obtain ⟨_, cs, hB, _⟩ := own_blk h
  refine ⟨by rw [List.length_take, h.1]; exact Nat.min_eq_left (Nat.mul_le_mul_right _ hk), fun _ => ⟨g, 0, rfl, Nat.zero_le _, hB.lt, fun j u hu => ?_⟩⟩
  rw [List.getElem?_take] at hu
  split at hu
  · exact own_cell h hu
  · cases hu
/-- the tail of a row, read -/
theorem own_drop {k : Nat} (h : w.ownsRow 0 e sz (.slice (some ⟨g, 0, none⟩) n c) n xs) : Rd w 0 w.heap.size sz (some ⟨g, k * sz, none⟩) (n - k) (xs.drop (k * sz)) := by
  obtain ⟨_, cs, hB, _⟩ := own_blk h
  refine ⟨by rw [List.length_drop, h.1, Nat.sub_mul], fun _ => ⟨g, k * sz, rfl, Nat.zero_le _, hB.lt, fun j u hu => ?_⟩⟩
  rw [List.getElem?_drop] at hu
  have := own_cell h hu
  rwa [Nat.zero_add] at this
end
theorem ins_one {l : List Cell} : ∀ u ∈ cc l, u.oneCell' = true := cc_onec
end Go.Proofs.YtoccedebiacbiaaDoor
