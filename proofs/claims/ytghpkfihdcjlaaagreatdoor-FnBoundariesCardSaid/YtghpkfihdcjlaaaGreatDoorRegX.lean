
/-
  The walks over regions: is one right, has it a cell. The walks over regions: has it a cell.
-/
import Derived.Test.YtghpkfihdcjlaaaGreatDoorRegData
import Derived.Test.YtghpkfihdcjlaaaGreatDoorCwWalks
import Derived.Outline
namespace Go.Proofs.YtghpkfihdcjlaaaGreatDoor
open Go.RowKit

theorem Reg.valid_rows {r : Reg} (hw : 1 ≤ r.w ∧ r.w ≤ 6) (hl : 1 ≤ r.rows.length ∧ r.rows.length ≤ 6) (h : ∀ j a, j < r.rows.length → r.rows[j]? = some a → 0 ≤ a ∧ a < 2 ^ r.w.toNat) : r.valid = true := by
  rw [Reg.valid_iff]
  refine ⟨hw.1, hw.2, hl.1, hl.2, fun a ha => ?_⟩
  obtain ⟨j, hj, e⟩ := List.getElem_of_mem ha
  exact h j a hj (by rw [List.getElem?_eq_getElem hj, e])
theorem Reg.not_valid_row {r : Reg} {k : Nat} {a : Int} (hla : r.rows[k]? = some a) (h : ¬ (0 ≤ a ∧ a < 2 ^ r.w.toNat)) : r.valid = false := by
  rw [Reg.valid_not]
  rintro ⟨_, _, _, _, h5⟩
  exact h (h5 a (List.mem_of_getElem? hla))
theorem pow_le_64 {wn : Nat} (h : wn ≤ 6) : (2 : Int) ^ wn ≤ 64 ∧ (1 : Int) ≤ 2 ^ wn := by
  have : wn = 0 ∨ wn = 1 ∨ wn = 2 ∨ wn = 3 ∨ wn = 4 ∨ wn = 5 ∨ wn = 6 := by omega
  rcases this with rfl | rfl | rfl | rfl | rfl | rfl | rfl <;> decide

end Go.Proofs.YtghpkfihdcjlaaaGreatDoor

namespace Go.Proofs.YtghpkfihdcjlaaaGreatDoor
open Go.RowKit

theorem Reg.has_eq {r : Reg} {x y : Nat} (hx : (x : Int) < r.w) (hy : y < r.rows.length) : r.has x y = (r.row y).testBit x := by
  have : (0 : Int) ≤ (x : Int) ∧ (x : Int) < r.w ∧ (0 : Int) ≤ (y : Int) ∧ (y : Int) < r.rows.length := ⟨by omega, hx, by omega, by omega⟩
  simp [Reg.has, this]
theorem Reg.has_out {r : Reg} {x y : Int} (h : ¬ (0 ≤ x ∧ x < r.w ∧ 0 ≤ y ∧ y < r.rows.length)) : r.has x y = false := by
  simp only [Reg.has, h, decide_false, Bool.false_and]

end Go.Proofs.YtghpkfihdcjlaaaGreatDoor
