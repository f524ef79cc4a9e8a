
/-
  The walks over regions: the cells in order. The walk of the reference's 'CellsOf'.
-/
import Derived.Test.YtghpkfihdcjlaaaGreatDoorRegX
import Derived.Test.YtghpkfihdcjlaaaGreatDoorSepX
namespace Go.Proofs.YtghpkfihdcjlaaaGreatDoor
open Go.RowKit

/-- the cells of row y, of its first k places -/
def Reg.rowTo (r : Reg) (y k : Nat) : List Cell := ((List.range k).filter fun x : Nat => r.has (x : Int) (y : Int)).map fun x : Nat => ⟨(x : Int), (y : Int)⟩
/-- the cells of the first k rows -/
def Reg.cellsTo (r : Reg) (k : Nat) : List Cell := (List.range k).flatMap fun y => r.rowTo y r.w.toNat
def Reg.cells (r : Reg) : List Cell := r.cellsTo r.rows.length
theorem Reg.rowTo_succ {r : Reg} {y k : Nat} : r.rowTo y (k + 1) = r.rowTo y k ++ if r.has k y = true then [⟨k, y⟩] else [] := by
  unfold Reg.rowTo
  rw [List.range_succ, List.filter_append, List.map_append]
  congr 1
  cases h : r.has k y <;> simp [h]
theorem Reg.cellsTo_succ {r : Reg} {k : Nat} : r.cellsTo (k + 1) = r.cellsTo k ++ r.rowTo k r.w.toNat := by
  unfold Reg.cellsTo
  rw [List.range_succ, List.flatMap_append]
  simp
theorem Reg.rowTo_le {r : Reg} {y k : Nat} : (r.rowTo y k).length ≤ k := by
  unfold Reg.rowTo
  rw [List.length_map]
  exact Nat.le_trans (List.length_filter_le _ _) (by simp)
theorem Reg.cellsTo_le {r : Reg} {k : Nat} : (r.cellsTo k).length ≤ k * r.w.toNat := by
  induction k with
  | zero => simp [Reg.cellsTo]
  | succ k ih => rw [Reg.cellsTo_succ, List.length_append, Nat.add_mul]; have := Reg.rowTo_le (r := r) (y := k) (k := r.w.toNat); omega
theorem Reg.cells_le {r : Reg} (h : r.Valid) : r.cells.length ≤ 36 := by
  have h1 := Reg.cellsTo_le (r := r) (k := r.rows.length)
  have h2 : r.rows.length * r.w.toNat ≤ 6 * 6 := Nat.mul_le_mul h.2.2.2.1 (by have := h.2.1; omega)
  unfold Reg.cells
  omega
theorem Reg.cells_mem {r : Reg} {c : Cell} : c ∈ r.cells ↔ r.has c.x c.y = true := by
  unfold Reg.cells Reg.cellsTo Reg.rowTo
  simp only [List.mem_flatMap, List.mem_range, List.mem_map, List.mem_filter]
  constructor
  · rintro ⟨y, hy, x, ⟨hx, hh⟩, rfl⟩
    exact hh
  · intro h
    have hin : 0 ≤ c.x ∧ c.x < r.w ∧ 0 ≤ c.y ∧ c.y < r.rows.length := by
      have := h
      simp only [Reg.has, Bool.and_eq_true, decide_eq_true_eq] at this
      exact this.1
    refine ⟨c.y.toNat, by omega, c.x.toNat, ⟨by omega, ?_⟩, ?_⟩
    · rw [Int.toNat_of_nonneg hin.1, Int.toNat_of_nonneg hin.2.2.1]; exact h
    · rw [Int.toNat_of_nonneg hin.1, Int.toNat_of_nonneg hin.2.2.1]

set_option maxRecDepth 100000 in
theorem infoCell : (Tryz.prog.info? 46).map (fun i => (i.zero, i.size, i.bytes)) = some (some (.agg #[.int .i64 0, .int .i64 0]), 2, 16) := by kernel_rfl

end Go.Proofs.YtghpkfihdcjlaaaGreatDoor

namespace Go.Proofs.YtghpkfihdcjlaaaGreatDoor
open Go.RowKit

end Go.Proofs.YtghpkfihdcjlaaaGreatDoor
