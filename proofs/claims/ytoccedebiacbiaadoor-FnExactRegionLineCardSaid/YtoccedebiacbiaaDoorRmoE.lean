
/-
  Motions of a region (plain).
-/
import Derived.Test.YtoccedebiacbiaaDoorRmoD
import Derived.Test.YtoccedebiacbiaaDoorRegData
namespace Go.Proofs.YtoccedebiacbiaaDoor

theorem cells_inG {r : Reg} (hv : r.Valid) : ∀ d ∈ r.cells, inG r.w.toNat r.rows.length d := by
  intro d hd
  have hm := Reg.cells_mem.1 hd
  simp only [Reg.has, Bool.and_eq_true, decide_eq_true_eq] at hm
  obtain ⟨⟨h1, h2, h3, h4⟩, _⟩ := hm
  have := hv.1
  exact ⟨h1, by omega, h3, by omega⟩
/-- a motion that keeps the grid and the region -/
def motB (r : Reg) (m : Nat) : Bool := (decide (m % 2 = 0) || decide (r.w.toNat = r.rows.length)) && decide (carN r.w.toNat r.rows.length m r.cells = r.mask)
/-- the motions of a region -/
def motL (r : Reg) : List Nat := (List.range 8).filter (motB r)
def motI (r : Reg) (i : Nat) : List Nat := (List.range i).filter (motB r)
theorem motI_yes {r : Reg} {i : Nat} (h : motB r i = true) : motI r (i + 1) = motI r i ++ [i] := by
  unfold motI; rw [List.range_succ, List.filter_append]; simp [h]
theorem motI_no {r : Reg} {i : Nat} (h : motB r i = false) : motI r (i + 1) = motI r i := by
  unfold motI; rw [List.range_succ, List.filter_append]; simp [h]
end Go.Proofs.YtoccedebiacbiaaDoor
