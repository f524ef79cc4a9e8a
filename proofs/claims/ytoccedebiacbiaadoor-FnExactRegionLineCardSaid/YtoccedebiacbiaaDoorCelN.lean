
/-
  The cells of a region are those of its mask: plain (lines of HalQ: never import both).
-/
import Derived.Test.YtoccedebiacbiaaDoorPkPU
import Derived.Test.YtoccedebiacbiaaDoorCelM
import Derived.Test.YtoccedebiacbiaaDoorRmoE
namespace Go.Proofs.YtoccedebiacbiaaDoor
open Go.RowKit

theorem cellsTo_bitsN {w m : Nat} : ∀ k, cellsTo w m k = (bitsTo m k).map (bitCell w)
  | 0 => rfl
  | k + 1 => by
    cases h : m.testBit k
    · rw [bitsTo_f h, ← cellsTo_bitsN k, cellsTo, h]; simp
    · rw [bitsTo_t h, List.map_append, ← cellsTo_bitsN k, cellsTo, h]; simp
theorem cells_maskN {r : Reg} (hv : r.Valid) : cellsM r.w.toNat r.mask = r.cells := by
  unfold cellsM
  rw [cellsTo_bitsN, ← cells_bits hv, List.map_map]
  conv => rhs; rw [← List.map_id r.cells]
  exact List.map_congr_left fun d hd => bitCell_of (Reg.cells_mem.1 hd)
theorem mask_ltN {r : Reg} (hv : r.Valid) : r.mask < 2 ^ (r.w.toNat * r.rows.length) := by
  have := Reg.maskTo_lt hv r.rows.length
  rw [Nat.mul_comm]
  exact this
theorem wh36 {r : Reg} (hv : r.Valid) : r.w.toNat * r.rows.length ≤ 36 := by
  have h := hv.2.2.2.1
  have h2 : r.w.toNat ≤ 6 := by have := hv.2.1; omega
  exact Nat.mul_le_mul h2 h
theorem mask_lt36N {r : Reg} (hv : r.Valid) : r.mask < 2 ^ 36 := Nat.lt_of_lt_of_le (mask_ltN hv) (Nat.pow_le_pow_right (by decide) (wh36 hv))
theorem mask_inG {r : Reg} (hv : r.Valid) : ∀ d ∈ cellsM r.w.toNat r.mask, inG r.w.toNat r.rows.length d := by
  rw [cells_maskN hv]
  exact cells_inG hv
/-- the motions of the first i numbers, as integers -/
def motZ (r : Reg) (i : Nat) : List Int := (motI r i).map fun (n : Nat) => (n : Int)
theorem motZ_yes {r : Reg} {i : Nat} (h : motB r i = true) : motZ r (i + 1) = motZ r i ++ [(i : Int)] := by rw [motZ, motI_yes h, List.map_append]; rfl
theorem motZ_no {r : Reg} {i : Nat} (h : motB r i = false) : motZ r (i + 1) = motZ r i := by rw [motZ, motI_no h]; rfl
theorem motZ_len {r : Reg} (i : Nat) : (motZ r i).length ≤ i := by
  rw [motZ, List.length_map, motI]
  exact Nat.le_trans (List.length_filter_le _ _) (by simp)
theorem motZ_in {r : Reg} {i : Nat} {n : Int} (h : n ∈ motZ r i) : 0 ≤ n ∧ n < i := by
  rw [motZ, List.mem_map] at h
  obtain ⟨k, hk, rfl⟩ := h
  have := List.mem_range.1 (List.mem_filter.1 hk).1
  omega
end Go.Proofs.YtoccedebiacbiaaDoor
