
/-
  Do two shapes tile a region? Both walks.
-/
import Derived.Test.YtjkppigjajknaaaGreatDoorFtS
namespace Go.Proofs.YtjkppigjajknaaaGreatDoor
open Go.RowKit

theorem one_ssRd {w : World} {g : Nat} {x : Value} {s : List Cell} (hb : Blk w g 25 #[x]) (hx : CellsRd w 0 w.heap.size x s) : CellSSRd w 0 w.heap.size (.slice (some ⟨g, 0, none⟩) 1 1) [s] := by
  refine ⟨[x], ⟨_, _, rfl, by show 1 ≤ maxLen; decide, rfl, fun _ => ⟨g, 0, rfl, Nat.zero_le _, hb.lt, fun j u hu => ?_⟩⟩, rfl, fun i u hu => ?_⟩
  · rw [hb.cell]
    simpa using hu
  · match i, hu with
    | 0, hu => simp at hu; subst hu; exact ⟨x, rfl, hx⟩
def comR (a b : List Cell) (r : Reg) : Bool := findB r [a] && findB r [b]
theorem comR_no {a b : List Cell} {r : Reg} (h : findB r [a] = false) : comR a b r = false := by unfold comR; rw [h]; rfl
theorem comR_yes {a b : List Cell} {r : Reg} (h : findB r [a] = true) : comR a b r = findB r [b] := by unfold comR; rw [h]; rfl
end Go.Proofs.YtjkppigjajknaaaGreatDoor
