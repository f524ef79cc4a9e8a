
/-
  Shapes turned: the reference's walk. The order of shapes, on both sides. A shape put into an ordered list, once: the reference's walk.
-/
import Derived.Test.YtghpkfihdcjlaaaGreatDoorMotC
import Derived.Test.YtghpkfihdcjlaaaGreatDoorPairR
namespace Go.Proofs.YtghpkfihdcjlaaaGreatDoor
open Go.RowKit

/-- a shape carried by a motion, in its corner -/
def turnS (m : Nat) (s : List Cell) : List Cell := corner (sortC (s.map (carryC m)))
theorem turn_sml {m : Nat} {s : List Cell} {b : Int} (h : ∀ c ∈ s, Sml b c) : ∀ c ∈ sortC (s.map (carryC m)), Sml b c := fun c hc => by
  rw [mem_sortC] at hc
  obtain ⟨d, hd, rfl⟩ := List.mem_map.1 hc
  exact carryC_sml (h d hd)
theorem sortC_pos {s : List Cell} (h : 1 ≤ s.length) : 1 ≤ (sortC s).length := by
  obtain ⟨c, hc⟩ := List.exists_mem_of_ne_nil s (by intro e; rw [e] at h; simp at h)
  exact List.length_pos_of_mem (mem_sortC.2 hc)
theorem map_take_c {m k : Nat} {s : List Cell} {d : Cell} (h : s[k]? = some d) : cc ((s.take k).map (carryC m)) ++ [Value.int .i64 (carryC m d).x, .int .i64 (carryC m d).y] = cc ((s.take (k + 1)).map (carryC m)) := by
  rw [List.take_add_one, h, List.map_append, cc_append]; rfl
end Go.Proofs.YtghpkfihdcjlaaaGreatDoor

namespace Go.Proofs.YtghpkfihdcjlaaaGreatDoor
open Go.RowKit

set_option maxRecDepth 100000 in
theorem infoCellsP : (Tryz.prog.info? 24).map (fun i => (i.zero, i.size, i.bytes)) = some (some (.slice none 0 0), 1, 24) := by kernel_rfl
structure PutAt (s : List Cell) (M : List (List Cell)) (k : Nat) : Prop where
  le : k ≤ M.length
  hi : ∀ (j : Nat) (r : List Cell), k ≤ j → M[j]? = some r → cmpS s r < 0
  lo : ∀ r : List Cell, 0 < k → M[k - 1]? = some r → ¬ cmpS s r < 0
def PutPost (vs : List Value) (M : List (List Cell)) (v u : Value) (s : List Cell) (w : World) (e : Ending) (w' : World) : Prop :=
  ∃ v', e = .returned v' ∧ Below w.heap.size w w' ∧ ∃ k, PutAt s M k ∧ ((0 < k ∧ M[k - 1]? = some s ∧ v' = v) ∨ (¬ (0 < k ∧ M[k - 1]? = some s) ∧ OI w' w.heap.size w'.heap.size 24 1 v' (M.length + 1) (vs.take k ++ u :: vs.drop k)))
theorem slots_one {w : World} {lo hi : Nat} {vs : List Value} {l : List (List Cell)} (h : SlotsRd w lo hi vs l) : ∀ u ∈ vs, u.oneCell' = true := by
  intro u hu
  obtain ⟨i, hi⟩ := List.getElem?_of_mem hu
  have hl : i < l.length := by have := (List.getElem?_eq_some_iff.1 hi).1; rw [h.1] at this; exact this
  obtain ⟨x, hx, A, c, rfl, _⟩ := h.2 i l[i] (List.getElem?_eq_getElem hl)
  rw [hx] at hi
  injection hi with hi
  subst hi
  rfl
theorem ocv2 {v : Value} (h : v.oneCell' = true) : ∀ u ∈ [v], u.oneCell' = true := by intro u hu; simp at hu; subst hu; exact h
end Go.Proofs.YtghpkfihdcjlaaaGreatDoor
