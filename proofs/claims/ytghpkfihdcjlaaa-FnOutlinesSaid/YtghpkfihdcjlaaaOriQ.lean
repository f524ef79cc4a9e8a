
/-
  A shape that is turned and moved has the same orientations: plain.
-/
import Derived.Test.YtghpkfihdcjlaaaOriX
namespace Go.Proofs.Ytghpkfihdcjlaaa
open Go.RowKit

def nrm (s : List Cell) : List Cell := corner (sortC s)
theorem turnS_nrm {k : Nat} {s : List Cell} : turnS k s = nrm (s.map (carryC k)) := rfl
theorem nrm_ext {a b : List Cell} (h : ∀ c, c ∈ a ↔ c ∈ b) : nrm a = nrm b := by
  have e : sortC a = sortC b := srt_ext srt_sortC srt_sortC (fun c => by rw [mem_sortC, mem_sortC]; exact h c)
  unfold nrm
  rw [e]
theorem moveS_shift {s : List Cell} {x y : Int} : moveS s x y = shift s (-x) (-y) := by
  unfold moveS shift
  refine List.map_congr_left fun c _ => ?_
  simp only [Cell.mk.injEq]
  omega
theorem sortC_shift {s : List Cell} {x y : Int} : sortC (shift s x y) = shift (sortC s) x y := by
  rw [← sortC_move, moveS_shift, Int.neg_neg, Int.neg_neg]
theorem min_shift {f : Cell → Int} {l : List Cell} {x y d : Int} (hf : ∀ c : Cell, f ⟨c.x - x, c.y - y⟩ = f c - d) (h : 1 ≤ l.length) : mnTo f (shift l x y) (shift l x y).length = mnTo f l l.length - d := by
  obtain ⟨c, hc, e1⟩ := mnTo_mem (f := f) (l := shift l x y) _ (by rw [shift_length]; omega) (Nat.le_refl _)
  obtain ⟨c2, hc2, e2⟩ := mnTo_mem (f := f) (l := l) l.length h (Nat.le_refl _)
  obtain ⟨c1, hc1, rfl⟩ := List.mem_map.1 (show c ∈ l.map _ from hc)
  obtain ⟨i, hi⟩ := List.getElem?_of_mem hc1
  have h1 := mnTo_le (f := f) (l := l) l.length (Nat.le_refl _) i c1 (List.getElem?_eq_some_iff.1 hi).1 hi
  have hm : (⟨c2.x - x, c2.y - y⟩ : Cell) ∈ shift l x y := List.mem_map.2 ⟨c2, hc2, rfl⟩
  obtain ⟨j, hj⟩ := List.getElem?_of_mem hm
  have h2 := mnTo_le (f := f) (l := shift l x y) _ (Nat.le_refl _) j _ (List.getElem?_eq_some_iff.1 hj).1 hj
  rw [hf] at e1 h2
  omega
theorem corner_shift {l : List Cell} {x y : Int} : corner (shift l x y) = corner l := by
  by_cases h : 1 ≤ l.length
  · unfold corner minX minY
    rw [min_shift (f := (·.x)) (d := x) (fun c => rfl) h, min_shift (f := (·.y)) (d := y) (fun c => rfl) h]
    unfold shift
    rw [List.map_map]
    refine List.map_congr_left fun c _ => ?_
    simp only [Function.comp, Cell.mk.injEq]
    omega
  · have : l = [] := List.eq_nil_of_length_eq_zero (by omega)
    subst this
    rfl
theorem nrm_shift {s : List Cell} {x y : Int} : nrm (shift s x y) = nrm s := by
  unfold nrm; rw [sortC_shift, corner_shift]
theorem carry_lin {k : Nat} {c : Cell} {x y : Int} : carryC k ⟨c.x - x, c.y - y⟩ = ⟨(carryC k c).x - (carryC k ⟨x, y⟩).x, (carryC k c).y - (carryC k ⟨x, y⟩).y⟩ := by
  obtain ⟨cx, cy⟩ := c
  have hk : k % 4 = 0 ∨ k % 4 = 1 ∨ k % 4 = 2 ∨ k % 4 = 3 := by omega
  unfold carryC flipC
  by_cases h4 : 4 ≤ k
  · simp only [if_pos h4]
    rcases hk with e | e | e | e <;> (rw [e]; simp [rotC]; try omega)
  · simp only [if_neg h4]
    rcases hk with e | e | e | e <;> (rw [e]; simp [rotC]; try omega)
theorem map_carry_shift {k : Nat} {l : List Cell} {x y : Int} : (shift l x y).map (carryC k) = shift (l.map (carryC k)) (carryC k ⟨x, y⟩).x (carryC k ⟨x, y⟩).y := by
  unfold shift
  rw [List.map_map, List.map_map]
  refine List.map_congr_left fun c _ => ?_
  exact carry_lin
theorem nrm_map {k : Nat} {s : List Cell} : nrm ((nrm s).map (carryC k)) = nrm (s.map (carryC k)) := by
  have e : nrm s = shift (sortC s) (minX (sortC s)) (minY (sortC s)) := rfl
  rw [e, map_carry_shift, nrm_shift]
  refine nrm_ext fun c => ?_
  rw [List.mem_map, List.mem_map]
  constructor
  · rintro ⟨d, hd, e⟩; exact ⟨d, mem_sortC.1 hd, e⟩
  · rintro ⟨d, hd, e⟩; exact ⟨d, mem_sortC.2 hd, e⟩
/-- one motion behind another -/
def mulK (k i : Nat) : Nat := (if 4 ≤ k then k % 4 + (4 - i % 4) else k % 4 + i % 4) % 4 + if (4 ≤ k ∧ 4 ≤ i) ∨ (k < 4 ∧ i < 4) then 0 else 4
theorem mulK_lt {k i : Nat} : mulK k i < 8 := by
  unfold mulK
  split <;> split <;> omega
theorem carry_mul {k i : Nat} {c : Cell} (hk : k < 8) (hi : i < 8) : carryC k (carryC i c) = carryC (mulK k i) c := by
  obtain ⟨x, y⟩ := c
  have hk8 : k = 0 ∨ k = 1 ∨ k = 2 ∨ k = 3 ∨ k = 4 ∨ k = 5 ∨ k = 6 ∨ k = 7 := by omega
  have hi8 : i = 0 ∨ i = 1 ∨ i = 2 ∨ i = 3 ∨ i = 4 ∨ i = 5 ∨ i = 6 ∨ i = 7 := by omega
  rcases hk8 with rfl | rfl | rfl | rfl | rfl | rfl | rfl | rfl <;> rcases hi8 with rfl | rfl | rfl | rfl | rfl | rfl | rfl | rfl <;> simp [carryC, rotC, flipC, mulK]
theorem mulK_inv : ∀ j, j < 8 → ∀ i, i < 8 → ∃ k, k < 8 ∧ mulK k i = j := by decide
theorem turn_turn {k i : Nat} {s : List Cell} {x y : Int} (hk : k < 8) (hi : i < 8) : turnS k (moveS (turnS i s) x y) = turnS (mulK k i) s := by
  rw [turnS_nrm, moveS_shift, map_carry_shift, nrm_shift, turnS_nrm, nrm_map, turnS_nrm, List.map_map]
  congr 1
  refine List.map_congr_left fun c _ => ?_
  exact carry_mul hk hi
theorem orientsTo_mem {s r : List Cell} : ∀ {k : Nat}, r ∈ orientsTo s k ↔ ∃ m, m < k ∧ r = turnS m s
  | 0 => by simp [orientsTo]
  | k + 1 => by
    rw [orientsTo, mem_insS, orientsTo_mem (k := k)]
    constructor
    · rintro (rfl | ⟨m, hm, e⟩)
      · exact ⟨k, by omega, rfl⟩
      · exact ⟨m, by omega, e⟩
    · rintro ⟨m, hm, rfl⟩
      by_cases e : m = k
      · subst e; exact .inl rfl
      · exact .inr ⟨m, by omega, rfl⟩
/-- a shape that is turned and moved has the same orientations -/
theorem orients_moved {i : Nat} {s : List Cell} {x y : Int} (hi : i < 8) : orients (moveS (turnS i s) x y) = orients s := by
  refine srtS_ext (orients_srt 8) (orients_srt 8) fun r => ?_
  unfold orients
  rw [orientsTo_mem, orientsTo_mem]
  constructor
  · rintro ⟨k, hk, rfl⟩
    exact ⟨mulK k i, mulK_lt, turn_turn hk hi⟩
  · rintro ⟨j, hj, rfl⟩
    obtain ⟨k, hk, rfl⟩ := mulK_inv j hj i hi
    exact ⟨k, hk, (turn_turn hk hi).symm⟩
theorem congr_moved {i j : Nat} {s : List Cell} {x y x2 y2 : Int} (hi : i < 8) (hj : j < 8) (h1 : isShape (moveS (turnS i s) x y) = true) (h2 : isShape (moveS (turnS j s) x2 y2) = true) : congr (moveS (turnS i s) x y) (moveS (turnS j s) x2 y2) = true := by
  unfold congr canonS
  rw [h1, h2, orients_moved hi, orients_moved hj, same_t rfl]
  rfl
end Go.Proofs.Ytghpkfihdcjlaaa
