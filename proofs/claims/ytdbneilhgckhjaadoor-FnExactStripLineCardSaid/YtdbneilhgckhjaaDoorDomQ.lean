
/-
  Strips: what the program's inner function leaves in its row. Plain.
-/
import Derived.Test.YtdbneilhgckhjaaDoorDomP
namespace Go.Proofs.YtdbneilhgckhjaaDoor

/-- the row behind a call that has r places left from x on, with d standing out -/
def addO (U : Nat → Bool) (r x d : Nat) (L : List Int) : List Int := L.mapIdx fun c v => v + ((outR U r x d c : Nat) : Int)
theorem addO_len {U : Nat → Bool} {r x d : Nat} {L : List Int} : (addO U r x d L).length = L.length := by simp [addO]
theorem addO_at {U : Nat → Bool} {r x d c : Nat} {L : List Int} : (addO U r x d L)[c]? = (L[c]?).map fun v : Int => v + ((outR U r x d c : Nat) : Int) := by simp [addO]
theorem addO_end {U : Nat → Bool} {x d : Nat} {L : List Int} {v : Int} (h : L[d]? = some v) : addO U 0 x d L = L.set d (v + 1) := by
  apply List.ext_getElem?
  intro c
  rw [addO_at, outR_end]
  by_cases e : c = d
  · subst e
    obtain ⟨hl, rfl⟩ := List.getElem?_eq_some_iff.1 h
    rw [List.getElem?_set_self hl, h, if_pos rfl]
    rfl
  · rw [List.getElem?_set_ne (fun h => e h.symm), if_neg e]
    cases L[c]? <;> simp
theorem addO_full {U : Nat → Bool} {r x d : Nat} {L : List Int} (h : U x = true) : addO U (r + 1) x d L = addO U r (x + 1) d L := by
  apply List.ext_getElem?
  intro c
  rw [addO_at, addO_at, outR_full h]
theorem addO_one {U : Nat → Bool} {x d : Nat} {L : List Int} (h : U x = false) : addO U 1 x d L = addO U 0 (x + 1) (d ||| 2 ^ x) L := by
  apply List.ext_getElem?
  intro c
  rw [addO_at, addO_at, outR_one h]
theorem addO_no {U : Nat → Bool} {r x d : Nat} {L : List Int} (h : U x = false) (h1 : U (x + 1) = true) : addO U (r + 2) x d L = addO U (r + 1) (x + 1) (d ||| 2 ^ x) L := by
  apply List.ext_getElem?
  intro c
  rw [addO_at, addO_at, outR_two h, if_pos h1, Nat.add_zero]
theorem addO_two {U : Nat → Bool} {r x d : Nat} {L : List Int} (h : U x = false) (h1 : U (x + 1) = false) : addO U (r + 2) x d L = addO U r (x + 2) d (addO U (r + 1) (x + 1) (d ||| 2 ^ x) L) := by
  apply List.ext_getElem?
  intro c
  rw [addO_at, addO_at, addO_at, outR_two h, if_neg (by rw [h1]; decide)]
  cases L[c]? with
  | none => rfl
  | some v =>
    simp only [Option.map_some, Option.some.injEq]
    omega
theorem outR_le {U : Nat → Bool} : ∀ (n r : Nat), r ≤ n → ∀ x d c, outR U r x d c ≤ 2 ^ r
  | 0, r, hr, x, d, c => by
    obtain rfl : r = 0 := by omega
    rw [outR_end]; split <;> simp
  | n + 1, 0, _, x, d, c => by rw [outR_end]; split <;> simp
  | n + 1, 1, hr, x, d, c => by
    cases h : U x
    · rw [outR_one h]
      have := outR_le (U := U) n 0 (by omega) (x + 1) (d ||| 2 ^ x) c
      omega
    · rw [outR_full h]
      have := outR_le (U := U) n 0 (by omega) (x + 1) d c
      omega
  | n + 1, r + 2, hr, x, d, c => by
    have hp : 2 ^ (r + 2) = 2 * 2 ^ (r + 1) := by rw [Nat.pow_succ]; omega
    have hq : 2 ^ (r + 1) = 2 * 2 ^ r := by rw [Nat.pow_succ]; omega
    cases h : U x
    · rw [outR_two h]
      have h1 := outR_le (U := U) n (r + 1) (by omega) (x + 1) (d ||| 2 ^ x) c
      have h2 := outR_le (U := U) n r (by omega) (x + 2) d c
      split <;> omega
    · rw [outR_full h]
      have := outR_le (U := U) n (r + 1) (by omega) (x + 1) d c
      omega
/-- the whole row -/
theorem addO_row {w a : Nat} (hw : w < 5) (ha : a < 2 ^ w) : addO a.testBit w 0 0 (List.replicate (2 ^ w) 0) = domRow w a := by
  apply List.ext_getElem?
  intro c
  rw [addO_at, domRow, List.getElem?_map]
  by_cases hc : c < 2 ^ w
  · rw [List.getElem?_replicate, if_pos hc, List.getElem?_range hc]
    simp only [Option.map_some, Option.some.injEq]
    rw [outR_fill w hw a ha c hc]
    omega
  · rw [List.getElem?_replicate, if_neg hc, List.getElem?_eq_none (by rw [List.length_range]; omega)]
    rfl
end Go.Proofs.YtdbneilhgckhjaaDoor
