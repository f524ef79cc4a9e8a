
/-
  Strips: the two ways to count the dominoes of a row agree. Plain.
-/
import Derived.Test.YtdbneilhgckhjaaDoorDomS
namespace Go.Proofs.YtdbneilhgckhjaaDoor

/-- what the program's inner function adds at c: r places are left from x on, d stands out so far -/
def outR (U : Nat → Bool) : Nat → Nat → Nat → Nat → Nat
  | 0, _, d, c => if c = d then 1 else 0
  | r + 1, x, d, c => if U x then outR U r (x + 1) d c else outR U r (x + 1) (d ||| 2 ^ x) c + match r with
    | 0 => 0
    | r' + 1 => if U (x + 1) then 0 else outR U r' (x + 2) d c
theorem outR_fill : ∀ w, w < 5 → ∀ a, a < 2 ^ w → ∀ c, c < 2 ^ w → outR a.testBit w 0 0 c = fillR a.testBit c.testBit w 0 := by decide +kernel
theorem outR_end {U : Nat → Bool} {x d c : Nat} : outR U 0 x d c = if c = d then 1 else 0 := rfl
theorem outR_full {U : Nat → Bool} {r x d c : Nat} (h : U x = true) : outR U (r + 1) x d c = outR U r (x + 1) d c := by cases r <;> simp [outR, h]
theorem outR_one {U : Nat → Bool} {x d c : Nat} (h : U x = false) : outR U 1 x d c = outR U 0 (x + 1) (d ||| 2 ^ x) c := by simp [outR, h]
theorem outR_two {U : Nat → Bool} {r x d c : Nat} (h : U x = false) : outR U (r + 2) x d c = outR U (r + 1) (x + 1) (d ||| 2 ^ x) c + if U (x + 1) then 0 else outR U r (x + 2) d c := by
  conv => lhs; unfold outR
  simp [h]
/-- the ways of a row, as a list -/
def domRow (w a : Nat) : List Int := (List.range (2 ^ w)).map fun c => ((fillR a.testBit c.testBit w 0 : Nat) : Int)
theorem domRow_len {w a : Nat} : (domRow w a).length = 2 ^ w := by simp [domRow]
/-- the matrix that leads from row to row -/
def domMat (w : Nat) : List (List Int) := (List.range (2 ^ w)).map (domRow w)
end Go.Proofs.YtdbneilhgckhjaaDoor
