
/-
  Inner sides of a shape: both walks; perimeter. Perimeter, trees, degrees and snakes of a shape: both walks.
-/
import Derived.Test.YtghpkfihdcjlaaaGreatDoorShpX
import Derived.Test.YtghpkfihdcjlaaaGreatDoorShpFG
namespace Go.Proofs.YtghpkfihdcjlaaaGreatDoor
open Go.RowKit

def sdB (s : List Cell) (i k : Nat) : Bool := match s[i]?, s[k]? with
  | some a, some b => sideB a b
  | _, _ => false
theorem sdB_at {s : List Cell} {i k : Nat} {a b : Cell} (ha : s[i]? = some a) (hb : s[k]? = some b) : sdB s i k = sideB a b := by rw [sdB, ha, hb]
/-- how many of the first k lie beside number i -/
def innRow (s : List Cell) (i : Nat) : Nat → Nat
  | 0 => 0
  | k + 1 => innRow s i k + if sdB s i k then 1 else 0
/-- the inner sides of the first cells -/
def innTo (s : List Cell) : Nat → Nat
  | 0 => 0
  | i + 1 => innTo s i + innRow s i i
def innN (s : List Cell) : Nat := innTo s s.length
theorem innRow_le (s : List Cell) (i : Nat) : ∀ k, innRow s i k ≤ k
  | 0 => Nat.le_refl _
  | k + 1 => by
    have := innRow_le s i k
    rw [innRow]
    split <;> omega
theorem innTo_le (s : List Cell) : ∀ i, innTo s i ≤ i * i
  | 0 => Nat.le_refl _
  | i + 1 => by
    have h1 := innTo_le s i
    have h2 := innRow_le s i i
    rw [innTo, Nat.add_mul, Nat.mul_add]
    omega
theorem innTo_64 {s : List Cell} {i : Nat} (hi : i ≤ 8) : innTo s i ≤ 64 := Nat.le_trans (innTo_le s i) (Nat.mul_le_mul hi hi)
end Go.Proofs.YtghpkfihdcjlaaaGreatDoor

namespace Go.Proofs.YtghpkfihdcjlaaaGreatDoor
open Go.RowKit

theorem inn_le64 {s : List Cell} (h : isShape s = true) : innN s ≤ 64 := innTo_64 (shp_len h).2
def perZ (s : List Cell) : Int := 4 * (s.length : Int) - 2 * (innN s : Int)
noncomputable def treeB (s : List Cell) : Bool := connS s && decide ((innN s : Int) = (s.length : Int) - 1)
/-- how many of the first k cells lie beside c -/
def degTo (s : List Cell) (c : Cell) (k : Nat) : Nat := (s.take k).countP fun d => sideB c d
theorem degTo_succ {s : List Cell} {c d : Cell} {k : Nat} (h : s[k]? = some d) : degTo s c (k + 1) = degTo s c k + if sideB c d then 1 else 0 := by
  obtain ⟨hk, rfl⟩ := List.getElem?_eq_some_iff.1 h
  rw [degTo, degTo, List.take_succ_eq_append_getElem hk, List.countP_append, List.countP_singleton]
theorem degTo_le {s : List Cell} {c : Cell} (k : Nat) : degTo s c k ≤ k := Nat.le_trans List.countP_le_length (by rw [List.length_take]; omega)
theorem sideB_comm (a b : Cell) : sideB a b = sideB b a := by
  unfold sideB
  rw [show a.x - b.x = -(b.x - a.x) by omega, show a.y - b.y = -(b.y - a.y) by omega, Int.neg_mul_neg, Int.neg_mul_neg]
end Go.Proofs.YtghpkfihdcjlaaaGreatDoor
