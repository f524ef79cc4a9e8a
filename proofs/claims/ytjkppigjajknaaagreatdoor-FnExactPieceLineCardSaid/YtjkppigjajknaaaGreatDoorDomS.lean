
/-
  Strips: ways to fill a row with dominoes: the reference's count.
-/
import Derived.Test.YtjkppigjajknaaaGreatDoorProg
import Derived.Test.YtjkppigjajknaaaGreatDoorCwWalks
import Derived.Test.YtjkppigjajknaaaGreatDoorRegData
import Derived.Test.YtjkppigjajknaaaGreatDoorSepX
import Derived.Deep.DeepCutAuto
namespace Go.Proofs.YtjkppigjajknaaaGreatDoor
open Go.RowKit

/-- in how many ways r places from x on are filled, where those of F are full and dominoes stand out at those of O -/
def fillR (F O : Nat → Bool) : Nat → Nat → Nat
  | 0, _ => 1
  | r + 1, x => if F x then (if O x then 0 else fillR F O r (x + 1)) else if O x then fillR F O r (x + 1) else match r with
    | 0 => 0
    | r' + 1 => if !F (x + 1) && !O (x + 1) then fillR F O r' (x + 2) else 0
theorem fillR_full {F O : Nat → Bool} {r x : Nat} (h : F x = true) : fillR F O (r + 1) x = if O x then 0 else fillR F O r (x + 1) := by cases r <;> simp [fillR, h]
theorem fillR_out {F O : Nat → Bool} {r x : Nat} (h : F x = false) (ho : O x = true) : fillR F O (r + 1) x = fillR F O r (x + 1) := by cases r <;> simp [fillR, h, ho]
theorem fillR_one {F O : Nat → Bool} {x : Nat} (h : F x = false) (ho : O x = false) : fillR F O 1 x = 0 := by simp [fillR, h, ho]
theorem fillR_two {F O : Nat → Bool} {r x : Nat} (h : F x = false) (ho : O x = false) : fillR F O (r + 2) x = if !F (x + 1) && !O (x + 1) then fillR F O r (x + 2) else 0 := by simp [fillR, h, ho]
theorem bit_test0 {m x : Nat} (hm : m < 9223372036854775808) : (bits .and .i64 ((m : Int) / 2 ^ x) 1 == 0) = !m.testBit x := by
  rw [← bit_test hm]
  have hd : m / 2 ^ x < 9223372036854775808 := Nat.lt_of_le_of_lt (Nat.div_le_self _ _) hm
  have e1 : ((m : Int) / 2 ^ x) = ((m / 2 ^ x : Nat) : Int) := by simp
  rw [e1, show (1 : Int) = ((1 : Nat) : Int) from rfl, i64_and_nat _ 1 hd (by decide), nat_mask1]
  have := Nat.mod_lt (m / 2 ^ x) (show 0 < 2 by decide)
  generalize (m / 2 ^ x) % 2 = t at *
  have h2 : t = 0 ∨ t = 1 := by omega
  rcases h2 with rfl | rfl <;> rfl
end Go.Proofs.YtjkppigjajknaaaGreatDoor
