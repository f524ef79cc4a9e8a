
/-
  Shapes: the border of a shape: steps with the shape at the right hand: both sides.
-/
import Derived.Test.YtbdffadhieljbaaGreatDoorShpX
import Derived.Test.YtbdffadhieljbaaGreatDoorSepX
import Derived.Deep.DeepCutAuto
namespace Go.Proofs.YtbdffadhieljbaaGreatDoor
open Go.RowKit

def hs (s : List Cell) (x y : Int) : Bool := decide ((⟨x, y⟩ : Cell) ∈ s)
def edge (s : List Cell) (c : Cell) : Nat → Bool
  | 0 => hs s c.x c.y && !hs s c.x (c.y - 1)
  | 1 => hs s (c.x - 1) c.y && !hs s c.x c.y
  | 2 => hs s (c.x - 1) (c.y - 1) && !hs s (c.x - 1) c.y
  | _ => hs s c.x (c.y - 1) && !hs s (c.x - 1) (c.y - 1)
def dirB : Nat → Int
  | 0 => 114
  | 1 => 100
  | 2 => 108
  | _ => 117
def stepC (c : Cell) : Nat → Cell
  | 0 => ⟨c.x + 1, c.y⟩
  | 1 => ⟨c.x, c.y + 1⟩
  | 2 => ⟨c.x - 1, c.y⟩
  | _ => ⟨c.x, c.y - 1⟩

end Go.Proofs.YtbdffadhieljbaaGreatDoor
