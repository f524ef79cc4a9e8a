
/-
  The walk of the reference's rectangle.
-/
import Derived.Test.YtghpkfihdcjlaaaGreatDoorFlipX
import Derived.IntWalk
namespace Go.Proofs.YtghpkfihdcjlaaaGreatDoor
open Go.RowKit

end Go.Proofs.YtghpkfihdcjlaaaGreatDoor
