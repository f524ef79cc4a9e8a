
/-
  The library's binary search, over the closure of putShape.
-/
import Derived.Test.YtghpkfihdcjlaaaGreatDoorCmpS
namespace Go.Proofs.YtghpkfihdcjlaaaGreatDoor
open Go.RowKit

end Go.Proofs.YtghpkfihdcjlaaaGreatDoor
