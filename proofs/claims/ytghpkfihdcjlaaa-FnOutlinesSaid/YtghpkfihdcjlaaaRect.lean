
/-
  The walk of the reference's rectangle.
-/
import Derived.Test.YtghpkfihdcjlaaaFlipX
import Derived.IntWalk
namespace Go.Proofs.Ytghpkfihdcjlaaa
open Go.RowKit

end Go.Proofs.Ytghpkfihdcjlaaa
