
/-
  The library's binary search, over the closure of putShape.
-/
import Derived.Test.YtghpkfihdcjlaaaCmpS
namespace Go.Proofs.Ytghpkfihdcjlaaa
open Go.RowKit

end Go.Proofs.Ytghpkfihdcjlaaa
