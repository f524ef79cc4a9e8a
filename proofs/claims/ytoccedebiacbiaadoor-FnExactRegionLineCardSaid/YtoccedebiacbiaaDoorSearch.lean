
/-
  The library's binary search, over the closure of putShape.
-/
import Derived.Test.YtoccedebiacbiaaDoorCmpS
namespace Go.Proofs.YtoccedebiacbiaaDoor
open Go.RowKit

end Go.Proofs.YtoccedebiacbiaaDoor
