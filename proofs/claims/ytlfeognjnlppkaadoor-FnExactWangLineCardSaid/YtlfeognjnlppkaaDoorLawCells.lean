
/-
  The walks over cells: the law's helpers.
-/
import Derived.Test.YtlfeognjnlppkaaDoorProg
import Derived.Test.YtlfeognjnlppkaaDoorKinds
namespace Go.Proofs.YtlfeognjnlppkaaDoor
open Go.RowKit

end Go.Proofs.YtlfeognjnlppkaaDoor
