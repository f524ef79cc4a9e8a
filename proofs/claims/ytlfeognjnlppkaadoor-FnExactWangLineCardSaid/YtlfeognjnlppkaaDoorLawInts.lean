
/-
  The laws' helpers over []int and Region.
-/
import Derived.Test.YtlfeognjnlppkaaDoorProg
import Derived.Test.YtlfeognjnlppkaaDoorKinds
namespace Go.Proofs.YtlfeognjnlppkaaDoor
open Go.RowKit

set_option maxRecDepth 100000 in
theorem infoInt : (Tryd.prog.info? 3).map (fun i => (i.zero, i.size, i.bytes)) = some (some (.int .i64 0), 1, 8) := by kernel_rfl

/-! regions -/
end Go.Proofs.YtlfeognjnlppkaaDoor
