
/-
  A row's list of package variables gives the library's table.
-/
import Derived.Test.YtelneohlpljblaaGreatDoorDivP
namespace Go.Proofs.YtelneohlpljblaaGreatDoor
open Go.RowKit

set_option maxRecDepth 100000 in
/-- a row's list gives the table -/
theorem tab64_laid {x : String × DataW Unit} {W : World} (h : laidMet Tryz.prog [x, ("math/bits.deBruijn64tab", Lib.tabData .u8 tab64L)] W) : Tab64 W := by
  have hs : ((Tryz.prog.globalNamed "math/bits.deBruijn64tab").bind fun g => (Tryz.prog.globals[g]?).map (·.type)) = some 143 := by kernel_rfl
  obtain ⟨g, hg, hty⟩ := Option.bind_eq_some_iff.1 hs
  exact Lib.tabIs_of_head hg hty Tryz.underlying143 Tryz.underlying5 (by kernel_rfl) (by kernel_rfl) h.tail
end Go.Proofs.YtelneohlpljblaaGreatDoor
