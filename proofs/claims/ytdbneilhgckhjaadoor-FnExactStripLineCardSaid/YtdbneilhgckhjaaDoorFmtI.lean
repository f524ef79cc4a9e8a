
/-
  The program's FormatInt at every int, under the library's table.
-/
import Derived.Test.YtdbneilhgckhjaaDoorFmtInt
import Derived.Test.YtdbneilhgckhjaaDoorShelf
import Derived.Test.YtdbneilhgckhjaaDoorNumT
import Derived.Lib.SmallJoins
import Derived.Lib.AppendIntMem
namespace Go.Proofs.YtdbneilhgckhjaaDoor
open Go.RowKit

abbrev Tab10 (w : World) : Prop := Lib.TabIs Tryd.prog w "internal/strconv.uint64pow10" .u64 Lib.pow10Tab
set_option maxRecDepth 100000 in
theorem impl_fmtInt_c (n : Int) (w : World) (h0 : -4611686018427387904 ≤ n) (h1 : n ≤ 4611686018427387904) (ht : Tab10 w) :
    Calls Tryd.prog 39 #[.int .i64 n] w fun e w' => e = .returned (.string (ustr (Lib.itoa n))) ∧ Below w.heap.size w w' := by
  have HI := Lib.hid (Tryd.strconv_Itoa n (by omega) (by omega) w ht)
  clear ht
  go_enter Tryd.func39, Tryd.ntmps39
  go_wp2_with fail
  refine (HI.out).mono ?_
  rintro e w' ⟨rfl, k, os, rfl⟩
  have hb := Go.Lib.below_grow w.heap.size w (Nat.le_refl _) k os
  go_wp2
  go_ret
  exact ⟨rfl, hb⟩
/-- the text of an int -/
abbrev itoaB (n : Int) : ByteArray := ustr (Lib.itoa n)
theorem itoa_S (w : World) (n : Int) (h0 : -4611686018427387904 ≤ n) (h1 : n ≤ 4611686018427387904) : SNumAt w n (itoaB n) := fun w' _ => spec_fmtInt_c n w' h0 h1
set_option maxRecDepth 100000 in
theorem itoa_I (w : World) (ht : Tab10 w) (n : Int) (h0 : -4611686018427387904 ≤ n) (h1 : n ≤ 4611686018427387904) : INumAt w n (itoaB n) := fun w' hb => impl_fmtInt_c n w' h0 h1 (by
  have hs : (Tryd.prog.globalNamed "internal/strconv.uint64pow10").isSome = true := by kernel_rfl
  obtain ⟨g, hg⟩ := Option.isSome_iff_exists.1 hs
  exact Go.Joins.tab_stays hg ht hb (Nat.le_refl _))
end Go.Proofs.YtdbneilhgckhjaaDoor
