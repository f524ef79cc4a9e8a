/-
  NARROWER THAN 'FOR EVERY INPUT', by the rows' own cells (each row's printed sentence says how): FnExactCommonRegion: laid · FnExactCommonRectangle: laid · FnExactAreCompatible: laid · FnExactLeastCommonArea: laid · FnExactCommonTilings: laid · FnExactRepairTiling: laid · FnExactSafeRemovals: laid.
  DERIVED. THE GIVEN ROWS OF THIS SEAT. 7 by the template 'for every input the law returns true; each argument reads behind the call as it read before'; 0 by the template 'total and deterministic' (their statements: YtelneohlpljblaaGreatDoorTotals.lean).
  GIVEN WITH THE SEED: the statements are not yours to turn. If you find one false, say at which input.
  Laid BY PROGRAM, IN A SANDBOX (cutbox-rows.mjs): the forced cells as the released guide's own fill.sh prints them over the translation 6b6109fce80aeeca… (all of the seat's roots in one cut). By AI agents, Wed Nov 11 2026. No macro, syntax, notation, axiom, sorry.
-/
import Derived.Test.YtelneohlpljblaaGreatDoorChecked
import GoSem.Claim
import GoSem.ClaimJoined
import GoSem.ClaimMapViews
import Derived.JoinedTies
import Derived.KernelRfl
namespace Go.Proofs.YtelneohlpljblaaGreatDoor
/- THE CELL 'sum', in the pinned program and in every row, IS THE sha256 OF THE DUMP (.gsa) THAT YtelneohlpljblaaGreatDoorProg.lean LOADS. Nothing in Lean hashes anything: it is a label: what it is worth is what the hold of that sum in a sandbox is worth. -/
noncomputable def Tryz.pinned : Pinned := { name := "ytelneohlpljblaagreatdoor", sum := "6b6109fce80aeecaf68840c9594182d1d48e37c99eac3f87d254d09a83115019", checked := Tryz.checked }
namespace Rows
def none {H : Type} : Left H := { results := [], args := [] }

/- WHAT THE LISTED PACKAGE-LEVEL VARIABLES READ AS WHEN THE CALL BEGINS. Each datum BY PROGRAM (the guide's laid-datum.mjs) off the statement by which the dump's own 'gosem.cut.vars' lays the variable. In a bare row this is a premise. The card (YtelneohlpljblaaGreatDoorCards.lean) ties it to the program's text. -/
def laid_math_bits_deBruijn32tab {H : Type} : DataW H := .agg [.lit (.int .u8 0), .lit (.int .u8 1), .lit (.int .u8 28), .lit (.int .u8 2), .lit (.int .u8 29), .lit (.int .u8 14), .lit (.int .u8 24), .lit (.int .u8 3), .lit (.int .u8 30), .lit (.int .u8 22), .lit (.int .u8 20), .lit (.int .u8 15), .lit (.int .u8 25), .lit (.int .u8 17), .lit (.int .u8 4), .lit (.int .u8 8), .lit (.int .u8 31), .lit (.int .u8 27), .lit (.int .u8 13), .lit (.int .u8 23), .lit (.int .u8 21), .lit (.int .u8 19), .lit (.int .u8 16), .lit (.int .u8 7), .lit (.int .u8 26), .lit (.int .u8 12), .lit (.int .u8 18), .lit (.int .u8 6), .lit (.int .u8 11), .lit (.int .u8 5), .lit (.int .u8 10), .lit (.int .u8 9)]
def laid_math_bits_deBruijn64tab {H : Type} : DataW H := .agg [.lit (.int .u8 0), .lit (.int .u8 1), .lit (.int .u8 56), .lit (.int .u8 2), .lit (.int .u8 57), .lit (.int .u8 49), .lit (.int .u8 28), .lit (.int .u8 3), .lit (.int .u8 61), .lit (.int .u8 58), .lit (.int .u8 42), .lit (.int .u8 50), .lit (.int .u8 38), .lit (.int .u8 29), .lit (.int .u8 17), .lit (.int .u8 4), .lit (.int .u8 62), .lit (.int .u8 47), .lit (.int .u8 59), .lit (.int .u8 36), .lit (.int .u8 45), .lit (.int .u8 43), .lit (.int .u8 51), .lit (.int .u8 22), .lit (.int .u8 53), .lit (.int .u8 39), .lit (.int .u8 33), .lit (.int .u8 30), .lit (.int .u8 24), .lit (.int .u8 18), .lit (.int .u8 12), .lit (.int .u8 5), .lit (.int .u8 63), .lit (.int .u8 55), .lit (.int .u8 48), .lit (.int .u8 27), .lit (.int .u8 60), .lit (.int .u8 41), .lit (.int .u8 37), .lit (.int .u8 16), .lit (.int .u8 46), .lit (.int .u8 35), .lit (.int .u8 44), .lit (.int .u8 21), .lit (.int .u8 52), .lit (.int .u8 32), .lit (.int .u8 23), .lit (.int .u8 11), .lit (.int .u8 54), .lit (.int .u8 26), .lit (.int .u8 40), .lit (.int .u8 15), .lit (.int .u8 34), .lit (.int .u8 20), .lit (.int .u8 31), .lit (.int .u8 10), .lit (.int .u8 25), .lit (.int .u8 14), .lit (.int .u8 19), .lit (.int .u8 9), .lit (.int .u8 13), .lit (.int .u8 8), .lit (.int .u8 7), .lit (.int .u8 6)]

/-- 'laws.FnExactCommonRegion': WHATEVER THE INPUT: true; the input reads as it did. -/
def fnExactCommonRegionSpec : ChangeSpec := { name := "fnExactCommonRegion", fn := fun _ => fun
  | [d1, d2, d3] => { results := [.lit (.bool true)], args := [d1, d2, d3] }
  | _ => none }
def fnExactCommonRegionRow : OpenClaim := { program := "ytelneohlpljblaagreatdoor", sum := "6b6109fce80aeecaf68840c9594182d1d48e37c99eac3f87d254d09a83115019", func := "loop.example/g03400/laws.FnExactCommonRegion", spec := "fnExactCommonRegion", inPlace := ["internal/reflectlite.ValueOf", "internal/reflectlite.Swapper", "(internal/reflectlite.Value).Len"], unfollowed := true, recurses := true, named := ["math/bits.deBruijn32tab", "math/bits.deBruijn64tab"], apart := false, laid := [("math/bits.deBruijn32tab", laid_math_bits_deBruijn32tab), ("math/bits.deBruijn64tab", laid_math_bits_deBruijn64tab)] }
def FnExactCommonRegionSaid : Prop := fnExactCommonRegionRow.holds Tryz.pinned (OpenSpec.ofChange fnExactCommonRegionSpec)

/-- ITS FALSE NEIGHBOUR: 'it returns false'. Refute it at one input. -/
def fnExactCommonRegionWrong : ChangeSpec := { name := "fnExactCommonRegion", fn := fun _ => fun
  | [d1, d2, d3] => { results := [.lit (.bool false)], args := [d1, d2, d3] }
  | _ => none }
def FnExactCommonRegionWrongFalsely : Prop := fnExactCommonRegionRow.holds Tryz.pinned (OpenSpec.ofChange fnExactCommonRegionWrong)

/-- 'laws.FnExactCommonRectangle': WHATEVER THE INPUT: true; the input reads as it did. -/
def fnExactCommonRectangleSpec : ChangeSpec := { name := "fnExactCommonRectangle", fn := fun _ => fun
  | [d1, d2] => { results := [.lit (.bool true)], args := [d1, d2] }
  | _ => none }
def fnExactCommonRectangleRow : OpenClaim := { program := "ytelneohlpljblaagreatdoor", sum := "6b6109fce80aeecaf68840c9594182d1d48e37c99eac3f87d254d09a83115019", func := "loop.example/g03400/laws.FnExactCommonRectangle", spec := "fnExactCommonRectangle", inPlace := ["internal/reflectlite.ValueOf", "internal/reflectlite.Swapper", "(internal/reflectlite.Value).Len"], unfollowed := true, recurses := true, named := ["math/bits.deBruijn32tab", "math/bits.deBruijn64tab"], apart := false, laid := [("math/bits.deBruijn32tab", laid_math_bits_deBruijn32tab), ("math/bits.deBruijn64tab", laid_math_bits_deBruijn64tab)] }
def FnExactCommonRectangleSaid : Prop := fnExactCommonRectangleRow.holds Tryz.pinned (OpenSpec.ofChange fnExactCommonRectangleSpec)

/-- ITS FALSE NEIGHBOUR: 'it returns false'. Refute it at one input. -/
def fnExactCommonRectangleWrong : ChangeSpec := { name := "fnExactCommonRectangle", fn := fun _ => fun
  | [d1, d2] => { results := [.lit (.bool false)], args := [d1, d2] }
  | _ => none }
def FnExactCommonRectangleWrongFalsely : Prop := fnExactCommonRectangleRow.holds Tryz.pinned (OpenSpec.ofChange fnExactCommonRectangleWrong)

/-- 'laws.FnExactAreCompatible': WHATEVER THE INPUT: true; the input reads as it did. -/
def fnExactAreCompatibleSpec : ChangeSpec := { name := "fnExactAreCompatible", fn := fun _ => fun
  | [d1, d2] => { results := [.lit (.bool true)], args := [d1, d2] }
  | _ => none }
def fnExactAreCompatibleRow : OpenClaim := { program := "ytelneohlpljblaagreatdoor", sum := "6b6109fce80aeecaf68840c9594182d1d48e37c99eac3f87d254d09a83115019", func := "loop.example/g03400/laws.FnExactAreCompatible", spec := "fnExactAreCompatible", inPlace := ["internal/reflectlite.ValueOf", "internal/reflectlite.Swapper", "(internal/reflectlite.Value).Len"], unfollowed := true, recurses := true, named := ["math/bits.deBruijn32tab", "math/bits.deBruijn64tab"], apart := false, laid := [("math/bits.deBruijn32tab", laid_math_bits_deBruijn32tab), ("math/bits.deBruijn64tab", laid_math_bits_deBruijn64tab)] }
def FnExactAreCompatibleSaid : Prop := fnExactAreCompatibleRow.holds Tryz.pinned (OpenSpec.ofChange fnExactAreCompatibleSpec)

/-- ITS FALSE NEIGHBOUR: 'it returns false'. Refute it at one input. -/
def fnExactAreCompatibleWrong : ChangeSpec := { name := "fnExactAreCompatible", fn := fun _ => fun
  | [d1, d2] => { results := [.lit (.bool false)], args := [d1, d2] }
  | _ => none }
def FnExactAreCompatibleWrongFalsely : Prop := fnExactAreCompatibleRow.holds Tryz.pinned (OpenSpec.ofChange fnExactAreCompatibleWrong)

/-- 'laws.FnExactLeastCommonArea': WHATEVER THE INPUT: true; the input reads as it did. -/
def fnExactLeastCommonAreaSpec : ChangeSpec := { name := "fnExactLeastCommonArea", fn := fun _ => fun
  | [d1, d2] => { results := [.lit (.bool true)], args := [d1, d2] }
  | _ => none }
def fnExactLeastCommonAreaRow : OpenClaim := { program := "ytelneohlpljblaagreatdoor", sum := "6b6109fce80aeecaf68840c9594182d1d48e37c99eac3f87d254d09a83115019", func := "loop.example/g03400/laws.FnExactLeastCommonArea", spec := "fnExactLeastCommonArea", inPlace := ["internal/reflectlite.ValueOf", "internal/reflectlite.Swapper", "(internal/reflectlite.Value).Len"], unfollowed := true, recurses := true, named := ["math/bits.deBruijn32tab", "math/bits.deBruijn64tab"], apart := false, laid := [("math/bits.deBruijn32tab", laid_math_bits_deBruijn32tab), ("math/bits.deBruijn64tab", laid_math_bits_deBruijn64tab)] }
def FnExactLeastCommonAreaSaid : Prop := fnExactLeastCommonAreaRow.holds Tryz.pinned (OpenSpec.ofChange fnExactLeastCommonAreaSpec)

/-- ITS FALSE NEIGHBOUR: 'it returns false'. Refute it at one input. -/
def fnExactLeastCommonAreaWrong : ChangeSpec := { name := "fnExactLeastCommonArea", fn := fun _ => fun
  | [d1, d2] => { results := [.lit (.bool false)], args := [d1, d2] }
  | _ => none }
def FnExactLeastCommonAreaWrongFalsely : Prop := fnExactLeastCommonAreaRow.holds Tryz.pinned (OpenSpec.ofChange fnExactLeastCommonAreaWrong)

/-- 'laws.FnExactCommonTilings': WHATEVER THE INPUT: true; the input reads as it did. -/
def fnExactCommonTilingsSpec : ChangeSpec := { name := "fnExactCommonTilings", fn := fun _ => fun
  | [d1, d2] => { results := [.lit (.bool true)], args := [d1, d2] }
  | _ => none }
def fnExactCommonTilingsRow : OpenClaim := { program := "ytelneohlpljblaagreatdoor", sum := "6b6109fce80aeecaf68840c9594182d1d48e37c99eac3f87d254d09a83115019", func := "loop.example/g03400/laws.FnExactCommonTilings", spec := "fnExactCommonTilings", inPlace := ["internal/reflectlite.ValueOf", "internal/reflectlite.Swapper", "(internal/reflectlite.Value).Len"], unfollowed := true, recurses := true, named := ["math/bits.deBruijn32tab", "math/bits.deBruijn64tab"], apart := false, laid := [("math/bits.deBruijn32tab", laid_math_bits_deBruijn32tab), ("math/bits.deBruijn64tab", laid_math_bits_deBruijn64tab)] }
def FnExactCommonTilingsSaid : Prop := fnExactCommonTilingsRow.holds Tryz.pinned (OpenSpec.ofChange fnExactCommonTilingsSpec)

/-- ITS FALSE NEIGHBOUR: 'it returns false'. Refute it at one input. -/
def fnExactCommonTilingsWrong : ChangeSpec := { name := "fnExactCommonTilings", fn := fun _ => fun
  | [d1, d2] => { results := [.lit (.bool false)], args := [d1, d2] }
  | _ => none }
def FnExactCommonTilingsWrongFalsely : Prop := fnExactCommonTilingsRow.holds Tryz.pinned (OpenSpec.ofChange fnExactCommonTilingsWrong)

/-- 'laws.FnExactRepairTiling': WHATEVER THE INPUT: true; the input reads as it did. -/
def fnExactRepairTilingSpec : ChangeSpec := { name := "fnExactRepairTiling", fn := fun _ => fun
  | [d1, d2, d3] => { results := [.lit (.bool true)], args := [d1, d2, d3] }
  | _ => none }
def fnExactRepairTilingRow : OpenClaim := { program := "ytelneohlpljblaagreatdoor", sum := "6b6109fce80aeecaf68840c9594182d1d48e37c99eac3f87d254d09a83115019", func := "loop.example/g03400/laws.FnExactRepairTiling", spec := "fnExactRepairTiling", inPlace := ["internal/reflectlite.ValueOf", "internal/reflectlite.Swapper", "(internal/reflectlite.Value).Len"], unfollowed := true, recurses := true, named := ["math/bits.deBruijn32tab", "math/bits.deBruijn64tab"], apart := false, laid := [("math/bits.deBruijn32tab", laid_math_bits_deBruijn32tab), ("math/bits.deBruijn64tab", laid_math_bits_deBruijn64tab)] }
def FnExactRepairTilingSaid : Prop := fnExactRepairTilingRow.holds Tryz.pinned (OpenSpec.ofChange fnExactRepairTilingSpec)

/-- ITS FALSE NEIGHBOUR: 'it returns false'. Refute it at one input. -/
def fnExactRepairTilingWrong : ChangeSpec := { name := "fnExactRepairTiling", fn := fun _ => fun
  | [d1, d2, d3] => { results := [.lit (.bool false)], args := [d1, d2, d3] }
  | _ => none }
def FnExactRepairTilingWrongFalsely : Prop := fnExactRepairTilingRow.holds Tryz.pinned (OpenSpec.ofChange fnExactRepairTilingWrong)

/-- 'laws.FnExactSafeRemovals': WHATEVER THE INPUT: true; the input reads as it did. -/
def fnExactSafeRemovalsSpec : ChangeSpec := { name := "fnExactSafeRemovals", fn := fun _ => fun
  | [d1, d2] => { results := [.lit (.bool true)], args := [d1, d2] }
  | _ => none }
def fnExactSafeRemovalsRow : OpenClaim := { program := "ytelneohlpljblaagreatdoor", sum := "6b6109fce80aeecaf68840c9594182d1d48e37c99eac3f87d254d09a83115019", func := "loop.example/g03400/laws.FnExactSafeRemovals", spec := "fnExactSafeRemovals", inPlace := ["internal/reflectlite.ValueOf", "internal/reflectlite.Swapper", "(internal/reflectlite.Value).Len"], unfollowed := true, recurses := true, named := ["math/bits.deBruijn32tab", "math/bits.deBruijn64tab"], apart := false, laid := [("math/bits.deBruijn32tab", laid_math_bits_deBruijn32tab), ("math/bits.deBruijn64tab", laid_math_bits_deBruijn64tab)] }
def FnExactSafeRemovalsSaid : Prop := fnExactSafeRemovalsRow.holds Tryz.pinned (OpenSpec.ofChange fnExactSafeRemovalsSpec)

/-- ITS FALSE NEIGHBOUR: 'it returns false'. Refute it at one input. -/
def fnExactSafeRemovalsWrong : ChangeSpec := { name := "fnExactSafeRemovals", fn := fun _ => fun
  | [d1, d2] => { results := [.lit (.bool false)], args := [d1, d2] }
  | _ => none }
def FnExactSafeRemovalsWrongFalsely : Prop := fnExactSafeRemovalsRow.holds Tryz.pinned (OpenSpec.ofChange fnExactSafeRemovalsWrong)

/- THE SECOND FORM. 'bulk': how many values and letters a reading holds, each counted each time it is reached (what is shared counts as often as it is met; a slice's spare places count too). A statement '..UptoSaid' is the law's where the arguments, and the package variables that the reading takes, are together of bulk at most 1048576: NARROWER than '..Said'. Prove '..Said' where nothing that the law and all that it calls make is longer than what came in: it says more and counts as full. Else prove '..UptoSaid'. A law counts once. -/
mutual
def uptoBulk {H : Type} : DataW H → Nat
  | .lit (.string bytes) => bytes.length + 1
  | .lit _ => 1
  | .nil => 1
  | .ptr d => uptoBulk d + 1
  | .slice elems spare => uptoBulkAll elems + uptoBulkAll spare + 1
  | .agg parts => uptoBulkAll parts + 1
  | .iface _ d => uptoBulk d + 1
  | .map entries => uptoBulkEntries entries + 1
  | .held _ => 1
def uptoBulkAll {H : Type} : List (DataW H) → Nat
  | [] => 0
  | d :: r => uptoBulk d + uptoBulkAll r
def uptoBulkEntries {H : Type} : List (Lit × DataW H) → Nat
  | [] => 0
  | x :: r => uptoBulkEntry x + uptoBulkEntries r
def uptoBulkEntry {H : Type} : Lit × DataW H → Nat
  | (.string bytes, d) => bytes.length + uptoBulk d + 1
  | (_, d) => uptoBulk d + 1
 end
def uptoSmall : (H : Type) → List (DataW H) → Bool := fun _ ds => decide (uptoBulkAll ds ≤ 1048576)
def OpenSpec.upto (s : _root_.Go.ChangeSpec) : _root_.Go.OpenSpec := { _root_.Go.OpenSpec.ofChange s with cond := some uptoSmall }

/-- 'laws.FnExactCommonRegion', WHERE WHAT IT READS IS OF BULK AT MOST 1048576: true; the input reads as it did. -/
def fnExactCommonRegionUptoRow : OpenClaim := { program := "ytelneohlpljblaagreatdoor", sum := "6b6109fce80aeecaf68840c9594182d1d48e37c99eac3f87d254d09a83115019", func := "loop.example/g03400/laws.FnExactCommonRegion", spec := "fnExactCommonRegion", inPlace := ["internal/reflectlite.ValueOf", "internal/reflectlite.Swapper", "(internal/reflectlite.Value).Len"], unfollowed := true, recurses := true, named := ["math/bits.deBruijn32tab", "math/bits.deBruijn64tab"], apart := false, laid := [("math/bits.deBruijn32tab", laid_math_bits_deBruijn32tab), ("math/bits.deBruijn64tab", laid_math_bits_deBruijn64tab)], narrowed := true }
def FnExactCommonRegionUptoSaid : Prop := fnExactCommonRegionUptoRow.holds Tryz.pinned (OpenSpec.upto fnExactCommonRegionSpec)

/-- 'laws.FnExactCommonRectangle', WHERE WHAT IT READS IS OF BULK AT MOST 1048576: true; the input reads as it did. -/
def fnExactCommonRectangleUptoRow : OpenClaim := { program := "ytelneohlpljblaagreatdoor", sum := "6b6109fce80aeecaf68840c9594182d1d48e37c99eac3f87d254d09a83115019", func := "loop.example/g03400/laws.FnExactCommonRectangle", spec := "fnExactCommonRectangle", inPlace := ["internal/reflectlite.ValueOf", "internal/reflectlite.Swapper", "(internal/reflectlite.Value).Len"], unfollowed := true, recurses := true, named := ["math/bits.deBruijn32tab", "math/bits.deBruijn64tab"], apart := false, laid := [("math/bits.deBruijn32tab", laid_math_bits_deBruijn32tab), ("math/bits.deBruijn64tab", laid_math_bits_deBruijn64tab)], narrowed := true }
def FnExactCommonRectangleUptoSaid : Prop := fnExactCommonRectangleUptoRow.holds Tryz.pinned (OpenSpec.upto fnExactCommonRectangleSpec)

/-- 'laws.FnExactAreCompatible', WHERE WHAT IT READS IS OF BULK AT MOST 1048576: true; the input reads as it did. -/
def fnExactAreCompatibleUptoRow : OpenClaim := { program := "ytelneohlpljblaagreatdoor", sum := "6b6109fce80aeecaf68840c9594182d1d48e37c99eac3f87d254d09a83115019", func := "loop.example/g03400/laws.FnExactAreCompatible", spec := "fnExactAreCompatible", inPlace := ["internal/reflectlite.ValueOf", "internal/reflectlite.Swapper", "(internal/reflectlite.Value).Len"], unfollowed := true, recurses := true, named := ["math/bits.deBruijn32tab", "math/bits.deBruijn64tab"], apart := false, laid := [("math/bits.deBruijn32tab", laid_math_bits_deBruijn32tab), ("math/bits.deBruijn64tab", laid_math_bits_deBruijn64tab)], narrowed := true }
def FnExactAreCompatibleUptoSaid : Prop := fnExactAreCompatibleUptoRow.holds Tryz.pinned (OpenSpec.upto fnExactAreCompatibleSpec)

/-- 'laws.FnExactLeastCommonArea', WHERE WHAT IT READS IS OF BULK AT MOST 1048576: true; the input reads as it did. -/
def fnExactLeastCommonAreaUptoRow : OpenClaim := { program := "ytelneohlpljblaagreatdoor", sum := "6b6109fce80aeecaf68840c9594182d1d48e37c99eac3f87d254d09a83115019", func := "loop.example/g03400/laws.FnExactLeastCommonArea", spec := "fnExactLeastCommonArea", inPlace := ["internal/reflectlite.ValueOf", "internal/reflectlite.Swapper", "(internal/reflectlite.Value).Len"], unfollowed := true, recurses := true, named := ["math/bits.deBruijn32tab", "math/bits.deBruijn64tab"], apart := false, laid := [("math/bits.deBruijn32tab", laid_math_bits_deBruijn32tab), ("math/bits.deBruijn64tab", laid_math_bits_deBruijn64tab)], narrowed := true }
def FnExactLeastCommonAreaUptoSaid : Prop := fnExactLeastCommonAreaUptoRow.holds Tryz.pinned (OpenSpec.upto fnExactLeastCommonAreaSpec)

/-- 'laws.FnExactCommonTilings', WHERE WHAT IT READS IS OF BULK AT MOST 1048576: true; the input reads as it did. -/
def fnExactCommonTilingsUptoRow : OpenClaim := { program := "ytelneohlpljblaagreatdoor", sum := "6b6109fce80aeecaf68840c9594182d1d48e37c99eac3f87d254d09a83115019", func := "loop.example/g03400/laws.FnExactCommonTilings", spec := "fnExactCommonTilings", inPlace := ["internal/reflectlite.ValueOf", "internal/reflectlite.Swapper", "(internal/reflectlite.Value).Len"], unfollowed := true, recurses := true, named := ["math/bits.deBruijn32tab", "math/bits.deBruijn64tab"], apart := false, laid := [("math/bits.deBruijn32tab", laid_math_bits_deBruijn32tab), ("math/bits.deBruijn64tab", laid_math_bits_deBruijn64tab)], narrowed := true }
def FnExactCommonTilingsUptoSaid : Prop := fnExactCommonTilingsUptoRow.holds Tryz.pinned (OpenSpec.upto fnExactCommonTilingsSpec)

/-- 'laws.FnExactRepairTiling', WHERE WHAT IT READS IS OF BULK AT MOST 1048576: true; the input reads as it did. -/
def fnExactRepairTilingUptoRow : OpenClaim := { program := "ytelneohlpljblaagreatdoor", sum := "6b6109fce80aeecaf68840c9594182d1d48e37c99eac3f87d254d09a83115019", func := "loop.example/g03400/laws.FnExactRepairTiling", spec := "fnExactRepairTiling", inPlace := ["internal/reflectlite.ValueOf", "internal/reflectlite.Swapper", "(internal/reflectlite.Value).Len"], unfollowed := true, recurses := true, named := ["math/bits.deBruijn32tab", "math/bits.deBruijn64tab"], apart := false, laid := [("math/bits.deBruijn32tab", laid_math_bits_deBruijn32tab), ("math/bits.deBruijn64tab", laid_math_bits_deBruijn64tab)], narrowed := true }
def FnExactRepairTilingUptoSaid : Prop := fnExactRepairTilingUptoRow.holds Tryz.pinned (OpenSpec.upto fnExactRepairTilingSpec)

/-- 'laws.FnExactSafeRemovals', WHERE WHAT IT READS IS OF BULK AT MOST 1048576: true; the input reads as it did. -/
def fnExactSafeRemovalsUptoRow : OpenClaim := { program := "ytelneohlpljblaagreatdoor", sum := "6b6109fce80aeecaf68840c9594182d1d48e37c99eac3f87d254d09a83115019", func := "loop.example/g03400/laws.FnExactSafeRemovals", spec := "fnExactSafeRemovals", inPlace := ["internal/reflectlite.ValueOf", "internal/reflectlite.Swapper", "(internal/reflectlite.Value).Len"], unfollowed := true, recurses := true, named := ["math/bits.deBruijn32tab", "math/bits.deBruijn64tab"], apart := false, laid := [("math/bits.deBruijn32tab", laid_math_bits_deBruijn32tab), ("math/bits.deBruijn64tab", laid_math_bits_deBruijn64tab)], narrowed := true }
def FnExactSafeRemovalsUptoSaid : Prop := fnExactSafeRemovalsUptoRow.holds Tryz.pinned (OpenSpec.upto fnExactSafeRemovalsSpec)

end Rows
end Go.Proofs.YtelneohlpljblaaGreatDoor
