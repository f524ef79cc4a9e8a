/-
  No cell of these rows narrows 'for every input' (looked for: loops, veiled, ifaces, maps, wideKeys, modest, calm, conditions, laid).
  DERIVED. THE GIVEN ROWS OF THIS SEAT. 9 by the template 'for every input the law returns true; each argument reads behind the call as it read before'; 0 by the template 'total and deterministic' (their statements: YthdacnlkonheaaaTotals.lean).
  GIVEN WITH THE SEED: the statements are not yours to turn. If you find one false, say at which input.
  Laid BY PROGRAM, IN A SANDBOX (cutbox-rows.mjs): the forced cells as the released guide's own fill.sh prints them over the translation 242bb6e2c7b7f360… (all of the seat's roots in one cut). By AI agents, Wed Nov 11 2026. No macro, syntax, notation, axiom, sorry.
-/
import Derived.Test.YthdacnlkonheaaaChecked
import GoSem.Claim
import GoSem.ClaimJoined
import GoSem.ClaimMapViews
import Derived.JoinedTies
import Derived.KernelRfl
namespace Go.Proofs.Ythdacnlkonheaaa
/- THE CELL 'sum', in the pinned program and in every row, IS THE sha256 OF THE DUMP (.gsa) THAT YthdacnlkonheaaaProg.lean LOADS. Nothing in Lean hashes anything: it is a label: what it is worth is what the hold of that sum in a sandbox is worth. -/
noncomputable def Try.pinned : Pinned := { name := "ythdacnlkonheaaa", sum := "242bb6e2c7b7f360f3eb03791f08d6b4c8070aa9d523c8577b97c9784c6bae7c", checked := Try.checked }
namespace Rows
def none {H : Type} : Left H := { results := [], args := [] }

/-- 'laws.FnExactApplyEdits': WHATEVER THE INPUT: true; the input reads as it did. -/
def fnExactApplyEditsSpec : ChangeSpec := { name := "fnExactApplyEdits", fn := fun _ => fun
  | [d1, d2] => { results := [.lit (.bool true)], args := [d1, d2] }
  | _ => none }
def fnExactApplyEditsRow : OpenClaim := { program := "ythdacnlkonheaaa", sum := "242bb6e2c7b7f360f3eb03791f08d6b4c8070aa9d523c8577b97c9784c6bae7c", func := "loop.example/g03400/laws.FnExactApplyEdits", spec := "fnExactApplyEdits", plainKeys := false, apart := false }
def FnExactApplyEditsSaid : Prop := fnExactApplyEditsRow.holds Try.pinned (OpenSpec.ofChange fnExactApplyEditsSpec)

/-- ITS FALSE NEIGHBOUR: 'it returns false'. Refute it at one input. -/
def fnExactApplyEditsWrong : ChangeSpec := { name := "fnExactApplyEdits", fn := fun _ => fun
  | [d1, d2] => { results := [.lit (.bool false)], args := [d1, d2] }
  | _ => none }
def FnExactApplyEditsWrongFalsely : Prop := fnExactApplyEditsRow.holds Try.pinned (OpenSpec.ofChange fnExactApplyEditsWrong)

/-- 'laws.FnExactSpanningWay': WHATEVER THE INPUT: true; the input reads as it did. -/
def fnExactSpanningWaySpec : ChangeSpec := { name := "fnExactSpanningWay", fn := fun _ => fun
  | [d] => { results := [.lit (.bool true)], args := [d] }
  | _ => none }
def fnExactSpanningWayRow : OpenClaim := { program := "ythdacnlkonheaaa", sum := "242bb6e2c7b7f360f3eb03791f08d6b4c8070aa9d523c8577b97c9784c6bae7c", func := "loop.example/g03400/laws.FnExactSpanningWay", spec := "fnExactSpanningWay", unfollowed := true, recurses := true, plainKeys := false, apart := false }
def FnExactSpanningWaySaid : Prop := fnExactSpanningWayRow.holds Try.pinned (OpenSpec.ofChange fnExactSpanningWaySpec)

/-- ITS FALSE NEIGHBOUR: 'it returns false'. Refute it at one input. -/
def fnExactSpanningWayWrong : ChangeSpec := { name := "fnExactSpanningWay", fn := fun _ => fun
  | [d] => { results := [.lit (.bool false)], args := [d] }
  | _ => none }
def FnExactSpanningWayWrongFalsely : Prop := fnExactSpanningWayRow.holds Try.pinned (OpenSpec.ofChange fnExactSpanningWayWrong)

/-- 'laws.FnExactSpanningTable': WHATEVER THE INPUT: true; the input reads as it did. -/
def fnExactSpanningTableSpec : ChangeSpec := { name := "fnExactSpanningTable", fn := fun _ => fun
  | [d1, d2] => { results := [.lit (.bool true)], args := [d1, d2] }
  | _ => none }
def fnExactSpanningTableRow : OpenClaim := { program := "ythdacnlkonheaaa", sum := "242bb6e2c7b7f360f3eb03791f08d6b4c8070aa9d523c8577b97c9784c6bae7c", func := "loop.example/g03400/laws.FnExactSpanningTable", spec := "fnExactSpanningTable", unfollowed := true, recurses := true, plainKeys := false, apart := false }
def FnExactSpanningTableSaid : Prop := fnExactSpanningTableRow.holds Try.pinned (OpenSpec.ofChange fnExactSpanningTableSpec)

/-- ITS FALSE NEIGHBOUR: 'it returns false'. Refute it at one input. -/
def fnExactSpanningTableWrong : ChangeSpec := { name := "fnExactSpanningTable", fn := fun _ => fun
  | [d1, d2] => { results := [.lit (.bool false)], args := [d1, d2] }
  | _ => none }
def FnExactSpanningTableWrongFalsely : Prop := fnExactSpanningTableRow.holds Try.pinned (OpenSpec.ofChange fnExactSpanningTableWrong)

/-- 'laws.FnExactBlockingWay': WHATEVER THE INPUT: true; the input reads as it did. -/
def fnExactBlockingWaySpec : ChangeSpec := { name := "fnExactBlockingWay", fn := fun _ => fun
  | [d] => { results := [.lit (.bool true)], args := [d] }
  | _ => none }
def fnExactBlockingWayRow : OpenClaim := { program := "ythdacnlkonheaaa", sum := "242bb6e2c7b7f360f3eb03791f08d6b4c8070aa9d523c8577b97c9784c6bae7c", func := "loop.example/g03400/laws.FnExactBlockingWay", spec := "fnExactBlockingWay", unfollowed := true, recurses := true, plainKeys := false, apart := false }
def FnExactBlockingWaySaid : Prop := fnExactBlockingWayRow.holds Try.pinned (OpenSpec.ofChange fnExactBlockingWaySpec)

/-- ITS FALSE NEIGHBOUR: 'it returns false'. Refute it at one input. -/
def fnExactBlockingWayWrong : ChangeSpec := { name := "fnExactBlockingWay", fn := fun _ => fun
  | [d] => { results := [.lit (.bool false)], args := [d] }
  | _ => none }
def FnExactBlockingWayWrongFalsely : Prop := fnExactBlockingWayRow.holds Try.pinned (OpenSpec.ofChange fnExactBlockingWayWrong)

/-- 'laws.FnExactPivotalCells': WHATEVER THE INPUT: true; the input reads as it did. -/
def fnExactPivotalCellsSpec : ChangeSpec := { name := "fnExactPivotalCells", fn := fun _ => fun
  | [d] => { results := [.lit (.bool true)], args := [d] }
  | _ => none }
def fnExactPivotalCellsRow : OpenClaim := { program := "ythdacnlkonheaaa", sum := "242bb6e2c7b7f360f3eb03791f08d6b4c8070aa9d523c8577b97c9784c6bae7c", func := "loop.example/g03400/laws.FnExactPivotalCells", spec := "fnExactPivotalCells", unfollowed := true, recurses := true, plainKeys := false, apart := false }
def FnExactPivotalCellsSaid : Prop := fnExactPivotalCellsRow.holds Try.pinned (OpenSpec.ofChange fnExactPivotalCellsSpec)

/-- ITS FALSE NEIGHBOUR: 'it returns false'. Refute it at one input. -/
def fnExactPivotalCellsWrong : ChangeSpec := { name := "fnExactPivotalCells", fn := fun _ => fun
  | [d] => { results := [.lit (.bool false)], args := [d] }
  | _ => none }
def FnExactPivotalCellsWrongFalsely : Prop := fnExactPivotalCellsRow.holds Try.pinned (OpenSpec.ofChange fnExactPivotalCellsWrong)

/-- 'laws.FnExactEqualClaims': WHATEVER THE INPUT: true; the input reads as it did. -/
def fnExactEqualClaimsSpec : ChangeSpec := { name := "fnExactEqualClaims", fn := fun _ => fun
  | [d1, d2] => { results := [.lit (.bool true)], args := [d1, d2] }
  | _ => none }
def fnExactEqualClaimsRow : OpenClaim := { program := "ythdacnlkonheaaa", sum := "242bb6e2c7b7f360f3eb03791f08d6b4c8070aa9d523c8577b97c9784c6bae7c", func := "loop.example/g03400/laws.FnExactEqualClaims", spec := "fnExactEqualClaims", plainKeys := false, apart := false }
def FnExactEqualClaimsSaid : Prop := fnExactEqualClaimsRow.holds Try.pinned (OpenSpec.ofChange fnExactEqualClaimsSpec)

/-- ITS FALSE NEIGHBOUR: 'it returns false'. Refute it at one input. -/
def fnExactEqualClaimsWrong : ChangeSpec := { name := "fnExactEqualClaims", fn := fun _ => fun
  | [d1, d2] => { results := [.lit (.bool false)], args := [d1, d2] }
  | _ => none }
def FnExactEqualClaimsWrongFalsely : Prop := fnExactEqualClaimsRow.holds Try.pinned (OpenSpec.ofChange fnExactEqualClaimsWrong)

/-- 'laws.FnExactBoundaryWord': WHATEVER THE INPUT: true; the input reads as it did. -/
def fnExactBoundaryWordSpec : ChangeSpec := { name := "fnExactBoundaryWord", fn := fun _ => fun
  | [d] => { results := [.lit (.bool true)], args := [d] }
  | _ => none }
def fnExactBoundaryWordRow : OpenClaim := { program := "ythdacnlkonheaaa", sum := "242bb6e2c7b7f360f3eb03791f08d6b4c8070aa9d523c8577b97c9784c6bae7c", func := "loop.example/g03400/laws.FnExactBoundaryWord", spec := "fnExactBoundaryWord", plainKeys := false, apart := false }
def FnExactBoundaryWordSaid : Prop := fnExactBoundaryWordRow.holds Try.pinned (OpenSpec.ofChange fnExactBoundaryWordSpec)

/-- ITS FALSE NEIGHBOUR: 'it returns false'. Refute it at one input. -/
def fnExactBoundaryWordWrong : ChangeSpec := { name := "fnExactBoundaryWord", fn := fun _ => fun
  | [d] => { results := [.lit (.bool false)], args := [d] }
  | _ => none }
def FnExactBoundaryWordWrongFalsely : Prop := fnExactBoundaryWordRow.holds Try.pinned (OpenSpec.ofChange fnExactBoundaryWordWrong)

/-- 'laws.FnExactClaimOfPeriod': WHATEVER THE INPUT: true; the input reads as it did. -/
def fnExactClaimOfPeriodSpec : ChangeSpec := { name := "fnExactClaimOfPeriod", fn := fun _ => fun
  | [d] => { results := [.lit (.bool true)], args := [d] }
  | _ => none }
def fnExactClaimOfPeriodRow : OpenClaim := { program := "ythdacnlkonheaaa", sum := "242bb6e2c7b7f360f3eb03791f08d6b4c8070aa9d523c8577b97c9784c6bae7c", func := "loop.example/g03400/laws.FnExactClaimOfPeriod", spec := "fnExactClaimOfPeriod", unfollowed := true, recurses := true, plainKeys := false, apart := false }
def FnExactClaimOfPeriodSaid : Prop := fnExactClaimOfPeriodRow.holds Try.pinned (OpenSpec.ofChange fnExactClaimOfPeriodSpec)

/-- ITS FALSE NEIGHBOUR: 'it returns false'. Refute it at one input. -/
def fnExactClaimOfPeriodWrong : ChangeSpec := { name := "fnExactClaimOfPeriod", fn := fun _ => fun
  | [d] => { results := [.lit (.bool false)], args := [d] }
  | _ => none }
def FnExactClaimOfPeriodWrongFalsely : Prop := fnExactClaimOfPeriodRow.holds Try.pinned (OpenSpec.ofChange fnExactClaimOfPeriodWrong)

/-- 'laws.FnSpans': WHATEVER THE INPUT: true; the input reads as it did. -/
def fnSpansSpec : ChangeSpec := { name := "fnSpans", fn := fun _ => fun
  | [d] => { results := [.lit (.bool true)], args := [d] }
  | _ => none }
def fnSpansRow : OpenClaim := { program := "ythdacnlkonheaaa", sum := "242bb6e2c7b7f360f3eb03791f08d6b4c8070aa9d523c8577b97c9784c6bae7c", func := "loop.example/g03400/laws.FnSpans", spec := "fnSpans", unfollowed := true, recurses := true, plainKeys := false, apart := false }
def FnSpansSaid : Prop := fnSpansRow.holds Try.pinned (OpenSpec.ofChange fnSpansSpec)

/-- ITS FALSE NEIGHBOUR: 'it returns false'. Refute it at one input. -/
def fnSpansWrong : ChangeSpec := { name := "fnSpans", fn := fun _ => fun
  | [d] => { results := [.lit (.bool false)], args := [d] }
  | _ => none }
def FnSpansWrongFalsely : Prop := fnSpansRow.holds Try.pinned (OpenSpec.ofChange fnSpansWrong)

/- THE SECOND FORM. 'bulk': how many values and letters a reading holds, each counted each time it is reached (what is shared counts as often as it is met; a slice's spare places count too). A statement '..UptoSaid' is the law's where the arguments, and the package variables that the reading takes, are together of bulk at most 1048576: NARROWER than '..Said'. Prove '..Said' where nothing that the law and all that it calls make is longer than what came in: it says more and counts as full. Else prove '..UptoSaid'. A law counts once. -/
mutual
def uptoBulk {H : Type} : DataW H → Nat
  | .lit (.string bytes) => bytes.length + 1
  | .lit _ => 1
  | .nil => 1
  | .ptr d => uptoBulk d + 1
  | .slice elems spare => uptoBulkAll elems + uptoBulkAll spare + 1
  | .agg parts => uptoBulkAll parts + 1
  | .iface _ d => uptoBulk d + 1
  | .map entries => uptoBulkEntries entries + 1
  | .held _ => 1
def uptoBulkAll {H : Type} : List (DataW H) → Nat
  | [] => 0
  | d :: r => uptoBulk d + uptoBulkAll r
def uptoBulkEntries {H : Type} : List (Lit × DataW H) → Nat
  | [] => 0
  | x :: r => uptoBulkEntry x + uptoBulkEntries r
def uptoBulkEntry {H : Type} : Lit × DataW H → Nat
  | (.string bytes, d) => bytes.length + uptoBulk d + 1
  | (_, d) => uptoBulk d + 1
 end
def uptoSmall : (H : Type) → List (DataW H) → Bool := fun _ ds => decide (uptoBulkAll ds ≤ 1048576)
def OpenSpec.upto (s : _root_.Go.ChangeSpec) : _root_.Go.OpenSpec := { _root_.Go.OpenSpec.ofChange s with cond := some uptoSmall }

/-- 'laws.FnExactApplyEdits', WHERE WHAT IT READS IS OF BULK AT MOST 1048576: true; the input reads as it did. -/
def fnExactApplyEditsUptoRow : OpenClaim := { program := "ythdacnlkonheaaa", sum := "242bb6e2c7b7f360f3eb03791f08d6b4c8070aa9d523c8577b97c9784c6bae7c", func := "loop.example/g03400/laws.FnExactApplyEdits", spec := "fnExactApplyEdits", plainKeys := false, apart := false, narrowed := true }
def FnExactApplyEditsUptoSaid : Prop := fnExactApplyEditsUptoRow.holds Try.pinned (OpenSpec.upto fnExactApplyEditsSpec)

/-- 'laws.FnExactSpanningWay', WHERE WHAT IT READS IS OF BULK AT MOST 1048576: true; the input reads as it did. -/
def fnExactSpanningWayUptoRow : OpenClaim := { program := "ythdacnlkonheaaa", sum := "242bb6e2c7b7f360f3eb03791f08d6b4c8070aa9d523c8577b97c9784c6bae7c", func := "loop.example/g03400/laws.FnExactSpanningWay", spec := "fnExactSpanningWay", unfollowed := true, recurses := true, plainKeys := false, apart := false, narrowed := true }
def FnExactSpanningWayUptoSaid : Prop := fnExactSpanningWayUptoRow.holds Try.pinned (OpenSpec.upto fnExactSpanningWaySpec)

/-- 'laws.FnExactSpanningTable', WHERE WHAT IT READS IS OF BULK AT MOST 1048576: true; the input reads as it did. -/
def fnExactSpanningTableUptoRow : OpenClaim := { program := "ythdacnlkonheaaa", sum := "242bb6e2c7b7f360f3eb03791f08d6b4c8070aa9d523c8577b97c9784c6bae7c", func := "loop.example/g03400/laws.FnExactSpanningTable", spec := "fnExactSpanningTable", unfollowed := true, recurses := true, plainKeys := false, apart := false, narrowed := true }
def FnExactSpanningTableUptoSaid : Prop := fnExactSpanningTableUptoRow.holds Try.pinned (OpenSpec.upto fnExactSpanningTableSpec)

/-- 'laws.FnExactBlockingWay', WHERE WHAT IT READS IS OF BULK AT MOST 1048576: true; the input reads as it did. -/
def fnExactBlockingWayUptoRow : OpenClaim := { program := "ythdacnlkonheaaa", sum := "242bb6e2c7b7f360f3eb03791f08d6b4c8070aa9d523c8577b97c9784c6bae7c", func := "loop.example/g03400/laws.FnExactBlockingWay", spec := "fnExactBlockingWay", unfollowed := true, recurses := true, plainKeys := false, apart := false, narrowed := true }
def FnExactBlockingWayUptoSaid : Prop := fnExactBlockingWayUptoRow.holds Try.pinned (OpenSpec.upto fnExactBlockingWaySpec)

/-- 'laws.FnExactPivotalCells', WHERE WHAT IT READS IS OF BULK AT MOST 1048576: true; the input reads as it did. -/
def fnExactPivotalCellsUptoRow : OpenClaim := { program := "ythdacnlkonheaaa", sum := "242bb6e2c7b7f360f3eb03791f08d6b4c8070aa9d523c8577b97c9784c6bae7c", func := "loop.example/g03400/laws.FnExactPivotalCells", spec := "fnExactPivotalCells", unfollowed := true, recurses := true, plainKeys := false, apart := false, narrowed := true }
def FnExactPivotalCellsUptoSaid : Prop := fnExactPivotalCellsUptoRow.holds Try.pinned (OpenSpec.upto fnExactPivotalCellsSpec)

/-- 'laws.FnExactEqualClaims', WHERE WHAT IT READS IS OF BULK AT MOST 1048576: true; the input reads as it did. -/
def fnExactEqualClaimsUptoRow : OpenClaim := { program := "ythdacnlkonheaaa", sum := "242bb6e2c7b7f360f3eb03791f08d6b4c8070aa9d523c8577b97c9784c6bae7c", func := "loop.example/g03400/laws.FnExactEqualClaims", spec := "fnExactEqualClaims", plainKeys := false, apart := false, narrowed := true }
def FnExactEqualClaimsUptoSaid : Prop := fnExactEqualClaimsUptoRow.holds Try.pinned (OpenSpec.upto fnExactEqualClaimsSpec)

/-- 'laws.FnExactBoundaryWord', WHERE WHAT IT READS IS OF BULK AT MOST 1048576: true; the input reads as it did. -/
def fnExactBoundaryWordUptoRow : OpenClaim := { program := "ythdacnlkonheaaa", sum := "242bb6e2c7b7f360f3eb03791f08d6b4c8070aa9d523c8577b97c9784c6bae7c", func := "loop.example/g03400/laws.FnExactBoundaryWord", spec := "fnExactBoundaryWord", plainKeys := false, apart := false, narrowed := true }
def FnExactBoundaryWordUptoSaid : Prop := fnExactBoundaryWordUptoRow.holds Try.pinned (OpenSpec.upto fnExactBoundaryWordSpec)

/-- 'laws.FnExactClaimOfPeriod', WHERE WHAT IT READS IS OF BULK AT MOST 1048576: true; the input reads as it did. -/
def fnExactClaimOfPeriodUptoRow : OpenClaim := { program := "ythdacnlkonheaaa", sum := "242bb6e2c7b7f360f3eb03791f08d6b4c8070aa9d523c8577b97c9784c6bae7c", func := "loop.example/g03400/laws.FnExactClaimOfPeriod", spec := "fnExactClaimOfPeriod", unfollowed := true, recurses := true, plainKeys := false, apart := false, narrowed := true }
def FnExactClaimOfPeriodUptoSaid : Prop := fnExactClaimOfPeriodUptoRow.holds Try.pinned (OpenSpec.upto fnExactClaimOfPeriodSpec)

/-- 'laws.FnSpans', WHERE WHAT IT READS IS OF BULK AT MOST 1048576: true; the input reads as it did. -/
def fnSpansUptoRow : OpenClaim := { program := "ythdacnlkonheaaa", sum := "242bb6e2c7b7f360f3eb03791f08d6b4c8070aa9d523c8577b97c9784c6bae7c", func := "loop.example/g03400/laws.FnSpans", spec := "fnSpans", unfollowed := true, recurses := true, plainKeys := false, apart := false, narrowed := true }
def FnSpansUptoSaid : Prop := fnSpansUptoRow.holds Try.pinned (OpenSpec.upto fnSpansSpec)

end Rows
end Go.Proofs.Ythdacnlkonheaaa
