/-
  No cell of these rows narrows 'for every input' (looked for: loops, veiled, ifaces, maps, wideKeys, modest, calm, conditions, laid).
  DERIVED. THE GIVEN ROWS OF THIS SEAT. 6 by the template 'for every input the law returns true; each argument reads behind the call as it read before'; 0 by the template 'total and deterministic' (their statements: YtlncpkdkdhnfeaaTotals.lean).
  GIVEN WITH THE SEED: the statements are not yours to turn. If you find one false, say at which input.
  Laid BY PROGRAM, IN A SANDBOX (cutbox-rows.mjs): the forced cells as the released guide's own fill.sh prints them over the translation 592c80de810b75cd… (all of the seat's roots in one cut). By AI agents, Wed Nov 11 2026. No macro, syntax, notation, axiom, sorry.
-/
import Derived.Test.YtlncpkdkdhnfeaaChecked
import GoSem.Claim
import GoSem.ClaimJoined
import GoSem.ClaimMapViews
import Derived.JoinedTies
import Derived.KernelRfl
namespace Go.Proofs.Ytlncpkdkdhnfeaa
/- THE CELL 'sum', in the pinned program and in every row, IS THE sha256 OF THE DUMP (.gsa) THAT YtlncpkdkdhnfeaaProg.lean LOADS. Nothing in Lean hashes anything: it is a label: what it is worth is what the hold of that sum in a sandbox is worth. -/
noncomputable def Try.pinned : Pinned := { name := "ytlncpkdkdhnfeaa", sum := "592c80de810b75cde2e339a4cbefa5461d11fcd6b2901dc917d307fbc3b4a0e3", checked := Try.checked }
namespace Rows
def none {H : Type} : Left H := { results := [], args := [] }

/-- 'laws.FnExactClaimWord': WHATEVER THE INPUT: true; the input reads as it did. -/
def fnExactClaimWordSpec : ChangeSpec := { name := "fnExactClaimWord", fn := fun _ => fun
  | [d] => { results := [.lit (.bool true)], args := [d] }
  | _ => none }
def fnExactClaimWordRow : OpenClaim := { program := "ytlncpkdkdhnfeaa", sum := "592c80de810b75cde2e339a4cbefa5461d11fcd6b2901dc917d307fbc3b4a0e3", func := "loop.example/g03400/laws.FnExactClaimWord", spec := "fnExactClaimWord", plainKeys := false, apart := false }
def FnExactClaimWordSaid : Prop := fnExactClaimWordRow.holds Try.pinned (OpenSpec.ofChange fnExactClaimWordSpec)

/-- ITS FALSE NEIGHBOUR: 'it returns false'. Refute it at one input. -/
def fnExactClaimWordWrong : ChangeSpec := { name := "fnExactClaimWord", fn := fun _ => fun
  | [d] => { results := [.lit (.bool false)], args := [d] }
  | _ => none }
def FnExactClaimWordWrongFalsely : Prop := fnExactClaimWordRow.holds Try.pinned (OpenSpec.ofChange fnExactClaimWordWrong)

/-- 'laws.FnExactUndoEdits': WHATEVER THE INPUT: true; the input reads as it did. -/
def fnExactUndoEditsSpec : ChangeSpec := { name := "fnExactUndoEdits", fn := fun _ => fun
  | [d] => { results := [.lit (.bool true)], args := [d] }
  | _ => none }
def fnExactUndoEditsRow : OpenClaim := { program := "ytlncpkdkdhnfeaa", sum := "592c80de810b75cde2e339a4cbefa5461d11fcd6b2901dc917d307fbc3b4a0e3", func := "loop.example/g03400/laws.FnExactUndoEdits", spec := "fnExactUndoEdits", plainKeys := false, apart := false }
def FnExactUndoEditsSaid : Prop := fnExactUndoEditsRow.holds Try.pinned (OpenSpec.ofChange fnExactUndoEditsSpec)

/-- ITS FALSE NEIGHBOUR: 'it returns false'. Refute it at one input. -/
def fnExactUndoEditsWrong : ChangeSpec := { name := "fnExactUndoEdits", fn := fun _ => fun
  | [d] => { results := [.lit (.bool false)], args := [d] }
  | _ => none }
def FnExactUndoEditsWrongFalsely : Prop := fnExactUndoEditsRow.holds Try.pinned (OpenSpec.ofChange fnExactUndoEditsWrong)

/-- 'laws.FnExactKeptMasks': WHATEVER THE INPUT: true; the input reads as it did. -/
def fnExactKeptMasksSpec : ChangeSpec := { name := "fnExactKeptMasks", fn := fun _ => fun
  | [d1, d2, d3] => { results := [.lit (.bool true)], args := [d1, d2, d3] }
  | _ => none }
def fnExactKeptMasksRow : OpenClaim := { program := "ytlncpkdkdhnfeaa", sum := "592c80de810b75cde2e339a4cbefa5461d11fcd6b2901dc917d307fbc3b4a0e3", func := "loop.example/g03400/laws.FnExactKeptMasks", spec := "fnExactKeptMasks", plainKeys := false, apart := false }
def FnExactKeptMasksSaid : Prop := fnExactKeptMasksRow.holds Try.pinned (OpenSpec.ofChange fnExactKeptMasksSpec)

/-- ITS FALSE NEIGHBOUR: 'it returns false'. Refute it at one input. -/
def fnExactKeptMasksWrong : ChangeSpec := { name := "fnExactKeptMasks", fn := fun _ => fun
  | [d1, d2, d3] => { results := [.lit (.bool false)], args := [d1, d2, d3] }
  | _ => none }
def FnExactKeptMasksWrongFalsely : Prop := fnExactKeptMasksRow.holds Try.pinned (OpenSpec.ofChange fnExactKeptMasksWrong)

/-- 'laws.FnExactIsSpanning': WHATEVER THE INPUT: true; the input reads as it did. -/
def fnExactIsSpanningSpec : ChangeSpec := { name := "fnExactIsSpanning", fn := fun _ => fun
  | [d] => { results := [.lit (.bool true)], args := [d] }
  | _ => none }
def fnExactIsSpanningRow : OpenClaim := { program := "ytlncpkdkdhnfeaa", sum := "592c80de810b75cde2e339a4cbefa5461d11fcd6b2901dc917d307fbc3b4a0e3", func := "loop.example/g03400/laws.FnExactIsSpanning", spec := "fnExactIsSpanning", unfollowed := true, recurses := true, plainKeys := false, apart := false }
def FnExactIsSpanningSaid : Prop := fnExactIsSpanningRow.holds Try.pinned (OpenSpec.ofChange fnExactIsSpanningSpec)

/-- ITS FALSE NEIGHBOUR: 'it returns false'. Refute it at one input. -/
def fnExactIsSpanningWrong : ChangeSpec := { name := "fnExactIsSpanning", fn := fun _ => fun
  | [d] => { results := [.lit (.bool false)], args := [d] }
  | _ => none }
def FnExactIsSpanningWrongFalsely : Prop := fnExactIsSpanningRow.holds Try.pinned (OpenSpec.ofChange fnExactIsSpanningWrong)

/-- 'laws.FnExactEditsBetween': WHATEVER THE INPUT: true; the input reads as it did. -/
def fnExactEditsBetweenSpec : ChangeSpec := { name := "fnExactEditsBetween", fn := fun _ => fun
  | [d1, d2] => { results := [.lit (.bool true)], args := [d1, d2] }
  | _ => none }
def fnExactEditsBetweenRow : OpenClaim := { program := "ytlncpkdkdhnfeaa", sum := "592c80de810b75cde2e339a4cbefa5461d11fcd6b2901dc917d307fbc3b4a0e3", func := "loop.example/g03400/laws.FnExactEditsBetween", spec := "fnExactEditsBetween", plainKeys := false, apart := false }
def FnExactEditsBetweenSaid : Prop := fnExactEditsBetweenRow.holds Try.pinned (OpenSpec.ofChange fnExactEditsBetweenSpec)

/-- ITS FALSE NEIGHBOUR: 'it returns false'. Refute it at one input. -/
def fnExactEditsBetweenWrong : ChangeSpec := { name := "fnExactEditsBetween", fn := fun _ => fun
  | [d1, d2] => { results := [.lit (.bool false)], args := [d1, d2] }
  | _ => none }
def FnExactEditsBetweenWrongFalsely : Prop := fnExactEditsBetweenRow.holds Try.pinned (OpenSpec.ofChange fnExactEditsBetweenWrong)

/-- 'laws.FnExactIsBlocked': WHATEVER THE INPUT: true; the input reads as it did. -/
def fnExactIsBlockedSpec : ChangeSpec := { name := "fnExactIsBlocked", fn := fun _ => fun
  | [d] => { results := [.lit (.bool true)], args := [d] }
  | _ => none }
def fnExactIsBlockedRow : OpenClaim := { program := "ytlncpkdkdhnfeaa", sum := "592c80de810b75cde2e339a4cbefa5461d11fcd6b2901dc917d307fbc3b4a0e3", func := "loop.example/g03400/laws.FnExactIsBlocked", spec := "fnExactIsBlocked", unfollowed := true, recurses := true, plainKeys := false, apart := false }
def FnExactIsBlockedSaid : Prop := fnExactIsBlockedRow.holds Try.pinned (OpenSpec.ofChange fnExactIsBlockedSpec)

/-- ITS FALSE NEIGHBOUR: 'it returns false'. Refute it at one input. -/
def fnExactIsBlockedWrong : ChangeSpec := { name := "fnExactIsBlocked", fn := fun _ => fun
  | [d] => { results := [.lit (.bool false)], args := [d] }
  | _ => none }
def FnExactIsBlockedWrongFalsely : Prop := fnExactIsBlockedRow.holds Try.pinned (OpenSpec.ofChange fnExactIsBlockedWrong)

/- THE SECOND FORM. 'bulk': how many values and letters a reading holds, each counted each time it is reached (what is shared counts as often as it is met; a slice's spare places count too). A statement '..UptoSaid' is the law's where the arguments, and the package variables that the reading takes, are together of bulk at most 1048576: NARROWER than '..Said'. Prove '..Said' where nothing that the law and all that it calls make is longer than what came in: it says more and counts as full. Else prove '..UptoSaid'. A law counts once. -/
mutual
def uptoBulk {H : Type} : DataW H → Nat
  | .lit (.string bytes) => bytes.length + 1
  | .lit _ => 1
  | .nil => 1
  | .ptr d => uptoBulk d + 1
  | .slice elems spare => uptoBulkAll elems + uptoBulkAll spare + 1
  | .agg parts => uptoBulkAll parts + 1
  | .iface _ d => uptoBulk d + 1
  | .map entries => uptoBulkEntries entries + 1
  | .held _ => 1
def uptoBulkAll {H : Type} : List (DataW H) → Nat
  | [] => 0
  | d :: r => uptoBulk d + uptoBulkAll r
def uptoBulkEntries {H : Type} : List (Lit × DataW H) → Nat
  | [] => 0
  | x :: r => uptoBulkEntry x + uptoBulkEntries r
def uptoBulkEntry {H : Type} : Lit × DataW H → Nat
  | (.string bytes, d) => bytes.length + uptoBulk d + 1
  | (_, d) => uptoBulk d + 1
 end
def uptoSmall : (H : Type) → List (DataW H) → Bool := fun _ ds => decide (uptoBulkAll ds ≤ 1048576)
def OpenSpec.upto (s : _root_.Go.ChangeSpec) : _root_.Go.OpenSpec := { _root_.Go.OpenSpec.ofChange s with cond := some uptoSmall }

/-- 'laws.FnExactClaimWord', WHERE WHAT IT READS IS OF BULK AT MOST 1048576: true; the input reads as it did. -/
def fnExactClaimWordUptoRow : OpenClaim := { program := "ytlncpkdkdhnfeaa", sum := "592c80de810b75cde2e339a4cbefa5461d11fcd6b2901dc917d307fbc3b4a0e3", func := "loop.example/g03400/laws.FnExactClaimWord", spec := "fnExactClaimWord", plainKeys := false, apart := false, narrowed := true }
def FnExactClaimWordUptoSaid : Prop := fnExactClaimWordUptoRow.holds Try.pinned (OpenSpec.upto fnExactClaimWordSpec)

/-- 'laws.FnExactUndoEdits', WHERE WHAT IT READS IS OF BULK AT MOST 1048576: true; the input reads as it did. -/
def fnExactUndoEditsUptoRow : OpenClaim := { program := "ytlncpkdkdhnfeaa", sum := "592c80de810b75cde2e339a4cbefa5461d11fcd6b2901dc917d307fbc3b4a0e3", func := "loop.example/g03400/laws.FnExactUndoEdits", spec := "fnExactUndoEdits", plainKeys := false, apart := false, narrowed := true }
def FnExactUndoEditsUptoSaid : Prop := fnExactUndoEditsUptoRow.holds Try.pinned (OpenSpec.upto fnExactUndoEditsSpec)

/-- 'laws.FnExactKeptMasks', WHERE WHAT IT READS IS OF BULK AT MOST 1048576: true; the input reads as it did. -/
def fnExactKeptMasksUptoRow : OpenClaim := { program := "ytlncpkdkdhnfeaa", sum := "592c80de810b75cde2e339a4cbefa5461d11fcd6b2901dc917d307fbc3b4a0e3", func := "loop.example/g03400/laws.FnExactKeptMasks", spec := "fnExactKeptMasks", plainKeys := false, apart := false, narrowed := true }
def FnExactKeptMasksUptoSaid : Prop := fnExactKeptMasksUptoRow.holds Try.pinned (OpenSpec.upto fnExactKeptMasksSpec)

/-- 'laws.FnExactIsSpanning', WHERE WHAT IT READS IS OF BULK AT MOST 1048576: true; the input reads as it did. -/
def fnExactIsSpanningUptoRow : OpenClaim := { program := "ytlncpkdkdhnfeaa", sum := "592c80de810b75cde2e339a4cbefa5461d11fcd6b2901dc917d307fbc3b4a0e3", func := "loop.example/g03400/laws.FnExactIsSpanning", spec := "fnExactIsSpanning", unfollowed := true, recurses := true, plainKeys := false, apart := false, narrowed := true }
def FnExactIsSpanningUptoSaid : Prop := fnExactIsSpanningUptoRow.holds Try.pinned (OpenSpec.upto fnExactIsSpanningSpec)

/-- 'laws.FnExactEditsBetween', WHERE WHAT IT READS IS OF BULK AT MOST 1048576: true; the input reads as it did. -/
def fnExactEditsBetweenUptoRow : OpenClaim := { program := "ytlncpkdkdhnfeaa", sum := "592c80de810b75cde2e339a4cbefa5461d11fcd6b2901dc917d307fbc3b4a0e3", func := "loop.example/g03400/laws.FnExactEditsBetween", spec := "fnExactEditsBetween", plainKeys := false, apart := false, narrowed := true }
def FnExactEditsBetweenUptoSaid : Prop := fnExactEditsBetweenUptoRow.holds Try.pinned (OpenSpec.upto fnExactEditsBetweenSpec)

/-- 'laws.FnExactIsBlocked', WHERE WHAT IT READS IS OF BULK AT MOST 1048576: true; the input reads as it did. -/
def fnExactIsBlockedUptoRow : OpenClaim := { program := "ytlncpkdkdhnfeaa", sum := "592c80de810b75cde2e339a4cbefa5461d11fcd6b2901dc917d307fbc3b4a0e3", func := "loop.example/g03400/laws.FnExactIsBlocked", spec := "fnExactIsBlocked", unfollowed := true, recurses := true, plainKeys := false, apart := false, narrowed := true }
def FnExactIsBlockedUptoSaid : Prop := fnExactIsBlockedUptoRow.holds Try.pinned (OpenSpec.upto fnExactIsBlockedSpec)

end Rows
end Go.Proofs.Ytlncpkdkdhnfeaa
