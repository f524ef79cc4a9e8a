/-
  No cell of these rows narrows 'for every input' (looked for: loops, veiled, ifaces, maps, wideKeys, modest, calm, conditions, laid).
  DERIVED. THE GIVEN ROWS OF THIS SEAT. 4 by the template 'for every input the law returns true; each argument reads behind the call as it read before'; 0 by the template 'total and deterministic' (their statements: YtjmeplchabehfaaTotals.lean).
  GIVEN WITH THE SEED: the statements are not yours to turn. If you find one false, say at which input.
  Laid BY PROGRAM, IN A SANDBOX (cutbox-rows.mjs): the forced cells as the released guide's own fill.sh prints them over the translation fe8d556fca3fac8e… (all of the seat's roots in one cut). By AI agents, Wed Nov 11 2026. No macro, syntax, notation, axiom, sorry.
-/
import Derived.Test.YtjmeplchabehfaaChecked
import GoSem.Claim
import GoSem.ClaimJoined
import GoSem.ClaimMapViews
import Derived.JoinedTies
import Derived.KernelRfl
namespace Go.Proofs.Ytjmeplchabehfaa
/- THE CELL 'sum', in the pinned program and in every row, IS THE sha256 OF THE DUMP (.gsa) THAT YtjmeplchabehfaaProg.lean LOADS. Nothing in Lean hashes anything: it is a label: what it is worth is what the hold of that sum in a sandbox is worth. -/
noncomputable def Try.pinned : Pinned := { name := "ytjmeplchabehfaa", sum := "fe8d556fca3fac8e9585772d9d27584e0847686211fa8b357a6bd1325ced5cf0", checked := Try.checked }
namespace Rows
def none {H : Type} : Left H := { results := [], args := [] }

/-- 'laws.FnExactEqualClaims': WHATEVER THE INPUT: true; the input reads as it did. -/
def fnExactEqualClaimsSpec : ChangeSpec := { name := "fnExactEqualClaims", fn := fun _ => fun
  | [d1, d2] => { results := [.lit (.bool true)], args := [d1, d2] }
  | _ => none }
def fnExactEqualClaimsRow : OpenClaim := { program := "ytjmeplchabehfaa", sum := "fe8d556fca3fac8e9585772d9d27584e0847686211fa8b357a6bd1325ced5cf0", func := "loop.example/g03400/laws.FnExactEqualClaims", spec := "fnExactEqualClaims", plainKeys := false, apart := false }
def FnExactEqualClaimsSaid : Prop := fnExactEqualClaimsRow.holds Try.pinned (OpenSpec.ofChange fnExactEqualClaimsSpec)

/-- ITS FALSE NEIGHBOUR: 'it returns false'. Refute it at one input. -/
def fnExactEqualClaimsWrong : ChangeSpec := { name := "fnExactEqualClaims", fn := fun _ => fun
  | [d1, d2] => { results := [.lit (.bool false)], args := [d1, d2] }
  | _ => none }
def FnExactEqualClaimsWrongFalsely : Prop := fnExactEqualClaimsRow.holds Try.pinned (OpenSpec.ofChange fnExactEqualClaimsWrong)

/-- 'laws.FnExactBoundaryWord': WHATEVER THE INPUT: true; the input reads as it did. -/
def fnExactBoundaryWordSpec : ChangeSpec := { name := "fnExactBoundaryWord", fn := fun _ => fun
  | [d] => { results := [.lit (.bool true)], args := [d] }
  | _ => none }
def fnExactBoundaryWordRow : OpenClaim := { program := "ytjmeplchabehfaa", sum := "fe8d556fca3fac8e9585772d9d27584e0847686211fa8b357a6bd1325ced5cf0", func := "loop.example/g03400/laws.FnExactBoundaryWord", spec := "fnExactBoundaryWord", plainKeys := false, apart := false }
def FnExactBoundaryWordSaid : Prop := fnExactBoundaryWordRow.holds Try.pinned (OpenSpec.ofChange fnExactBoundaryWordSpec)

/-- ITS FALSE NEIGHBOUR: 'it returns false'. Refute it at one input. -/
def fnExactBoundaryWordWrong : ChangeSpec := { name := "fnExactBoundaryWord", fn := fun _ => fun
  | [d] => { results := [.lit (.bool false)], args := [d] }
  | _ => none }
def FnExactBoundaryWordWrongFalsely : Prop := fnExactBoundaryWordRow.holds Try.pinned (OpenSpec.ofChange fnExactBoundaryWordWrong)

/-- 'laws.FnExactClaimOfPeriod': WHATEVER THE INPUT: true; the input reads as it did. -/
def fnExactClaimOfPeriodSpec : ChangeSpec := { name := "fnExactClaimOfPeriod", fn := fun _ => fun
  | [d] => { results := [.lit (.bool true)], args := [d] }
  | _ => none }
def fnExactClaimOfPeriodRow : OpenClaim := { program := "ytjmeplchabehfaa", sum := "fe8d556fca3fac8e9585772d9d27584e0847686211fa8b357a6bd1325ced5cf0", func := "loop.example/g03400/laws.FnExactClaimOfPeriod", spec := "fnExactClaimOfPeriod", unfollowed := true, recurses := true, plainKeys := false, apart := false }
def FnExactClaimOfPeriodSaid : Prop := fnExactClaimOfPeriodRow.holds Try.pinned (OpenSpec.ofChange fnExactClaimOfPeriodSpec)

/-- ITS FALSE NEIGHBOUR: 'it returns false'. Refute it at one input. -/
def fnExactClaimOfPeriodWrong : ChangeSpec := { name := "fnExactClaimOfPeriod", fn := fun _ => fun
  | [d] => { results := [.lit (.bool false)], args := [d] }
  | _ => none }
def FnExactClaimOfPeriodWrongFalsely : Prop := fnExactClaimOfPeriodRow.holds Try.pinned (OpenSpec.ofChange fnExactClaimOfPeriodWrong)

/-- 'laws.FnSpans': WHATEVER THE INPUT: true; the input reads as it did. -/
def fnSpansSpec : ChangeSpec := { name := "fnSpans", fn := fun _ => fun
  | [d] => { results := [.lit (.bool true)], args := [d] }
  | _ => none }
def fnSpansRow : OpenClaim := { program := "ytjmeplchabehfaa", sum := "fe8d556fca3fac8e9585772d9d27584e0847686211fa8b357a6bd1325ced5cf0", func := "loop.example/g03400/laws.FnSpans", spec := "fnSpans", unfollowed := true, recurses := true, plainKeys := false, apart := false }
def FnSpansSaid : Prop := fnSpansRow.holds Try.pinned (OpenSpec.ofChange fnSpansSpec)

/-- ITS FALSE NEIGHBOUR: 'it returns false'. Refute it at one input. -/
def fnSpansWrong : ChangeSpec := { name := "fnSpans", fn := fun _ => fun
  | [d] => { results := [.lit (.bool false)], args := [d] }
  | _ => none }
def FnSpansWrongFalsely : Prop := fnSpansRow.holds Try.pinned (OpenSpec.ofChange fnSpansWrong)

/- THE SECOND FORM. 'bulk': how many values and letters a reading holds, each counted each time it is reached (what is shared counts as often as it is met; a slice's spare places count too). A statement '..UptoSaid' is the law's where the arguments, and the package variables that the reading takes, are together of bulk at most 1048576: NARROWER than '..Said'. Prove '..Said' where nothing that the law and all that it calls make is longer than what came in: it says more and counts as full. Else prove '..UptoSaid'. A law counts once. -/
mutual
def uptoBulk {H : Type} : DataW H → Nat
  | .lit (.string bytes) => bytes.length + 1
  | .lit _ => 1
  | .nil => 1
  | .ptr d => uptoBulk d + 1
  | .slice elems spare => uptoBulkAll elems + uptoBulkAll spare + 1
  | .agg parts => uptoBulkAll parts + 1
  | .iface _ d => uptoBulk d + 1
  | .map entries => uptoBulkEntries entries + 1
  | .held _ => 1
def uptoBulkAll {H : Type} : List (DataW H) → Nat
  | [] => 0
  | d :: r => uptoBulk d + uptoBulkAll r
def uptoBulkEntries {H : Type} : List (Lit × DataW H) → Nat
  | [] => 0
  | x :: r => uptoBulkEntry x + uptoBulkEntries r
def uptoBulkEntry {H : Type} : Lit × DataW H → Nat
  | (.string bytes, d) => bytes.length + uptoBulk d + 1
  | (_, d) => uptoBulk d + 1
 end
def uptoSmall : (H : Type) → List (DataW H) → Bool := fun _ ds => decide (uptoBulkAll ds ≤ 1048576)
def OpenSpec.upto (s : _root_.Go.ChangeSpec) : _root_.Go.OpenSpec := { _root_.Go.OpenSpec.ofChange s with cond := some uptoSmall }

/-- 'laws.FnExactEqualClaims', WHERE WHAT IT READS IS OF BULK AT MOST 1048576: true; the input reads as it did. -/
def fnExactEqualClaimsUptoRow : OpenClaim := { program := "ytjmeplchabehfaa", sum := "fe8d556fca3fac8e9585772d9d27584e0847686211fa8b357a6bd1325ced5cf0", func := "loop.example/g03400/laws.FnExactEqualClaims", spec := "fnExactEqualClaims", plainKeys := false, apart := false, narrowed := true }
def FnExactEqualClaimsUptoSaid : Prop := fnExactEqualClaimsUptoRow.holds Try.pinned (OpenSpec.upto fnExactEqualClaimsSpec)

/-- 'laws.FnExactBoundaryWord', WHERE WHAT IT READS IS OF BULK AT MOST 1048576: true; the input reads as it did. -/
def fnExactBoundaryWordUptoRow : OpenClaim := { program := "ytjmeplchabehfaa", sum := "fe8d556fca3fac8e9585772d9d27584e0847686211fa8b357a6bd1325ced5cf0", func := "loop.example/g03400/laws.FnExactBoundaryWord", spec := "fnExactBoundaryWord", plainKeys := false, apart := false, narrowed := true }
def FnExactBoundaryWordUptoSaid : Prop := fnExactBoundaryWordUptoRow.holds Try.pinned (OpenSpec.upto fnExactBoundaryWordSpec)

/-- 'laws.FnExactClaimOfPeriod', WHERE WHAT IT READS IS OF BULK AT MOST 1048576: true; the input reads as it did. -/
def fnExactClaimOfPeriodUptoRow : OpenClaim := { program := "ytjmeplchabehfaa", sum := "fe8d556fca3fac8e9585772d9d27584e0847686211fa8b357a6bd1325ced5cf0", func := "loop.example/g03400/laws.FnExactClaimOfPeriod", spec := "fnExactClaimOfPeriod", unfollowed := true, recurses := true, plainKeys := false, apart := false, narrowed := true }
def FnExactClaimOfPeriodUptoSaid : Prop := fnExactClaimOfPeriodUptoRow.holds Try.pinned (OpenSpec.upto fnExactClaimOfPeriodSpec)

/-- 'laws.FnSpans', WHERE WHAT IT READS IS OF BULK AT MOST 1048576: true; the input reads as it did. -/
def fnSpansUptoRow : OpenClaim := { program := "ytjmeplchabehfaa", sum := "fe8d556fca3fac8e9585772d9d27584e0847686211fa8b357a6bd1325ced5cf0", func := "loop.example/g03400/laws.FnSpans", spec := "fnSpans", unfollowed := true, recurses := true, plainKeys := false, apart := false, narrowed := true }
def FnSpansUptoSaid : Prop := fnSpansUptoRow.holds Try.pinned (OpenSpec.upto fnSpansSpec)

end Rows
end Go.Proofs.Ytjmeplchabehfaa
