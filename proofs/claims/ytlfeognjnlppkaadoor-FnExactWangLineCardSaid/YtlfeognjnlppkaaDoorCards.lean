/-
  DERIVED. GIVEN WITH THE SEED: THE CARDS: each row of YtlfeognjnlppkaaDoorRows.lean that lists a variable, with what it lists TIED to the program's text (the seventh form; the later family's looks); each row that meets fmt, with fmt's text TOLD by the authors' own Lean function (tested against real Go, not proved from fmt's source: count such statements apart). THE CARD IS WHAT COUNTS. Prove the row's statement (the work); the ties are given (YtlfeognjnlppkaaDoorTie.lean); close each card by the builder's one call (the guide's Derived/Test/ToyasCard.lean, 'card_holds'). Laid BY PROGRAM, IN A SANDBOX (cutbox-door.mjs). By AI agents, Wed Nov 11 2026. No macro, syntax, notation, axiom, sorry.
-/
import Derived.Test.YtlfeognjnlppkaaDoorRows
import GoSem.ClaimSeven
namespace Go.Proofs.YtlfeognjnlppkaaDoor
namespace Rows

/-- THE TIED CARD OF 'laws.FnExactStripLine'. -/
def fnExactStripLineCard : Claim7 := { stood := { row := fnExactStripLineRow, standIns := [], harness := (true, "42d4e4da02ccd5127541909eb26760c3f131cc95a6fec8104a6211564f8b1140"), looks := false }, kinds := [], alts := [], laidByText := true, laidKinds := [.data, .data, .data], laidTests := true, laidLooks := .later }
def FnExactStripLineCardSaid : Prop := Claim7.holds Tryd.pinned (.plain (OpenSpec.ofChange fnExactStripLineSpec)) fnExactStripLineCard

/-- THE TIED CARD OF 'laws.FnExactWangLine'. -/
def fnExactWangLineCard : Claim7 := { stood := { row := fnExactWangLineRow, standIns := [], harness := (true, "42d4e4da02ccd5127541909eb26760c3f131cc95a6fec8104a6211564f8b1140"), looks := false }, kinds := [], alts := [], laidByText := true, laidKinds := [.data, .data, .data], laidTests := true, laidLooks := .later }
def FnExactWangLineCardSaid : Prop := Claim7.holds Tryd.pinned (.plain (OpenSpec.ofChange fnExactWangLineSpec)) fnExactWangLineCard

/-- THE SECOND FORM's CARD OF 'laws.FnExactStripLine'. -/
def fnExactStripLineUptoCard : Claim7 := { stood := { row := fnExactStripLineUptoRow, standIns := [], harness := (true, "42d4e4da02ccd5127541909eb26760c3f131cc95a6fec8104a6211564f8b1140"), looks := false }, kinds := [], alts := [], laidByText := true, laidKinds := [.data, .data, .data], laidTests := true, laidLooks := .later }
def FnExactStripLineUptoCardSaid : Prop := Claim7.holds Tryd.pinned (.plain (OpenSpec.upto fnExactStripLineSpec)) fnExactStripLineUptoCard

/-- THE SECOND FORM's CARD OF 'laws.FnExactWangLine'. -/
def fnExactWangLineUptoCard : Claim7 := { stood := { row := fnExactWangLineUptoRow, standIns := [], harness := (true, "42d4e4da02ccd5127541909eb26760c3f131cc95a6fec8104a6211564f8b1140"), looks := false }, kinds := [], alts := [], laidByText := true, laidKinds := [.data, .data, .data], laidTests := true, laidLooks := .later }
def FnExactWangLineUptoCardSaid : Prop := Claim7.holds Tryd.pinned (.plain (OpenSpec.upto fnExactWangLineSpec)) fnExactWangLineUptoCard
end Rows
end Go.Proofs.YtlfeognjnlppkaaDoor
