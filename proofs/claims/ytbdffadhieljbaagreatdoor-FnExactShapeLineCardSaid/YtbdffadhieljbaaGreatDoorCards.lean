/-
  DERIVED. GIVEN WITH THE SEED: THE CARDS: each row of YtbdffadhieljbaaGreatDoorRows.lean that lists a variable, with what it lists TIED to the program's text (the seventh form; the later family's looks); each row that meets fmt, with fmt's text TOLD by the authors' own Lean function (tested against real Go, not proved from fmt's source: count such statements apart). THE CARD IS WHAT COUNTS. Prove the row's statement (the work); the ties are given (YtbdffadhieljbaaGreatDoorTie.lean); close each card by the builder's one call (the guide's Derived/Test/ToyasCard.lean, 'card_holds'). Laid BY PROGRAM, IN A SANDBOX (cutbox-door.mjs). By AI agents, Wed Nov 11 2026. No macro, syntax, notation, axiom, sorry.
-/
import Derived.Test.YtbdffadhieljbaaGreatDoorRows
import GoSem.ClaimSeven
namespace Go.Proofs.YtbdffadhieljbaaGreatDoor
namespace Rows

/-- THE TIED CARD OF 'laws.FnExactShapeLine'. -/
def fnExactShapeLineCard : Claim7 := { stood := { row := fnExactShapeLineRow, standIns := [], harness := (true, "71803e781b67847e2bde8091b8cb580b17a09380bdadeb88cd68b9f09c7e65a2"), looks := false }, kinds := [], alts := [], laidByText := true, laidKinds := [.data, .data, .data], laidTests := true, laidLooks := .later }
def FnExactShapeLineCardSaid : Prop := Claim7.holds Tryz.pinned (.plain (OpenSpec.ofChange fnExactShapeLineSpec)) fnExactShapeLineCard

/-- THE SECOND FORM's CARD OF 'laws.FnExactShapeLine'. -/
def fnExactShapeLineUptoCard : Claim7 := { stood := { row := fnExactShapeLineUptoRow, standIns := [], harness := (true, "71803e781b67847e2bde8091b8cb580b17a09380bdadeb88cd68b9f09c7e65a2"), looks := false }, kinds := [], alts := [], laidByText := true, laidKinds := [.data, .data, .data], laidTests := true, laidLooks := .later }
def FnExactShapeLineUptoCardSaid : Prop := Claim7.holds Tryz.pinned (.plain (OpenSpec.upto fnExactShapeLineSpec)) fnExactShapeLineUptoCard
end Rows
end Go.Proofs.YtbdffadhieljbaaGreatDoor
