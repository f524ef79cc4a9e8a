/-
  DERIVED. GIVEN WITH THE SEED: THE CARDS: each row of YtoccedebiacbiaaDoorRows.lean that lists a variable, with what it lists TIED to the program's text (the seventh form; the later family's looks); each row that meets fmt, with fmt's text TOLD by the authors' own Lean function (tested against real Go, not proved from fmt's source: count such statements apart). THE CARD IS WHAT COUNTS. Prove the row's statement (the work); the ties are given (YtoccedebiacbiaaDoorTie.lean); close each card by the builder's one call (the guide's Derived/Test/ToyasCard.lean, 'card_holds'). Laid BY PROGRAM, IN A SANDBOX (cutbox-door.mjs). By AI agents, Wed Nov 11 2026. No macro, syntax, notation, axiom, sorry.
-/
import Derived.Test.YtoccedebiacbiaaDoorRows
import GoSem.ClaimSeven
namespace Go.Proofs.YtoccedebiacbiaaDoor
namespace Rows

/-- THE TIED CARD OF 'laws.FnExactRegionLine'. -/
def fnExactRegionLineCard : Claim7 := { stood := { row := fnExactRegionLineRow, standIns := [], harness := (true, "19ab7dd688fcae1af0202433c689d27e548fe74e7520456039580534d49e87df"), looks := false }, kinds := [], alts := [], laidByText := true, laidKinds := [.data, .data, .data], laidTests := true, laidLooks := .later }
def FnExactRegionLineCardSaid : Prop := Claim7.holds Tryd.pinned (.plain (OpenSpec.ofChange fnExactRegionLineSpec)) fnExactRegionLineCard

/-- THE SECOND FORM's CARD OF 'laws.FnExactRegionLine'. -/
def fnExactRegionLineUptoCard : Claim7 := { stood := { row := fnExactRegionLineUptoRow, standIns := [], harness := (true, "19ab7dd688fcae1af0202433c689d27e548fe74e7520456039580534d49e87df"), looks := false }, kinds := [], alts := [], laidByText := true, laidKinds := [.data, .data, .data], laidTests := true, laidLooks := .later }
def FnExactRegionLineUptoCardSaid : Prop := Claim7.holds Tryd.pinned (.plain (OpenSpec.upto fnExactRegionLineSpec)) fnExactRegionLineUptoCard
end Rows
end Go.Proofs.YtoccedebiacbiaaDoor
