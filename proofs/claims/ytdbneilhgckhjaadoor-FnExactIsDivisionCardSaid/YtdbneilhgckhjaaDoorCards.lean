/-
  DERIVED. GIVEN WITH THE SEED: THE CARDS: each row of YtdbneilhgckhjaaDoorRows.lean that lists a variable, with what it lists TIED to the program's text (the seventh form; the later family's looks); each row that meets fmt, with fmt's text TOLD by the authors' own Lean function (tested against real Go, not proved from fmt's source: count such statements apart). THE CARD IS WHAT COUNTS. Prove the row's statement (the work); the ties are given (YtdbneilhgckhjaaDoorTie.lean); close each card by the builder's one call (the guide's Derived/Test/ToyasCard.lean, 'card_holds'). Laid BY PROGRAM, IN A SANDBOX (cutbox-door.mjs). By AI agents, Wed Nov 11 2026. No macro, syntax, notation, axiom, sorry.
-/
import Derived.Test.YtdbneilhgckhjaaDoorRows
import GoSem.ClaimSeven
namespace Go.Proofs.YtdbneilhgckhjaaDoor
namespace Rows

/-- THE TIED CARD OF 'laws.FnExactStripLine'. -/
def fnExactStripLineCard : Claim7 := { stood := { row := fnExactStripLineRow, standIns := [], harness := (true, "024e4ba616713457e31418c1bfa9d58deaa1428f4cc16f617938b91e4e581770"), looks := false }, kinds := [], alts := [], laidByText := true, laidKinds := [.data, .data, .data], laidTests := true, laidLooks := .later }
def FnExactStripLineCardSaid : Prop := Claim7.holds Tryd.pinned (.plain (OpenSpec.ofChange fnExactStripLineSpec)) fnExactStripLineCard

/-- THE TIED CARD OF 'laws.FnExactRegionLine'. -/
def fnExactRegionLineCard : Claim7 := { stood := { row := fnExactRegionLineRow, standIns := [], harness := (true, "024e4ba616713457e31418c1bfa9d58deaa1428f4cc16f617938b91e4e581770"), looks := false }, kinds := [], alts := [], laidByText := true, laidKinds := [.data, .data, .data], laidTests := true, laidLooks := .later }
def FnExactRegionLineCardSaid : Prop := Claim7.holds Tryd.pinned (.plain (OpenSpec.ofChange fnExactRegionLineSpec)) fnExactRegionLineCard

/-- THE TIED CARD OF 'laws.FnExactIsDivision'. -/
def fnExactIsDivisionCard : Claim7 := { stood := { row := fnExactIsDivisionRow, standIns := [], harness := (true, "024e4ba616713457e31418c1bfa9d58deaa1428f4cc16f617938b91e4e581770"), looks := false }, kinds := [], alts := [], laidByText := true, laidKinds := [.data, .data], laidTests := true, laidLooks := .later }
def FnExactIsDivisionCardSaid : Prop := Claim7.holds Tryd.pinned (.plain (OpenSpec.ofChange fnExactIsDivisionSpec)) fnExactIsDivisionCard

/-- THE SECOND FORM's CARD OF 'laws.FnExactStripLine'. -/
def fnExactStripLineUptoCard : Claim7 := { stood := { row := fnExactStripLineUptoRow, standIns := [], harness := (true, "024e4ba616713457e31418c1bfa9d58deaa1428f4cc16f617938b91e4e581770"), looks := false }, kinds := [], alts := [], laidByText := true, laidKinds := [.data, .data, .data], laidTests := true, laidLooks := .later }
def FnExactStripLineUptoCardSaid : Prop := Claim7.holds Tryd.pinned (.plain (OpenSpec.upto fnExactStripLineSpec)) fnExactStripLineUptoCard

/-- THE SECOND FORM's CARD OF 'laws.FnExactRegionLine'. -/
def fnExactRegionLineUptoCard : Claim7 := { stood := { row := fnExactRegionLineUptoRow, standIns := [], harness := (true, "024e4ba616713457e31418c1bfa9d58deaa1428f4cc16f617938b91e4e581770"), looks := false }, kinds := [], alts := [], laidByText := true, laidKinds := [.data, .data, .data], laidTests := true, laidLooks := .later }
def FnExactRegionLineUptoCardSaid : Prop := Claim7.holds Tryd.pinned (.plain (OpenSpec.upto fnExactRegionLineSpec)) fnExactRegionLineUptoCard

/-- THE SECOND FORM's CARD OF 'laws.FnExactIsDivision'. -/
def fnExactIsDivisionUptoCard : Claim7 := { stood := { row := fnExactIsDivisionUptoRow, standIns := [], harness := (true, "024e4ba616713457e31418c1bfa9d58deaa1428f4cc16f617938b91e4e581770"), looks := false }, kinds := [], alts := [], laidByText := true, laidKinds := [.data, .data], laidTests := true, laidLooks := .later }
def FnExactIsDivisionUptoCardSaid : Prop := Claim7.holds Tryd.pinned (.plain (OpenSpec.upto fnExactIsDivisionSpec)) fnExactIsDivisionUptoCard
end Rows
end Go.Proofs.YtdbneilhgckhjaaDoor
