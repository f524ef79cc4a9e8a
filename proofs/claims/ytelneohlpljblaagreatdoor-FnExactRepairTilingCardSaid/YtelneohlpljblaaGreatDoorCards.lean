/-
  DERIVED. GIVEN WITH THE SEED: THE CARDS: each row of YtelneohlpljblaaGreatDoorRows.lean that lists a variable, with what it lists TIED to the program's text (the seventh form; the later family's looks); each row that meets fmt, with fmt's text TOLD by the authors' own Lean function (tested against real Go, not proved from fmt's source: count such statements apart). THE CARD IS WHAT COUNTS. Prove the row's statement (the work); the ties are given (YtelneohlpljblaaGreatDoorTie.lean); close each card by the builder's one call (the guide's Derived/Test/ToyasCard.lean, 'card_holds'). Laid BY PROGRAM, IN A SANDBOX (cutbox-door.mjs). By AI agents, Wed Nov 11 2026. No macro, syntax, notation, axiom, sorry.
-/
import Derived.Test.YtelneohlpljblaaGreatDoorRows
import GoSem.ClaimSeven
namespace Go.Proofs.YtelneohlpljblaaGreatDoor
namespace Rows

/-- THE TIED CARD OF 'laws.FnExactCommonRegion'. -/
def fnExactCommonRegionCard : Claim7 := { stood := { row := fnExactCommonRegionRow, standIns := [], harness := (true, "41b755b49c618739e11a26fb945ebdf0d211dcbc8b3059fa0a8266e648331722"), looks := false }, kinds := [], alts := [], laidByText := true, laidKinds := [.data, .data], laidTests := true, laidLooks := .later }
def FnExactCommonRegionCardSaid : Prop := Claim7.holds Tryz.pinned (.plain (OpenSpec.ofChange fnExactCommonRegionSpec)) fnExactCommonRegionCard

/-- THE TIED CARD OF 'laws.FnExactCommonRectangle'. -/
def fnExactCommonRectangleCard : Claim7 := { stood := { row := fnExactCommonRectangleRow, standIns := [], harness := (true, "41b755b49c618739e11a26fb945ebdf0d211dcbc8b3059fa0a8266e648331722"), looks := false }, kinds := [], alts := [], laidByText := true, laidKinds := [.data, .data], laidTests := true, laidLooks := .later }
def FnExactCommonRectangleCardSaid : Prop := Claim7.holds Tryz.pinned (.plain (OpenSpec.ofChange fnExactCommonRectangleSpec)) fnExactCommonRectangleCard

/-- THE TIED CARD OF 'laws.FnExactAreCompatible'. -/
def fnExactAreCompatibleCard : Claim7 := { stood := { row := fnExactAreCompatibleRow, standIns := [], harness := (true, "41b755b49c618739e11a26fb945ebdf0d211dcbc8b3059fa0a8266e648331722"), looks := false }, kinds := [], alts := [], laidByText := true, laidKinds := [.data, .data], laidTests := true, laidLooks := .later }
def FnExactAreCompatibleCardSaid : Prop := Claim7.holds Tryz.pinned (.plain (OpenSpec.ofChange fnExactAreCompatibleSpec)) fnExactAreCompatibleCard

/-- THE TIED CARD OF 'laws.FnExactLeastCommonArea'. -/
def fnExactLeastCommonAreaCard : Claim7 := { stood := { row := fnExactLeastCommonAreaRow, standIns := [], harness := (true, "41b755b49c618739e11a26fb945ebdf0d211dcbc8b3059fa0a8266e648331722"), looks := false }, kinds := [], alts := [], laidByText := true, laidKinds := [.data, .data], laidTests := true, laidLooks := .later }
def FnExactLeastCommonAreaCardSaid : Prop := Claim7.holds Tryz.pinned (.plain (OpenSpec.ofChange fnExactLeastCommonAreaSpec)) fnExactLeastCommonAreaCard

/-- THE TIED CARD OF 'laws.FnExactCommonTilings'. -/
def fnExactCommonTilingsCard : Claim7 := { stood := { row := fnExactCommonTilingsRow, standIns := [], harness := (true, "41b755b49c618739e11a26fb945ebdf0d211dcbc8b3059fa0a8266e648331722"), looks := false }, kinds := [], alts := [], laidByText := true, laidKinds := [.data, .data], laidTests := true, laidLooks := .later }
def FnExactCommonTilingsCardSaid : Prop := Claim7.holds Tryz.pinned (.plain (OpenSpec.ofChange fnExactCommonTilingsSpec)) fnExactCommonTilingsCard

/-- THE TIED CARD OF 'laws.FnExactRepairTiling'. -/
def fnExactRepairTilingCard : Claim7 := { stood := { row := fnExactRepairTilingRow, standIns := [], harness := (true, "41b755b49c618739e11a26fb945ebdf0d211dcbc8b3059fa0a8266e648331722"), looks := false }, kinds := [], alts := [], laidByText := true, laidKinds := [.data, .data], laidTests := true, laidLooks := .later }
def FnExactRepairTilingCardSaid : Prop := Claim7.holds Tryz.pinned (.plain (OpenSpec.ofChange fnExactRepairTilingSpec)) fnExactRepairTilingCard

/-- THE TIED CARD OF 'laws.FnExactSafeRemovals'. -/
def fnExactSafeRemovalsCard : Claim7 := { stood := { row := fnExactSafeRemovalsRow, standIns := [], harness := (true, "41b755b49c618739e11a26fb945ebdf0d211dcbc8b3059fa0a8266e648331722"), looks := false }, kinds := [], alts := [], laidByText := true, laidKinds := [.data, .data], laidTests := true, laidLooks := .later }
def FnExactSafeRemovalsCardSaid : Prop := Claim7.holds Tryz.pinned (.plain (OpenSpec.ofChange fnExactSafeRemovalsSpec)) fnExactSafeRemovalsCard

/-- THE SECOND FORM's CARD OF 'laws.FnExactCommonRegion'. -/
def fnExactCommonRegionUptoCard : Claim7 := { stood := { row := fnExactCommonRegionUptoRow, standIns := [], harness := (true, "41b755b49c618739e11a26fb945ebdf0d211dcbc8b3059fa0a8266e648331722"), looks := false }, kinds := [], alts := [], laidByText := true, laidKinds := [.data, .data], laidTests := true, laidLooks := .later }
def FnExactCommonRegionUptoCardSaid : Prop := Claim7.holds Tryz.pinned (.plain (OpenSpec.upto fnExactCommonRegionSpec)) fnExactCommonRegionUptoCard

/-- THE SECOND FORM's CARD OF 'laws.FnExactCommonRectangle'. -/
def fnExactCommonRectangleUptoCard : Claim7 := { stood := { row := fnExactCommonRectangleUptoRow, standIns := [], harness := (true, "41b755b49c618739e11a26fb945ebdf0d211dcbc8b3059fa0a8266e648331722"), looks := false }, kinds := [], alts := [], laidByText := true, laidKinds := [.data, .data], laidTests := true, laidLooks := .later }
def FnExactCommonRectangleUptoCardSaid : Prop := Claim7.holds Tryz.pinned (.plain (OpenSpec.upto fnExactCommonRectangleSpec)) fnExactCommonRectangleUptoCard

/-- THE SECOND FORM's CARD OF 'laws.FnExactAreCompatible'. -/
def fnExactAreCompatibleUptoCard : Claim7 := { stood := { row := fnExactAreCompatibleUptoRow, standIns := [], harness := (true, "41b755b49c618739e11a26fb945ebdf0d211dcbc8b3059fa0a8266e648331722"), looks := false }, kinds := [], alts := [], laidByText := true, laidKinds := [.data, .data], laidTests := true, laidLooks := .later }
def FnExactAreCompatibleUptoCardSaid : Prop := Claim7.holds Tryz.pinned (.plain (OpenSpec.upto fnExactAreCompatibleSpec)) fnExactAreCompatibleUptoCard

/-- THE SECOND FORM's CARD OF 'laws.FnExactLeastCommonArea'. -/
def fnExactLeastCommonAreaUptoCard : Claim7 := { stood := { row := fnExactLeastCommonAreaUptoRow, standIns := [], harness := (true, "41b755b49c618739e11a26fb945ebdf0d211dcbc8b3059fa0a8266e648331722"), looks := false }, kinds := [], alts := [], laidByText := true, laidKinds := [.data, .data], laidTests := true, laidLooks := .later }
def FnExactLeastCommonAreaUptoCardSaid : Prop := Claim7.holds Tryz.pinned (.plain (OpenSpec.upto fnExactLeastCommonAreaSpec)) fnExactLeastCommonAreaUptoCard

/-- THE SECOND FORM's CARD OF 'laws.FnExactCommonTilings'. -/
def fnExactCommonTilingsUptoCard : Claim7 := { stood := { row := fnExactCommonTilingsUptoRow, standIns := [], harness := (true, "41b755b49c618739e11a26fb945ebdf0d211dcbc8b3059fa0a8266e648331722"), looks := false }, kinds := [], alts := [], laidByText := true, laidKinds := [.data, .data], laidTests := true, laidLooks := .later }
def FnExactCommonTilingsUptoCardSaid : Prop := Claim7.holds Tryz.pinned (.plain (OpenSpec.upto fnExactCommonTilingsSpec)) fnExactCommonTilingsUptoCard

/-- THE SECOND FORM's CARD OF 'laws.FnExactRepairTiling'. -/
def fnExactRepairTilingUptoCard : Claim7 := { stood := { row := fnExactRepairTilingUptoRow, standIns := [], harness := (true, "41b755b49c618739e11a26fb945ebdf0d211dcbc8b3059fa0a8266e648331722"), looks := false }, kinds := [], alts := [], laidByText := true, laidKinds := [.data, .data], laidTests := true, laidLooks := .later }
def FnExactRepairTilingUptoCardSaid : Prop := Claim7.holds Tryz.pinned (.plain (OpenSpec.upto fnExactRepairTilingSpec)) fnExactRepairTilingUptoCard

/-- THE SECOND FORM's CARD OF 'laws.FnExactSafeRemovals'. -/
def fnExactSafeRemovalsUptoCard : Claim7 := { stood := { row := fnExactSafeRemovalsUptoRow, standIns := [], harness := (true, "41b755b49c618739e11a26fb945ebdf0d211dcbc8b3059fa0a8266e648331722"), looks := false }, kinds := [], alts := [], laidByText := true, laidKinds := [.data, .data], laidTests := true, laidLooks := .later }
def FnExactSafeRemovalsUptoCardSaid : Prop := Claim7.holds Tryz.pinned (.plain (OpenSpec.upto fnExactSafeRemovalsSpec)) fnExactSafeRemovalsUptoCard
end Rows
end Go.Proofs.YtelneohlpljblaaGreatDoor
