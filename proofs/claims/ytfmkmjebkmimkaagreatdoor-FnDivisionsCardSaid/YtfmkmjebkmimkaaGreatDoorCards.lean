/-
  DERIVED. GIVEN WITH THE SEED: THE CARDS: each row of YtfmkmjebkmimkaaGreatDoorRows.lean that lists a variable, with what it lists TIED to the program's text (the seventh form; the later family's looks); each row that meets fmt, with fmt's text TOLD by the authors' own Lean function (tested against real Go, not proved from fmt's source: count such statements apart). THE CARD IS WHAT COUNTS. Prove the row's statement (the work); the ties are given (YtfmkmjebkmimkaaGreatDoorTie.lean); close each card by the builder's one call (the guide's Derived/Test/ToyasCard.lean, 'card_holds'). Laid BY PROGRAM, IN A SANDBOX (cutbox-door.mjs). By AI agents, Wed Nov 11 2026. No macro, syntax, notation, axiom, sorry.
-/
import Derived.Test.YtfmkmjebkmimkaaGreatDoorRows
import GoSem.ClaimSeven
namespace Go.Proofs.YtfmkmjebkmimkaaGreatDoor
namespace Rows

/-- THE TIED CARD OF 'laws.FnExactPackLine'. -/
def fnExactPackLineCard : Claim7 := { stood := { row := fnExactPackLineRow, standIns := [], harness := (true, "ff59a6c3f8a125e030fbe4e2b1a8a81e6de40be27fbdcd60ab579fe4eda3107d"), looks := false }, kinds := [], alts := [], laidByText := true, laidKinds := [.data, .data, .data], laidTests := true, laidLooks := .later }
def FnExactPackLineCardSaid : Prop := Claim7.holds Tryz.pinned (.plain (OpenSpec.ofChange fnExactPackLineSpec)) fnExactPackLineCard

/-- THE TIED CARD OF 'laws.FnExactCheckClaim'. -/
def fnExactCheckClaimCard : Claim7 := { stood := { row := fnExactCheckClaimRow, standIns := [], harness := (true, "ff59a6c3f8a125e030fbe4e2b1a8a81e6de40be27fbdcd60ab579fe4eda3107d"), looks := false }, kinds := [], alts := [], laidByText := true, laidKinds := [.data, .data], laidTests := true, laidLooks := .later }
def FnExactCheckClaimCardSaid : Prop := Claim7.holds Tryz.pinned (.plain (OpenSpec.ofChange fnExactCheckClaimSpec)) fnExactCheckClaimCard

/-- THE TIED CARD OF 'laws.FnCommon'. -/
def fnCommonCard : Claim7 := { stood := { row := fnCommonRow, standIns := [], harness := (true, "ff59a6c3f8a125e030fbe4e2b1a8a81e6de40be27fbdcd60ab579fe4eda3107d"), looks := false }, kinds := [], alts := [], laidByText := true, laidKinds := [.data, .data], laidTests := true, laidLooks := .later }
def FnCommonCardSaid : Prop := Claim7.holds Tryz.pinned (.plain (OpenSpec.ofChange fnCommonSpec)) fnCommonCard

/-- THE TIED CARD OF 'laws.FnDivisions'. -/
def fnDivisionsCard : Claim7 := { stood := { row := fnDivisionsRow, standIns := [], harness := (true, "ff59a6c3f8a125e030fbe4e2b1a8a81e6de40be27fbdcd60ab579fe4eda3107d"), looks := false }, kinds := [], alts := [], laidByText := true, laidKinds := [.data, .data], laidTests := true, laidLooks := .later }
def FnDivisionsCardSaid : Prop := Claim7.holds Tryz.pinned (.plain (OpenSpec.ofChange fnDivisionsSpec)) fnDivisionsCard

/-- THE SECOND FORM's CARD OF 'laws.FnExactPackLine'. -/
def fnExactPackLineUptoCard : Claim7 := { stood := { row := fnExactPackLineUptoRow, standIns := [], harness := (true, "ff59a6c3f8a125e030fbe4e2b1a8a81e6de40be27fbdcd60ab579fe4eda3107d"), looks := false }, kinds := [], alts := [], laidByText := true, laidKinds := [.data, .data, .data], laidTests := true, laidLooks := .later }
def FnExactPackLineUptoCardSaid : Prop := Claim7.holds Tryz.pinned (.plain (OpenSpec.upto fnExactPackLineSpec)) fnExactPackLineUptoCard

/-- THE SECOND FORM's CARD OF 'laws.FnExactCheckClaim'. -/
def fnExactCheckClaimUptoCard : Claim7 := { stood := { row := fnExactCheckClaimUptoRow, standIns := [], harness := (true, "ff59a6c3f8a125e030fbe4e2b1a8a81e6de40be27fbdcd60ab579fe4eda3107d"), looks := false }, kinds := [], alts := [], laidByText := true, laidKinds := [.data, .data], laidTests := true, laidLooks := .later }
def FnExactCheckClaimUptoCardSaid : Prop := Claim7.holds Tryz.pinned (.plain (OpenSpec.upto fnExactCheckClaimSpec)) fnExactCheckClaimUptoCard

/-- THE SECOND FORM's CARD OF 'laws.FnCommon'. -/
def fnCommonUptoCard : Claim7 := { stood := { row := fnCommonUptoRow, standIns := [], harness := (true, "ff59a6c3f8a125e030fbe4e2b1a8a81e6de40be27fbdcd60ab579fe4eda3107d"), looks := false }, kinds := [], alts := [], laidByText := true, laidKinds := [.data, .data], laidTests := true, laidLooks := .later }
def FnCommonUptoCardSaid : Prop := Claim7.holds Tryz.pinned (.plain (OpenSpec.upto fnCommonSpec)) fnCommonUptoCard

/-- THE SECOND FORM's CARD OF 'laws.FnDivisions'. -/
def fnDivisionsUptoCard : Claim7 := { stood := { row := fnDivisionsUptoRow, standIns := [], harness := (true, "ff59a6c3f8a125e030fbe4e2b1a8a81e6de40be27fbdcd60ab579fe4eda3107d"), looks := false }, kinds := [], alts := [], laidByText := true, laidKinds := [.data, .data], laidTests := true, laidLooks := .later }
def FnDivisionsUptoCardSaid : Prop := Claim7.holds Tryz.pinned (.plain (OpenSpec.upto fnDivisionsSpec)) fnDivisionsUptoCard
end Rows
end Go.Proofs.YtfmkmjebkmimkaaGreatDoor
