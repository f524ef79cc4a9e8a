/-
  DERIVED. GIVEN WITH THE SEED: THE CARDS: each row of YtccihgifdlpkgaaGreatDoorRows.lean that lists a variable, with what it lists TIED to the program's text (the seventh form; the later family's looks); each row that meets fmt, with fmt's text TOLD by the authors' own Lean function (tested against real Go, not proved from fmt's source: count such statements apart). THE CARD IS WHAT COUNTS. Prove the row's statement (the work); the ties are given (YtccihgifdlpkgaaGreatDoorTie.lean); close each card by the builder's one call (the guide's Derived/Test/ToyasCard.lean, 'card_holds'). Laid BY PROGRAM, IN A SANDBOX (cutbox-door.mjs). By AI agents, Wed Nov 11 2026. No macro, syntax, notation, axiom, sorry.
-/
import Derived.Test.YtccihgifdlpkgaaGreatDoorRows
import GoSem.ClaimSeven
namespace Go.Proofs.YtccihgifdlpkgaaGreatDoor
namespace Rows

/-- THE TIED CARD OF 'laws.FnExactDivideInto'. -/
def fnExactDivideIntoCard : Claim7 := { stood := { row := fnExactDivideIntoRow, standIns := [], harness := (true, "d628f0a13ad0ffd742734601590356c64755756640d4803b63ffcd5621dd5e49"), looks := false }, kinds := [], alts := [], laidByText := true, laidKinds := [.data, .data], laidTests := true, laidLooks := .later }
def FnExactDivideIntoCardSaid : Prop := Claim7.holds Tryz.pinned (.plain (OpenSpec.ofChange fnExactDivideIntoSpec)) fnExactDivideIntoCard

/-- THE TIED CARD OF 'laws.FnExactDivisorsOf'. -/
def fnExactDivisorsOfCard : Claim7 := { stood := { row := fnExactDivisorsOfRow, standIns := [], harness := (true, "d628f0a13ad0ffd742734601590356c64755756640d4803b63ffcd5621dd5e49"), looks := false }, kinds := [], alts := [], laidByText := true, laidKinds := [.data, .data], laidTests := true, laidLooks := .later }
def FnExactDivisorsOfCardSaid : Prop := Claim7.holds Tryz.pinned (.plain (OpenSpec.ofChange fnExactDivisorsOfSpec)) fnExactDivisorsOfCard

/-- THE TIED CARD OF 'laws.FnExactCountDivisions'. -/
def fnExactCountDivisionsCard : Claim7 := { stood := { row := fnExactCountDivisionsRow, standIns := [], harness := (true, "d628f0a13ad0ffd742734601590356c64755756640d4803b63ffcd5621dd5e49"), looks := false }, kinds := [], alts := [], laidByText := true, laidKinds := [.data, .data], laidTests := true, laidLooks := .later }
def FnExactCountDivisionsCardSaid : Prop := Claim7.holds Tryz.pinned (.plain (OpenSpec.ofChange fnExactCountDivisionsSpec)) fnExactCountDivisionsCard

/-- THE TIED CARD OF 'laws.FnExactDivisionPieces'. -/
def fnExactDivisionPiecesCard : Claim7 := { stood := { row := fnExactDivisionPiecesRow, standIns := [], harness := (true, "d628f0a13ad0ffd742734601590356c64755756640d4803b63ffcd5621dd5e49"), looks := false }, kinds := [], alts := [], laidByText := true, laidKinds := [.data, .data], laidTests := true, laidLooks := .later }
def FnExactDivisionPiecesCardSaid : Prop := Claim7.holds Tryz.pinned (.plain (OpenSpec.ofChange fnExactDivisionPiecesSpec)) fnExactDivisionPiecesCard

/-- THE SECOND FORM's CARD OF 'laws.FnExactDivideInto'. -/
def fnExactDivideIntoUptoCard : Claim7 := { stood := { row := fnExactDivideIntoUptoRow, standIns := [], harness := (true, "d628f0a13ad0ffd742734601590356c64755756640d4803b63ffcd5621dd5e49"), looks := false }, kinds := [], alts := [], laidByText := true, laidKinds := [.data, .data], laidTests := true, laidLooks := .later }
def FnExactDivideIntoUptoCardSaid : Prop := Claim7.holds Tryz.pinned (.plain (OpenSpec.upto fnExactDivideIntoSpec)) fnExactDivideIntoUptoCard

/-- THE SECOND FORM's CARD OF 'laws.FnExactDivisorsOf'. -/
def fnExactDivisorsOfUptoCard : Claim7 := { stood := { row := fnExactDivisorsOfUptoRow, standIns := [], harness := (true, "d628f0a13ad0ffd742734601590356c64755756640d4803b63ffcd5621dd5e49"), looks := false }, kinds := [], alts := [], laidByText := true, laidKinds := [.data, .data], laidTests := true, laidLooks := .later }
def FnExactDivisorsOfUptoCardSaid : Prop := Claim7.holds Tryz.pinned (.plain (OpenSpec.upto fnExactDivisorsOfSpec)) fnExactDivisorsOfUptoCard

/-- THE SECOND FORM's CARD OF 'laws.FnExactCountDivisions'. -/
def fnExactCountDivisionsUptoCard : Claim7 := { stood := { row := fnExactCountDivisionsUptoRow, standIns := [], harness := (true, "d628f0a13ad0ffd742734601590356c64755756640d4803b63ffcd5621dd5e49"), looks := false }, kinds := [], alts := [], laidByText := true, laidKinds := [.data, .data], laidTests := true, laidLooks := .later }
def FnExactCountDivisionsUptoCardSaid : Prop := Claim7.holds Tryz.pinned (.plain (OpenSpec.upto fnExactCountDivisionsSpec)) fnExactCountDivisionsUptoCard

/-- THE SECOND FORM's CARD OF 'laws.FnExactDivisionPieces'. -/
def fnExactDivisionPiecesUptoCard : Claim7 := { stood := { row := fnExactDivisionPiecesUptoRow, standIns := [], harness := (true, "d628f0a13ad0ffd742734601590356c64755756640d4803b63ffcd5621dd5e49"), looks := false }, kinds := [], alts := [], laidByText := true, laidKinds := [.data, .data], laidTests := true, laidLooks := .later }
def FnExactDivisionPiecesUptoCardSaid : Prop := Claim7.holds Tryz.pinned (.plain (OpenSpec.upto fnExactDivisionPiecesSpec)) fnExactDivisionPiecesUptoCard
end Rows
end Go.Proofs.YtccihgifdlpkgaaGreatDoor
