/-
  DERIVED. GIVEN WITH THE SEED: THE CARDS: each row of YtjkppigjajknaaaGreatDoorRows.lean that lists a variable, with what it lists TIED to the program's text (the seventh form; the later family's looks); each row that meets fmt, with fmt's text TOLD by the authors' own Lean function (tested against real Go, not proved from fmt's source: count such statements apart). THE CARD IS WHAT COUNTS. Prove the row's statement (the work); the ties are given (YtjkppigjajknaaaGreatDoorTie.lean); close each card by the builder's one call (the guide's Derived/Test/ToyasCard.lean, 'card_holds'). Laid BY PROGRAM, IN A SANDBOX (cutbox-door.mjs). By AI agents, Wed Nov 11 2026. No macro, syntax, notation, axiom, sorry.
-/
import Derived.Test.YtjkppigjajknaaaGreatDoorRows
import GoSem.ClaimSeven
namespace Go.Proofs.YtjkppigjajknaaaGreatDoor
namespace Rows

/-- THE TIED CARD OF 'laws.FnExactPieceLine'. -/
def fnExactPieceLineCard : Claim7 := { stood := { row := fnExactPieceLineRow, standIns := [], harness := (true, "9b63e731297347a7ef61b8b7fbcc3eff467820bf4b60637964141830dbf6eeee"), looks := false }, kinds := [], alts := [], laidByText := true, laidKinds := [.data, .data, .data], laidTests := true, laidLooks := .later }
def FnExactPieceLineCardSaid : Prop := Claim7.holds Tryz.pinned (.plain (OpenSpec.ofChange fnExactPieceLineSpec)) fnExactPieceLineCard

/-- THE TIED CARD OF 'laws.FnExactTilingLine'. -/
def fnExactTilingLineCard : Claim7 := { stood := { row := fnExactTilingLineRow, standIns := [], harness := (true, "9b63e731297347a7ef61b8b7fbcc3eff467820bf4b60637964141830dbf6eeee"), looks := false }, kinds := [], alts := [], laidByText := true, laidKinds := [.data, .data, .data], laidTests := true, laidLooks := .later }
def FnExactTilingLineCardSaid : Prop := Claim7.holds Tryz.pinned (.plain (OpenSpec.ofChange fnExactTilingLineSpec)) fnExactTilingLineCard

/-- THE SECOND FORM's CARD OF 'laws.FnExactPieceLine'. -/
def fnExactPieceLineUptoCard : Claim7 := { stood := { row := fnExactPieceLineUptoRow, standIns := [], harness := (true, "9b63e731297347a7ef61b8b7fbcc3eff467820bf4b60637964141830dbf6eeee"), looks := false }, kinds := [], alts := [], laidByText := true, laidKinds := [.data, .data, .data], laidTests := true, laidLooks := .later }
def FnExactPieceLineUptoCardSaid : Prop := Claim7.holds Tryz.pinned (.plain (OpenSpec.upto fnExactPieceLineSpec)) fnExactPieceLineUptoCard

/-- THE SECOND FORM's CARD OF 'laws.FnExactTilingLine'. -/
def fnExactTilingLineUptoCard : Claim7 := { stood := { row := fnExactTilingLineUptoRow, standIns := [], harness := (true, "9b63e731297347a7ef61b8b7fbcc3eff467820bf4b60637964141830dbf6eeee"), looks := false }, kinds := [], alts := [], laidByText := true, laidKinds := [.data, .data, .data], laidTests := true, laidLooks := .later }
def FnExactTilingLineUptoCardSaid : Prop := Claim7.holds Tryz.pinned (.plain (OpenSpec.upto fnExactTilingLineSpec)) fnExactTilingLineUptoCard
end Rows
end Go.Proofs.YtjkppigjajknaaaGreatDoor
