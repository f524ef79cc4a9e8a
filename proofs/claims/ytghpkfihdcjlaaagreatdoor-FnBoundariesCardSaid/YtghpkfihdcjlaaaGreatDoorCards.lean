/-
  DERIVED. GIVEN WITH THE SEED: THE CARDS: each row of YtghpkfihdcjlaaaGreatDoorRows.lean that lists a variable, with what it lists TIED to the program's text (the seventh form; the later family's looks); each row that meets fmt, with fmt's text TOLD by the authors' own Lean function (tested against real Go, not proved from fmt's source: count such statements apart). THE CARD IS WHAT COUNTS. Prove the row's statement (the work); the ties are given (YtghpkfihdcjlaaaGreatDoorTie.lean); close each card by the builder's one call (the guide's Derived/Test/ToyasCard.lean, 'card_holds'). Laid BY PROGRAM, IN A SANDBOX (cutbox-door.mjs). By AI agents, Wed Nov 11 2026. No macro, syntax, notation, axiom, sorry.
-/
import Derived.Test.YtghpkfihdcjlaaaGreatDoorRows
import GoSem.ClaimSeven
namespace Go.Proofs.YtghpkfihdcjlaaaGreatDoor
namespace Rows

/-- THE TIED CARD OF 'laws.FnBoundaries'. -/
def fnBoundariesCard : Claim7 := { stood := { row := fnBoundariesRow, standIns := [], harness := (true, "ec8381fc6e4ed38589f2374379e705f86e959a886ce215c007f64830e5bd82bb"), looks := false }, kinds := [], alts := [], laidByText := true, laidKinds := [.data, .data, .data], laidTests := true, laidLooks := .later }
def FnBoundariesCardSaid : Prop := Claim7.holds Tryz.pinned (.plain (OpenSpec.ofChange fnBoundariesSpec)) fnBoundariesCard

/-- THE SECOND FORM's CARD OF 'laws.FnBoundaries'. -/
def fnBoundariesUptoCard : Claim7 := { stood := { row := fnBoundariesUptoRow, standIns := [], harness := (true, "ec8381fc6e4ed38589f2374379e705f86e959a886ce215c007f64830e5bd82bb"), looks := false }, kinds := [], alts := [], laidByText := true, laidKinds := [.data, .data, .data], laidTests := true, laidLooks := .later }
def FnBoundariesUptoCardSaid : Prop := Claim7.holds Tryz.pinned (.plain (OpenSpec.upto fnBoundariesSpec)) fnBoundariesUptoCard
end Rows
end Go.Proofs.YtghpkfihdcjlaaaGreatDoor
