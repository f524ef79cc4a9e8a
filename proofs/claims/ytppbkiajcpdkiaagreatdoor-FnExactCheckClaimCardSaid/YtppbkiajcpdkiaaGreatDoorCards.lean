/-
  DERIVED. GIVEN WITH THE SEED: THE CARDS: each row of YtppbkiajcpdkiaaGreatDoorRows.lean that lists a variable, with what it lists TIED to the program's text (the seventh form; the later family's looks); each row that meets fmt, with fmt's text TOLD by the authors' own Lean function (tested against real Go, not proved from fmt's source: count such statements apart). THE CARD IS WHAT COUNTS. Prove the row's statement (the work); the ties are given (YtppbkiajcpdkiaaGreatDoorTie.lean); close each card by the builder's one call (the guide's Derived/Test/ToyasCard.lean, 'card_holds'). Laid BY PROGRAM, IN A SANDBOX (cutbox-door.mjs). By AI agents, Wed Nov 11 2026. No macro, syntax, notation, axiom, sorry.
-/
import Derived.Test.YtppbkiajcpdkiaaGreatDoorRows
import GoSem.ClaimSeven
namespace Go.Proofs.YtppbkiajcpdkiaaGreatDoor
namespace Rows

/-- THE TIED CARD OF 'laws.FnScales'. -/
def fnScalesCard : Claim7 := { stood := { row := fnScalesRow, standIns := [], harness := (true, "f13bb735d0a3f87ebfe722b2639aeee0cdc133432521695b43ce2a7f56358995"), looks := false }, kinds := [], alts := [], laidByText := true, laidKinds := [.data, .data], laidTests := true, laidLooks := .later }
def FnScalesCardSaid : Prop := Claim7.holds Tryz.pinned (.plain (OpenSpec.ofChange fnScalesSpec)) fnScalesCard

/-- THE TIED CARD OF 'laws.FnExactCheckClaim'. -/
def fnExactCheckClaimCard : Claim7 := { stood := { row := fnExactCheckClaimRow, standIns := [], harness := (true, "f13bb735d0a3f87ebfe722b2639aeee0cdc133432521695b43ce2a7f56358995"), looks := false }, kinds := [], alts := [], laidByText := true, laidKinds := [.data, .data], laidTests := true, laidLooks := .later }
def FnExactCheckClaimCardSaid : Prop := Claim7.holds Tryz.pinned (.plain (OpenSpec.ofChange fnExactCheckClaimSpec)) fnExactCheckClaimCard

/-- THE SECOND FORM's CARD OF 'laws.FnScales'. -/
def fnScalesUptoCard : Claim7 := { stood := { row := fnScalesUptoRow, standIns := [], harness := (true, "f13bb735d0a3f87ebfe722b2639aeee0cdc133432521695b43ce2a7f56358995"), looks := false }, kinds := [], alts := [], laidByText := true, laidKinds := [.data, .data], laidTests := true, laidLooks := .later }
def FnScalesUptoCardSaid : Prop := Claim7.holds Tryz.pinned (.plain (OpenSpec.upto fnScalesSpec)) fnScalesUptoCard

/-- THE SECOND FORM's CARD OF 'laws.FnExactCheckClaim'. -/
def fnExactCheckClaimUptoCard : Claim7 := { stood := { row := fnExactCheckClaimUptoRow, standIns := [], harness := (true, "f13bb735d0a3f87ebfe722b2639aeee0cdc133432521695b43ce2a7f56358995"), looks := false }, kinds := [], alts := [], laidByText := true, laidKinds := [.data, .data], laidTests := true, laidLooks := .later }
def FnExactCheckClaimUptoCardSaid : Prop := Claim7.holds Tryz.pinned (.plain (OpenSpec.upto fnExactCheckClaimSpec)) fnExactCheckClaimUptoCard
end Rows
end Go.Proofs.YtppbkiajcpdkiaaGreatDoor
