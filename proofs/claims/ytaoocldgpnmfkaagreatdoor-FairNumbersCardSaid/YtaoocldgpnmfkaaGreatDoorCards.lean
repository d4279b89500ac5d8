/-
  DERIVED. GIVEN WITH THE SEED: THE CARDS: each row of YtaoocldgpnmfkaaGreatDoorRows.lean that lists a variable, with what it lists TIED to the program's text (the seventh form; the later family's looks); each row that meets fmt, with fmt's text TOLD by the authors' own Lean function (tested against real Go, not proved from fmt's source: count such statements apart). THE CARD IS WHAT COUNTS. Prove the row's statement (the work); the ties are given (YtaoocldgpnmfkaaGreatDoorTie.lean); close each card by the builder's one call (the guide's Derived/Test/ToyasCard.lean, 'card_holds'). Laid BY PROGRAM, IN A SANDBOX (cutbox-door.mjs). By AI agents, Wed Nov 11 2026. No macro, syntax, notation, axiom, sorry.
-/
import Derived.Test.YtaoocldgpnmfkaaGreatDoorRows
import GoSem.ClaimSeven
namespace Go.Proofs.YtaoocldgpnmfkaaGreatDoor
namespace Rows

/-- THE TIED CARD OF 'carousellaw29.FairNumbers'. -/
def fairNumbersCard : Claim7 := { stood := { row := fairNumbersRow, standIns := [], harness := (true, "244bcb5844dfc9b11373d16bd5173a3670e4b9e00692baf9eb4f5ed14a5cb472"), looks := false }, kinds := [], alts := [], laidByText := true, laidKinds := [.data, .data, .data, .data, .pinned], laidTests := true, laidLooks := .later }
def FairNumbersCardSaid : Prop := Claim7.holds Tryz.pinned (.plain (OpenSpec.ofChange fairNumbersSpec)) fairNumbersCard

/-- THE SECOND FORM's CARD OF 'carousellaw29.FairNumbers'. -/
def fairNumbersUptoCard : Claim7 := { stood := { row := fairNumbersUptoRow, standIns := [], harness := (true, "244bcb5844dfc9b11373d16bd5173a3670e4b9e00692baf9eb4f5ed14a5cb472"), looks := false }, kinds := [], alts := [], laidByText := true, laidKinds := [.data, .data, .data, .data, .pinned], laidTests := true, laidLooks := .later }
def FairNumbersUptoCardSaid : Prop := Claim7.holds Tryz.pinned (.plain (OpenSpec.upto fairNumbersSpec)) fairNumbersUptoCard
end Rows
end Go.Proofs.YtaoocldgpnmfkaaGreatDoor
