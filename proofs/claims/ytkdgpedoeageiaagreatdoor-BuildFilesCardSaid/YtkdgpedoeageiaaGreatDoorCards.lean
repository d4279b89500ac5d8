/-
  DERIVED. GIVEN WITH THE SEED: THE CARDS: each row of YtkdgpedoeageiaaGreatDoorRows.lean that lists a variable, with what it lists TIED to the program's text (the seventh form; the later family's looks); each row that meets fmt, with fmt's text TOLD by the authors' own Lean function (tested against real Go, not proved from fmt's source: count such statements apart). THE CARD IS WHAT COUNTS. Prove the row's statement (the work); the ties are given (YtkdgpedoeageiaaGreatDoorTie.lean); close each card by the builder's one call (the guide's Derived/Test/ToyasCard.lean, 'card_holds'). Laid BY PROGRAM, IN A SANDBOX (cutbox-door.mjs). By AI agents, Wed Nov 11 2026. No macro, syntax, notation, axiom, sorry.
-/
import Derived.Test.YtkdgpedoeageiaaGreatDoorRows
import GoSem.ClaimSeven
namespace Go.Proofs.YtkdgpedoeageiaaGreatDoor
namespace Rows

/-- THE TIED CARD OF 'carousellaw13.LoadAgain'. -/
def loadAgainCard : Claim7 := { stood := { row := loadAgainRow, standIns := [], harness := (true, "5d21c777b2217a2403c5eca1a0393fc6a56757e7bcbee18871922f110c54e817"), looks := false }, kinds := [], alts := [], laidByText := true, laidKinds := [.data, .data, .data, .data, .pinned], laidTests := true, laidLooks := .later }
def LoadAgainCardSaid : Prop := Claim7.holds Tryz.pinned (.plain (OpenSpec.ofChange loadAgainSpec)) loadAgainCard

/-- THE TIED CARD OF 'carousellaw13.LoadAll'. -/
def loadAllCard : Claim7 := { stood := { row := loadAllRow, standIns := [], harness := (true, "5d21c777b2217a2403c5eca1a0393fc6a56757e7bcbee18871922f110c54e817"), looks := false }, kinds := [], alts := [], laidByText := true, laidKinds := [.data, .data, .data, .data, .pinned], laidTests := true, laidLooks := .later }
def LoadAllCardSaid : Prop := Claim7.holds Tryz.pinned (.plain (OpenSpec.ofChange loadAllSpec)) loadAllCard

/-- THE TIED CARD OF 'carousellaw12.BuildFiles'. -/
def buildFilesCard : Claim7 := { stood := { row := buildFilesRow, standIns := [], harness := (true, "5d21c777b2217a2403c5eca1a0393fc6a56757e7bcbee18871922f110c54e817"), looks := false }, kinds := [], alts := [], laidByText := true, laidKinds := [.data, .data, .data, .data, .pinned], laidTests := true, laidLooks := .later }
def BuildFilesCardSaid : Prop := Claim7.holds Tryz.pinned (.plain (OpenSpec.ofChange buildFilesSpec)) buildFilesCard

/-- THE TIED CARD OF 'carousellaw13.LoadSpoilt'. -/
def loadSpoiltCard : Claim7 := { stood := { row := loadSpoiltRow, standIns := [], harness := (true, "5d21c777b2217a2403c5eca1a0393fc6a56757e7bcbee18871922f110c54e817"), looks := false }, kinds := [], alts := [], laidByText := true, laidKinds := [.data, .data, .data, .data, .pinned], laidTests := true, laidLooks := .later }
def LoadSpoiltCardSaid : Prop := Claim7.holds Tryz.pinned (.plain (OpenSpec.ofChange loadSpoiltSpec)) loadSpoiltCard

/-- THE SECOND FORM's CARD OF 'carousellaw13.LoadAgain'. -/
def loadAgainUptoCard : Claim7 := { stood := { row := loadAgainUptoRow, standIns := [], harness := (true, "5d21c777b2217a2403c5eca1a0393fc6a56757e7bcbee18871922f110c54e817"), looks := false }, kinds := [], alts := [], laidByText := true, laidKinds := [.data, .data, .data, .data, .pinned], laidTests := true, laidLooks := .later }
def LoadAgainUptoCardSaid : Prop := Claim7.holds Tryz.pinned (.plain (OpenSpec.upto loadAgainSpec)) loadAgainUptoCard

/-- THE SECOND FORM's CARD OF 'carousellaw13.LoadAll'. -/
def loadAllUptoCard : Claim7 := { stood := { row := loadAllUptoRow, standIns := [], harness := (true, "5d21c777b2217a2403c5eca1a0393fc6a56757e7bcbee18871922f110c54e817"), looks := false }, kinds := [], alts := [], laidByText := true, laidKinds := [.data, .data, .data, .data, .pinned], laidTests := true, laidLooks := .later }
def LoadAllUptoCardSaid : Prop := Claim7.holds Tryz.pinned (.plain (OpenSpec.upto loadAllSpec)) loadAllUptoCard

/-- THE SECOND FORM's CARD OF 'carousellaw12.BuildFiles'. -/
def buildFilesUptoCard : Claim7 := { stood := { row := buildFilesUptoRow, standIns := [], harness := (true, "5d21c777b2217a2403c5eca1a0393fc6a56757e7bcbee18871922f110c54e817"), looks := false }, kinds := [], alts := [], laidByText := true, laidKinds := [.data, .data, .data, .data, .pinned], laidTests := true, laidLooks := .later }
def BuildFilesUptoCardSaid : Prop := Claim7.holds Tryz.pinned (.plain (OpenSpec.upto buildFilesSpec)) buildFilesUptoCard

/-- THE SECOND FORM's CARD OF 'carousellaw13.LoadSpoilt'. -/
def loadSpoiltUptoCard : Claim7 := { stood := { row := loadSpoiltUptoRow, standIns := [], harness := (true, "5d21c777b2217a2403c5eca1a0393fc6a56757e7bcbee18871922f110c54e817"), looks := false }, kinds := [], alts := [], laidByText := true, laidKinds := [.data, .data, .data, .data, .pinned], laidTests := true, laidLooks := .later }
def LoadSpoiltUptoCardSaid : Prop := Claim7.holds Tryz.pinned (.plain (OpenSpec.upto loadSpoiltSpec)) loadSpoiltUptoCard
end Rows
end Go.Proofs.YtkdgpedoeageiaaGreatDoor
