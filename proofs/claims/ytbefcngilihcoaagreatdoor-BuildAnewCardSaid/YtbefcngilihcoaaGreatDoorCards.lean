/-
  DERIVED. GIVEN WITH THE SEED: THE CARDS: each row of YtbefcngilihcoaaGreatDoorRows.lean that lists a variable, with what it lists TIED to the program's text (the seventh form; the later family's looks); each row that meets fmt, with fmt's text TOLD by the authors' own Lean function (tested against real Go, not proved from fmt's source: count such statements apart). THE CARD IS WHAT COUNTS. Prove the row's statement (the work); the ties are given (YtbefcngilihcoaaGreatDoorTie.lean); close each card by the builder's one call (the guide's Derived/Test/ToyasCard.lean, 'card_holds'). Laid BY PROGRAM, IN A SANDBOX (cutbox-door.mjs). By AI agents, Wed Nov 11 2026. No macro, syntax, notation, axiom, sorry.
-/
import Derived.Test.YtbefcngilihcoaaGreatDoorRows
import GoSem.ClaimSeven
namespace Go.Proofs.YtbefcngilihcoaaGreatDoor
namespace Rows

/-- THE TIED CARD OF 'carousellaw12.BuildAnew'. -/
def buildAnewCard : Claim7 := { stood := { row := buildAnewRow, standIns := [], harness := (true, "eda2ec786f6ec6252a22d121c19bfdfb179fc4445235627bd75e83f89656f9de"), looks := false }, kinds := [], alts := [], laidByText := true, laidKinds := [.data, .data, .data, .data, .pinned], laidTests := true, laidLooks := .later }
def BuildAnewCardSaid : Prop := Claim7.holds Tryz.pinned (.plain (OpenSpec.ofChange buildAnewSpec)) buildAnewCard

/-- THE TIED CARD OF 'carousellaw13.LoadPlay'. -/
def loadPlayCard : Claim7 := { stood := { row := loadPlayRow, standIns := [], harness := (true, "eda2ec786f6ec6252a22d121c19bfdfb179fc4445235627bd75e83f89656f9de"), looks := false }, kinds := [], alts := [], laidByText := true, laidKinds := [.data, .data, .data, .data, .pinned], laidTests := true, laidLooks := .later }
def LoadPlayCardSaid : Prop := Claim7.holds Tryz.pinned (.plain (OpenSpec.ofChange loadPlaySpec)) loadPlayCard

/-- THE TIED CARD OF 'carousellaw12.BuildPins'. -/
def buildPinsCard : Claim7 := { stood := { row := buildPinsRow, standIns := [], harness := (true, "eda2ec786f6ec6252a22d121c19bfdfb179fc4445235627bd75e83f89656f9de"), looks := false }, kinds := [], alts := [], laidByText := true, laidKinds := [.data, .data, .data, .data, .pinned], laidTests := true, laidLooks := .later }
def BuildPinsCardSaid : Prop := Claim7.holds Tryz.pinned (.plain (OpenSpec.ofChange buildPinsSpec)) buildPinsCard

/-- THE TIED CARD OF 'carousellaw12.BuildPlay'. -/
def buildPlayCard : Claim7 := { stood := { row := buildPlayRow, standIns := [], harness := (true, "eda2ec786f6ec6252a22d121c19bfdfb179fc4445235627bd75e83f89656f9de"), looks := false }, kinds := [], alts := [], laidByText := true, laidKinds := [.data, .data, .data, .data, .pinned], laidTests := true, laidLooks := .later }
def BuildPlayCardSaid : Prop := Claim7.holds Tryz.pinned (.plain (OpenSpec.ofChange buildPlaySpec)) buildPlayCard

/-- THE SECOND FORM's CARD OF 'carousellaw12.BuildAnew'. -/
def buildAnewUptoCard : Claim7 := { stood := { row := buildAnewUptoRow, standIns := [], harness := (true, "eda2ec786f6ec6252a22d121c19bfdfb179fc4445235627bd75e83f89656f9de"), looks := false }, kinds := [], alts := [], laidByText := true, laidKinds := [.data, .data, .data, .data, .pinned], laidTests := true, laidLooks := .later }
def BuildAnewUptoCardSaid : Prop := Claim7.holds Tryz.pinned (.plain (OpenSpec.upto buildAnewSpec)) buildAnewUptoCard

/-- THE SECOND FORM's CARD OF 'carousellaw13.LoadPlay'. -/
def loadPlayUptoCard : Claim7 := { stood := { row := loadPlayUptoRow, standIns := [], harness := (true, "eda2ec786f6ec6252a22d121c19bfdfb179fc4445235627bd75e83f89656f9de"), looks := false }, kinds := [], alts := [], laidByText := true, laidKinds := [.data, .data, .data, .data, .pinned], laidTests := true, laidLooks := .later }
def LoadPlayUptoCardSaid : Prop := Claim7.holds Tryz.pinned (.plain (OpenSpec.upto loadPlaySpec)) loadPlayUptoCard

/-- THE SECOND FORM's CARD OF 'carousellaw12.BuildPins'. -/
def buildPinsUptoCard : Claim7 := { stood := { row := buildPinsUptoRow, standIns := [], harness := (true, "eda2ec786f6ec6252a22d121c19bfdfb179fc4445235627bd75e83f89656f9de"), looks := false }, kinds := [], alts := [], laidByText := true, laidKinds := [.data, .data, .data, .data, .pinned], laidTests := true, laidLooks := .later }
def BuildPinsUptoCardSaid : Prop := Claim7.holds Tryz.pinned (.plain (OpenSpec.upto buildPinsSpec)) buildPinsUptoCard

/-- THE SECOND FORM's CARD OF 'carousellaw12.BuildPlay'. -/
def buildPlayUptoCard : Claim7 := { stood := { row := buildPlayUptoRow, standIns := [], harness := (true, "eda2ec786f6ec6252a22d121c19bfdfb179fc4445235627bd75e83f89656f9de"), looks := false }, kinds := [], alts := [], laidByText := true, laidKinds := [.data, .data, .data, .data, .pinned], laidTests := true, laidLooks := .later }
def BuildPlayUptoCardSaid : Prop := Claim7.holds Tryz.pinned (.plain (OpenSpec.upto buildPlaySpec)) buildPlayUptoCard
end Rows
end Go.Proofs.YtbefcngilihcoaaGreatDoor
