/-
  DERIVED. GIVEN WITH THE SEED: THE CARDS: each row of YtmnbpidpcjnfiaaGreatDoorRows.lean that lists a variable, with what it lists TIED to the program's text (the seventh form; the later family's looks); each row that meets fmt, with fmt's text TOLD by the authors' own Lean function (tested against real Go, not proved from fmt's source: count such statements apart). THE CARD IS WHAT COUNTS. Prove the row's statement (the work); the ties are given (YtmnbpidpcjnfiaaGreatDoorTie.lean); close each card by the builder's one call (the guide's Derived/Test/ToyasCard.lean, 'card_holds'). Laid BY PROGRAM, IN A SANDBOX (cutbox-door.mjs). By AI agents, Wed Nov 11 2026. No macro, syntax, notation, axiom, sorry.
-/
import Derived.Test.YtmnbpidpcjnfiaaGreatDoorRows
import GoSem.ClaimSeven
namespace Go.Proofs.YtmnbpidpcjnfiaaGreatDoor
namespace Rows

/-- THE TIED CARD OF 'carousellaw13.LoadNone'. -/
def loadNoneCard : Claim7 := { stood := { row := loadNoneRow, standIns := [], harness := (true, "f45411291e108537863042365e36f63aaa18bf24a23d2e09383be4eef70827f2"), looks := false }, kinds := [], alts := [], laidByText := true, laidKinds := [.data, .data, .data, .data, .pinned], laidTests := true, laidLooks := .later }
def LoadNoneCardSaid : Prop := Claim7.holds Tryz.pinned (.plain (OpenSpec.ofChange loadNoneSpec)) loadNoneCard

/-- THE TIED CARD OF 'carousellaw13.LoadOther'. -/
def loadOtherCard : Claim7 := { stood := { row := loadOtherRow, standIns := [], harness := (true, "f45411291e108537863042365e36f63aaa18bf24a23d2e09383be4eef70827f2"), looks := false }, kinds := [], alts := [], laidByText := true, laidKinds := [.data, .data, .data, .data, .pinned], laidTests := true, laidLooks := .later }
def LoadOtherCardSaid : Prop := Claim7.holds Tryz.pinned (.plain (OpenSpec.ofChange loadOtherSpec)) loadOtherCard

/-- THE TIED CARD OF 'carousellaw12.BuildNone'. -/
def buildNoneCard : Claim7 := { stood := { row := buildNoneRow, standIns := [], harness := (true, "f45411291e108537863042365e36f63aaa18bf24a23d2e09383be4eef70827f2"), looks := false }, kinds := [], alts := [], laidByText := true, laidKinds := [.data, .data, .data, .data, .pinned], laidTests := true, laidLooks := .later }
def BuildNoneCardSaid : Prop := Claim7.holds Tryz.pinned (.plain (OpenSpec.ofChange buildNoneSpec)) buildNoneCard

/-- THE TIED CARD OF 'carousellaw12.BuildNames'. -/
def buildNamesCard : Claim7 := { stood := { row := buildNamesRow, standIns := [], harness := (true, "f45411291e108537863042365e36f63aaa18bf24a23d2e09383be4eef70827f2"), looks := false }, kinds := [], alts := [], laidByText := true, laidKinds := [.data, .data, .data, .data, .pinned], laidTests := true, laidLooks := .later }
def BuildNamesCardSaid : Prop := Claim7.holds Tryz.pinned (.plain (OpenSpec.ofChange buildNamesSpec)) buildNamesCard

/-- THE SECOND FORM's CARD OF 'carousellaw13.LoadNone'. -/
def loadNoneUptoCard : Claim7 := { stood := { row := loadNoneUptoRow, standIns := [], harness := (true, "f45411291e108537863042365e36f63aaa18bf24a23d2e09383be4eef70827f2"), looks := false }, kinds := [], alts := [], laidByText := true, laidKinds := [.data, .data, .data, .data, .pinned], laidTests := true, laidLooks := .later }
def LoadNoneUptoCardSaid : Prop := Claim7.holds Tryz.pinned (.plain (OpenSpec.upto loadNoneSpec)) loadNoneUptoCard

/-- THE SECOND FORM's CARD OF 'carousellaw13.LoadOther'. -/
def loadOtherUptoCard : Claim7 := { stood := { row := loadOtherUptoRow, standIns := [], harness := (true, "f45411291e108537863042365e36f63aaa18bf24a23d2e09383be4eef70827f2"), looks := false }, kinds := [], alts := [], laidByText := true, laidKinds := [.data, .data, .data, .data, .pinned], laidTests := true, laidLooks := .later }
def LoadOtherUptoCardSaid : Prop := Claim7.holds Tryz.pinned (.plain (OpenSpec.upto loadOtherSpec)) loadOtherUptoCard

/-- THE SECOND FORM's CARD OF 'carousellaw12.BuildNone'. -/
def buildNoneUptoCard : Claim7 := { stood := { row := buildNoneUptoRow, standIns := [], harness := (true, "f45411291e108537863042365e36f63aaa18bf24a23d2e09383be4eef70827f2"), looks := false }, kinds := [], alts := [], laidByText := true, laidKinds := [.data, .data, .data, .data, .pinned], laidTests := true, laidLooks := .later }
def BuildNoneUptoCardSaid : Prop := Claim7.holds Tryz.pinned (.plain (OpenSpec.upto buildNoneSpec)) buildNoneUptoCard

/-- THE SECOND FORM's CARD OF 'carousellaw12.BuildNames'. -/
def buildNamesUptoCard : Claim7 := { stood := { row := buildNamesUptoRow, standIns := [], harness := (true, "f45411291e108537863042365e36f63aaa18bf24a23d2e09383be4eef70827f2"), looks := false }, kinds := [], alts := [], laidByText := true, laidKinds := [.data, .data, .data, .data, .pinned], laidTests := true, laidLooks := .later }
def BuildNamesUptoCardSaid : Prop := Claim7.holds Tryz.pinned (.plain (OpenSpec.upto buildNamesSpec)) buildNamesUptoCard
end Rows
end Go.Proofs.YtmnbpidpcjnfiaaGreatDoor
