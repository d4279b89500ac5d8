/-
  No cell of these rows narrows 'for every input' (looked for: loops, veiled, ifaces, maps, wideKeys, modest, calm, conditions, laid).
  DERIVED. THE GIVEN ROWS OF THIS SEAT. 7 by the template 'for every input the law returns true; each argument reads behind the call as it read before'; 0 by the template 'total and deterministic' (their statements: YtbcijfhjbmlplaaTotals.lean).
  GIVEN WITH THE SEED: the statements are not yours to turn. If you find one false, say at which input.
  Laid BY PROGRAM, IN A SANDBOX (cutbox-rows.mjs): the forced cells as the released guide's own fill.sh prints them over the translation 47327956ba5ddf36… (all of the seat's roots in one cut). By AI agents, Wed Nov 11 2026. No macro, syntax, notation, axiom, sorry.
-/
import Derived.Test.YtbcijfhjbmlplaaChecked
import GoSem.Claim
import GoSem.ClaimJoined
import GoSem.ClaimMapViews
import Derived.JoinedTies
import Derived.KernelRfl
namespace Go.Proofs.Ytbcijfhjbmlplaa
/- THE CELL 'sum', in the pinned program and in every row, IS THE sha256 OF THE DUMP (.gsa) THAT YtbcijfhjbmlplaaProg.lean LOADS. Nothing in Lean hashes anything: it is a label: what it is worth is what the hold of that sum in a sandbox is worth. -/
noncomputable def Try.pinned : Pinned := { name := "ytbcijfhjbmlplaa", sum := "47327956ba5ddf36e136d18062283e1e79c426ebe5f1c96808b5520b7f80e3b6", checked := Try.checked }
namespace Rows
def none {H : Type} : Left H := { results := [], args := [] }

/-- 'carousellaw03.SumsGoes': WHATEVER THE INPUT: true; the input reads as it did. -/
def sumsGoesSpec : ChangeSpec := { name := "sumsGoes", fn := fun _ => fun
  | [d1, d2] => { results := [.lit (.bool true)], args := [d1, d2] }
  | _ => none }
def sumsGoesRow : OpenClaim := { program := "ytbcijfhjbmlplaa", sum := "47327956ba5ddf36e136d18062283e1e79c426ebe5f1c96808b5520b7f80e3b6", func := "carousel/carousellaw03.SumsGoes", spec := "sumsGoes", apart := false }
def SumsGoesSaid : Prop := sumsGoesRow.holds Try.pinned (OpenSpec.ofChange sumsGoesSpec)

/-- ITS FALSE NEIGHBOUR: 'it returns false'. Refute it at one input. -/
def sumsGoesWrong : ChangeSpec := { name := "sumsGoes", fn := fun _ => fun
  | [d1, d2] => { results := [.lit (.bool false)], args := [d1, d2] }
  | _ => none }
def SumsGoesWrongFalsely : Prop := sumsGoesRow.holds Try.pinned (OpenSpec.ofChange sumsGoesWrong)

/-- 'carousellaw03.SumsApart': WHATEVER THE INPUT: true; the input reads as it did. -/
def sumsApartSpec : ChangeSpec := { name := "sumsApart", fn := fun _ => fun
  | [d1, d2, d3] => { results := [.lit (.bool true)], args := [d1, d2, d3] }
  | _ => none }
def sumsApartRow : OpenClaim := { program := "ytbcijfhjbmlplaa", sum := "47327956ba5ddf36e136d18062283e1e79c426ebe5f1c96808b5520b7f80e3b6", func := "carousel/carousellaw03.SumsApart", spec := "sumsApart", apart := false }
def SumsApartSaid : Prop := sumsApartRow.holds Try.pinned (OpenSpec.ofChange sumsApartSpec)

/-- ITS FALSE NEIGHBOUR: 'it returns false'. Refute it at one input. -/
def sumsApartWrong : ChangeSpec := { name := "sumsApart", fn := fun _ => fun
  | [d1, d2, d3] => { results := [.lit (.bool false)], args := [d1, d2, d3] }
  | _ => none }
def SumsApartWrongFalsely : Prop := sumsApartRow.holds Try.pinned (OpenSpec.ofChange sumsApartWrong)

/-- 'carousellaw03.SumsSealed': WHATEVER THE INPUT: true; the input reads as it did. -/
def sumsSealedSpec : ChangeSpec := { name := "sumsSealed", fn := fun _ => fun
  | [d1, d2] => { results := [.lit (.bool true)], args := [d1, d2] }
  | _ => none }
def sumsSealedRow : OpenClaim := { program := "ytbcijfhjbmlplaa", sum := "47327956ba5ddf36e136d18062283e1e79c426ebe5f1c96808b5520b7f80e3b6", func := "carousel/carousellaw03.SumsSealed", spec := "sumsSealed", apart := false }
def SumsSealedSaid : Prop := sumsSealedRow.holds Try.pinned (OpenSpec.ofChange sumsSealedSpec)

/-- ITS FALSE NEIGHBOUR: 'it returns false'. Refute it at one input. -/
def sumsSealedWrong : ChangeSpec := { name := "sumsSealed", fn := fun _ => fun
  | [d1, d2] => { results := [.lit (.bool false)], args := [d1, d2] }
  | _ => none }
def SumsSealedWrongFalsely : Prop := sumsSealedRow.holds Try.pinned (OpenSpec.ofChange sumsSealedWrong)

/-- 'carousellaw03.SumsThree': WHATEVER THE INPUT: true; the input reads as it did. -/
def sumsThreeSpec : ChangeSpec := { name := "sumsThree", fn := fun _ => fun
  | [d1, d2, d3] => { results := [.lit (.bool true)], args := [d1, d2, d3] }
  | _ => none }
def sumsThreeRow : OpenClaim := { program := "ytbcijfhjbmlplaa", sum := "47327956ba5ddf36e136d18062283e1e79c426ebe5f1c96808b5520b7f80e3b6", func := "carousel/carousellaw03.SumsThree", spec := "sumsThree", apart := false }
def SumsThreeSaid : Prop := sumsThreeRow.holds Try.pinned (OpenSpec.ofChange sumsThreeSpec)

/-- ITS FALSE NEIGHBOUR: 'it returns false'. Refute it at one input. -/
def sumsThreeWrong : ChangeSpec := { name := "sumsThree", fn := fun _ => fun
  | [d1, d2, d3] => { results := [.lit (.bool false)], args := [d1, d2, d3] }
  | _ => none }
def SumsThreeWrongFalsely : Prop := sumsThreeRow.holds Try.pinned (OpenSpec.ofChange sumsThreeWrong)

/-- 'carousellaw03.SumsNear': WHATEVER THE INPUT: true; the input reads as it did. -/
def sumsNearSpec : ChangeSpec := { name := "sumsNear", fn := fun _ => fun
  | [d1, d2, d3] => { results := [.lit (.bool true)], args := [d1, d2, d3] }
  | _ => none }
def sumsNearRow : OpenClaim := { program := "ytbcijfhjbmlplaa", sum := "47327956ba5ddf36e136d18062283e1e79c426ebe5f1c96808b5520b7f80e3b6", func := "carousel/carousellaw03.SumsNear", spec := "sumsNear", apart := false }
def SumsNearSaid : Prop := sumsNearRow.holds Try.pinned (OpenSpec.ofChange sumsNearSpec)

/-- ITS FALSE NEIGHBOUR: 'it returns false'. Refute it at one input. -/
def sumsNearWrong : ChangeSpec := { name := "sumsNear", fn := fun _ => fun
  | [d1, d2, d3] => { results := [.lit (.bool false)], args := [d1, d2, d3] }
  | _ => none }
def SumsNearWrongFalsely : Prop := sumsNearRow.holds Try.pinned (OpenSpec.ofChange sumsNearWrong)

/-- 'carousellaw03.SumsPages': WHATEVER THE INPUT: true; the input reads as it did. -/
def sumsPagesSpec : ChangeSpec := { name := "sumsPages", fn := fun _ => fun
  | [d] => { results := [.lit (.bool true)], args := [d] }
  | _ => none }
def sumsPagesRow : OpenClaim := { program := "ytbcijfhjbmlplaa", sum := "47327956ba5ddf36e136d18062283e1e79c426ebe5f1c96808b5520b7f80e3b6", func := "carousel/carousellaw03.SumsPages", spec := "sumsPages", apart := false }
def SumsPagesSaid : Prop := sumsPagesRow.holds Try.pinned (OpenSpec.ofChange sumsPagesSpec)

/-- ITS FALSE NEIGHBOUR: 'it returns false'. Refute it at one input. -/
def sumsPagesWrong : ChangeSpec := { name := "sumsPages", fn := fun _ => fun
  | [d] => { results := [.lit (.bool false)], args := [d] }
  | _ => none }
def SumsPagesWrongFalsely : Prop := sumsPagesRow.holds Try.pinned (OpenSpec.ofChange sumsPagesWrong)

/-- 'carousellaw03.SumsZeros': WHATEVER THE INPUT: true; the input reads as it did. -/
def sumsZerosSpec : ChangeSpec := { name := "sumsZeros", fn := fun _ => fun
  | [d1, d2, d3] => { results := [.lit (.bool true)], args := [d1, d2, d3] }
  | _ => none }
def sumsZerosRow : OpenClaim := { program := "ytbcijfhjbmlplaa", sum := "47327956ba5ddf36e136d18062283e1e79c426ebe5f1c96808b5520b7f80e3b6", func := "carousel/carousellaw03.SumsZeros", spec := "sumsZeros", apart := false }
def SumsZerosSaid : Prop := sumsZerosRow.holds Try.pinned (OpenSpec.ofChange sumsZerosSpec)

/-- ITS FALSE NEIGHBOUR: 'it returns false'. Refute it at one input. -/
def sumsZerosWrong : ChangeSpec := { name := "sumsZeros", fn := fun _ => fun
  | [d1, d2, d3] => { results := [.lit (.bool false)], args := [d1, d2, d3] }
  | _ => none }
def SumsZerosWrongFalsely : Prop := sumsZerosRow.holds Try.pinned (OpenSpec.ofChange sumsZerosWrong)

/- THE SECOND FORM. 'bulk': how many values and letters a reading holds, each counted each time it is reached (what is shared counts as often as it is met; a slice's spare places count too). A statement '..UptoSaid' is the law's where the arguments, and the package variables that the reading takes, are together of bulk at most 1048576: NARROWER than '..Said'. Prove '..Said' where nothing that the law and all that it calls make is longer than what came in: it says more and counts as full. Else prove '..UptoSaid'. A law counts once. -/
mutual
def uptoBulk {H : Type} : DataW H → Nat
  | .lit (.string bytes) => bytes.length + 1
  | .lit _ => 1
  | .nil => 1
  | .ptr d => uptoBulk d + 1
  | .slice elems spare => uptoBulkAll elems + uptoBulkAll spare + 1
  | .agg parts => uptoBulkAll parts + 1
  | .iface _ d => uptoBulk d + 1
  | .map entries => uptoBulkEntries entries + 1
  | .held _ => 1
def uptoBulkAll {H : Type} : List (DataW H) → Nat
  | [] => 0
  | d :: r => uptoBulk d + uptoBulkAll r
def uptoBulkEntries {H : Type} : List (Lit × DataW H) → Nat
  | [] => 0
  | x :: r => uptoBulkEntry x + uptoBulkEntries r
def uptoBulkEntry {H : Type} : Lit × DataW H → Nat
  | (.string bytes, d) => bytes.length + uptoBulk d + 1
  | (_, d) => uptoBulk d + 1
 end
def uptoSmall : (H : Type) → List (DataW H) → Bool := fun _ ds => decide (uptoBulkAll ds ≤ 1048576)
def OpenSpec.upto (s : _root_.Go.ChangeSpec) : _root_.Go.OpenSpec := { _root_.Go.OpenSpec.ofChange s with cond := some uptoSmall }

/-- 'carousellaw03.SumsGoes', WHERE WHAT IT READS IS OF BULK AT MOST 1048576: true; the input reads as it did. -/
def sumsGoesUptoRow : OpenClaim := { program := "ytbcijfhjbmlplaa", sum := "47327956ba5ddf36e136d18062283e1e79c426ebe5f1c96808b5520b7f80e3b6", func := "carousel/carousellaw03.SumsGoes", spec := "sumsGoes", apart := false, narrowed := true }
def SumsGoesUptoSaid : Prop := sumsGoesUptoRow.holds Try.pinned (OpenSpec.upto sumsGoesSpec)

/-- 'carousellaw03.SumsApart', WHERE WHAT IT READS IS OF BULK AT MOST 1048576: true; the input reads as it did. -/
def sumsApartUptoRow : OpenClaim := { program := "ytbcijfhjbmlplaa", sum := "47327956ba5ddf36e136d18062283e1e79c426ebe5f1c96808b5520b7f80e3b6", func := "carousel/carousellaw03.SumsApart", spec := "sumsApart", apart := false, narrowed := true }
def SumsApartUptoSaid : Prop := sumsApartUptoRow.holds Try.pinned (OpenSpec.upto sumsApartSpec)

/-- 'carousellaw03.SumsSealed', WHERE WHAT IT READS IS OF BULK AT MOST 1048576: true; the input reads as it did. -/
def sumsSealedUptoRow : OpenClaim := { program := "ytbcijfhjbmlplaa", sum := "47327956ba5ddf36e136d18062283e1e79c426ebe5f1c96808b5520b7f80e3b6", func := "carousel/carousellaw03.SumsSealed", spec := "sumsSealed", apart := false, narrowed := true }
def SumsSealedUptoSaid : Prop := sumsSealedUptoRow.holds Try.pinned (OpenSpec.upto sumsSealedSpec)

/-- 'carousellaw03.SumsThree', WHERE WHAT IT READS IS OF BULK AT MOST 1048576: true; the input reads as it did. -/
def sumsThreeUptoRow : OpenClaim := { program := "ytbcijfhjbmlplaa", sum := "47327956ba5ddf36e136d18062283e1e79c426ebe5f1c96808b5520b7f80e3b6", func := "carousel/carousellaw03.SumsThree", spec := "sumsThree", apart := false, narrowed := true }
def SumsThreeUptoSaid : Prop := sumsThreeUptoRow.holds Try.pinned (OpenSpec.upto sumsThreeSpec)

/-- 'carousellaw03.SumsNear', WHERE WHAT IT READS IS OF BULK AT MOST 1048576: true; the input reads as it did. -/
def sumsNearUptoRow : OpenClaim := { program := "ytbcijfhjbmlplaa", sum := "47327956ba5ddf36e136d18062283e1e79c426ebe5f1c96808b5520b7f80e3b6", func := "carousel/carousellaw03.SumsNear", spec := "sumsNear", apart := false, narrowed := true }
def SumsNearUptoSaid : Prop := sumsNearUptoRow.holds Try.pinned (OpenSpec.upto sumsNearSpec)

/-- 'carousellaw03.SumsPages', WHERE WHAT IT READS IS OF BULK AT MOST 1048576: true; the input reads as it did. -/
def sumsPagesUptoRow : OpenClaim := { program := "ytbcijfhjbmlplaa", sum := "47327956ba5ddf36e136d18062283e1e79c426ebe5f1c96808b5520b7f80e3b6", func := "carousel/carousellaw03.SumsPages", spec := "sumsPages", apart := false, narrowed := true }
def SumsPagesUptoSaid : Prop := sumsPagesUptoRow.holds Try.pinned (OpenSpec.upto sumsPagesSpec)

/-- 'carousellaw03.SumsZeros', WHERE WHAT IT READS IS OF BULK AT MOST 1048576: true; the input reads as it did. -/
def sumsZerosUptoRow : OpenClaim := { program := "ytbcijfhjbmlplaa", sum := "47327956ba5ddf36e136d18062283e1e79c426ebe5f1c96808b5520b7f80e3b6", func := "carousel/carousellaw03.SumsZeros", spec := "sumsZeros", apart := false, narrowed := true }
def SumsZerosUptoSaid : Prop := sumsZerosUptoRow.holds Try.pinned (OpenSpec.upto sumsZerosSpec)

end Rows
end Go.Proofs.Ytbcijfhjbmlplaa
