/-
  No cell of these rows narrows 'for every input' (looked for: loops, veiled, ifaces, maps, wideKeys, modest, calm, conditions, laid).
  DERIVED. THE GIVEN ROWS OF THIS SEAT. 4 by the template 'for every input the law returns true; each argument reads behind the call as it read before'; 0 by the template 'total and deterministic' (their statements: YtgfncopifhnkcaaTotals.lean).
  GIVEN WITH THE SEED: the statements are not yours to turn. If you find one false, say at which input.
  Laid BY PROGRAM, IN A SANDBOX (cutbox-rows.mjs): the forced cells as the released guide's own fill.sh prints them over the translation e9951caf7f29e61c… (all of the seat's roots in one cut). By AI agents, Wed Nov 11 2026. No macro, syntax, notation, axiom, sorry.
-/
import Derived.Test.YtgfncopifhnkcaaChecked
import GoSem.Claim
import GoSem.ClaimJoined
import GoSem.ClaimMapViews
import Derived.JoinedTies
import Derived.KernelRfl
namespace Go.Proofs.Ytgfncopifhnkcaa
/- THE CELL 'sum', in the pinned program and in every row, IS THE sha256 OF THE DUMP (.gsa) THAT YtgfncopifhnkcaaProg.lean LOADS. Nothing in Lean hashes anything: it is a label: what it is worth is what the hold of that sum in a sandbox is worth. -/
noncomputable def Try.pinned : Pinned := { name := "ytgfncopifhnkcaa", sum := "e9951caf7f29e61c13f7b29d5ba1d257efb27790c244799f33af732da7492e97", checked := Try.checked }
namespace Rows
def none {H : Type} : Left H := { results := [], args := [] }

/-- 'carousellaw22.RoundsPlay': WHATEVER THE INPUT: true; the input reads as it did. -/
def roundsPlaySpec : ChangeSpec := { name := "roundsPlay", fn := fun _ => fun
  | [d1, d2] => { results := [.lit (.bool true)], args := [d1, d2] }
  | _ => none }
def roundsPlayRow : OpenClaim := { program := "ytgfncopifhnkcaa", sum := "e9951caf7f29e61c13f7b29d5ba1d257efb27790c244799f33af732da7492e97", func := "carousel/carousellaw22.RoundsPlay", spec := "roundsPlay", apart := false }
def RoundsPlaySaid : Prop := roundsPlayRow.holds Try.pinned (OpenSpec.ofChange roundsPlaySpec)

/-- ITS FALSE NEIGHBOUR: 'it returns false'. Refute it at one input. -/
def roundsPlayWrong : ChangeSpec := { name := "roundsPlay", fn := fun _ => fun
  | [d1, d2] => { results := [.lit (.bool false)], args := [d1, d2] }
  | _ => none }
def RoundsPlayWrongFalsely : Prop := roundsPlayRow.holds Try.pinned (OpenSpec.ofChange roundsPlayWrong)

/-- 'carousellaw22.RoundsNone': WHATEVER THE INPUT: true; the input reads as it did. -/
def roundsNoneSpec : ChangeSpec := { name := "roundsNone", fn := fun _ => fun
  | [d] => { results := [.lit (.bool true)], args := [d] }
  | _ => none }
def roundsNoneRow : OpenClaim := { program := "ytgfncopifhnkcaa", sum := "e9951caf7f29e61c13f7b29d5ba1d257efb27790c244799f33af732da7492e97", func := "carousel/carousellaw22.RoundsNone", spec := "roundsNone", apart := false }
def RoundsNoneSaid : Prop := roundsNoneRow.holds Try.pinned (OpenSpec.ofChange roundsNoneSpec)

/-- ITS FALSE NEIGHBOUR: 'it returns false'. Refute it at one input. -/
def roundsNoneWrong : ChangeSpec := { name := "roundsNone", fn := fun _ => fun
  | [d] => { results := [.lit (.bool false)], args := [d] }
  | _ => none }
def RoundsNoneWrongFalsely : Prop := roundsNoneRow.holds Try.pinned (OpenSpec.ofChange roundsNoneWrong)

/-- 'carousellaw22.RoundsWhole': WHATEVER THE INPUT: true; the input reads as it did. -/
def roundsWholeSpec : ChangeSpec := { name := "roundsWhole", fn := fun _ => fun
  | [d1, d2] => { results := [.lit (.bool true)], args := [d1, d2] }
  | _ => none }
def roundsWholeRow : OpenClaim := { program := "ytgfncopifhnkcaa", sum := "e9951caf7f29e61c13f7b29d5ba1d257efb27790c244799f33af732da7492e97", func := "carousel/carousellaw22.RoundsWhole", spec := "roundsWhole", apart := false }
def RoundsWholeSaid : Prop := roundsWholeRow.holds Try.pinned (OpenSpec.ofChange roundsWholeSpec)

/-- ITS FALSE NEIGHBOUR: 'it returns false'. Refute it at one input. -/
def roundsWholeWrong : ChangeSpec := { name := "roundsWhole", fn := fun _ => fun
  | [d1, d2] => { results := [.lit (.bool false)], args := [d1, d2] }
  | _ => none }
def RoundsWholeWrongFalsely : Prop := roundsWholeRow.holds Try.pinned (OpenSpec.ofChange roundsWholeWrong)

/-- 'carousellaw22.RoundsRing': WHATEVER THE INPUT: true; the input reads as it did. -/
def roundsRingSpec : ChangeSpec := { name := "roundsRing", fn := fun _ => fun
  | [d1, d2, d3] => { results := [.lit (.bool true)], args := [d1, d2, d3] }
  | _ => none }
def roundsRingRow : OpenClaim := { program := "ytgfncopifhnkcaa", sum := "e9951caf7f29e61c13f7b29d5ba1d257efb27790c244799f33af732da7492e97", func := "carousel/carousellaw22.RoundsRing", spec := "roundsRing", apart := false }
def RoundsRingSaid : Prop := roundsRingRow.holds Try.pinned (OpenSpec.ofChange roundsRingSpec)

/-- ITS FALSE NEIGHBOUR: 'it returns false'. Refute it at one input. -/
def roundsRingWrong : ChangeSpec := { name := "roundsRing", fn := fun _ => fun
  | [d1, d2, d3] => { results := [.lit (.bool false)], args := [d1, d2, d3] }
  | _ => none }
def RoundsRingWrongFalsely : Prop := roundsRingRow.holds Try.pinned (OpenSpec.ofChange roundsRingWrong)

/- THE SECOND FORM. 'bulk': how many values and letters a reading holds, each counted each time it is reached (what is shared counts as often as it is met; a slice's spare places count too). A statement '..UptoSaid' is the law's where the arguments, and the package variables that the reading takes, are together of bulk at most 1048576: NARROWER than '..Said'. Prove '..Said' where nothing that the law and all that it calls make is longer than what came in: it says more and counts as full. Else prove '..UptoSaid'. A law counts once. -/
mutual
def uptoBulk {H : Type} : DataW H → Nat
  | .lit (.string bytes) => bytes.length + 1
  | .lit _ => 1
  | .nil => 1
  | .ptr d => uptoBulk d + 1
  | .slice elems spare => uptoBulkAll elems + uptoBulkAll spare + 1
  | .agg parts => uptoBulkAll parts + 1
  | .iface _ d => uptoBulk d + 1
  | .map entries => uptoBulkEntries entries + 1
  | .held _ => 1
def uptoBulkAll {H : Type} : List (DataW H) → Nat
  | [] => 0
  | d :: r => uptoBulk d + uptoBulkAll r
def uptoBulkEntries {H : Type} : List (Lit × DataW H) → Nat
  | [] => 0
  | x :: r => uptoBulkEntry x + uptoBulkEntries r
def uptoBulkEntry {H : Type} : Lit × DataW H → Nat
  | (.string bytes, d) => bytes.length + uptoBulk d + 1
  | (_, d) => uptoBulk d + 1
 end
def uptoSmall : (H : Type) → List (DataW H) → Bool := fun _ ds => decide (uptoBulkAll ds ≤ 1048576)
def OpenSpec.upto (s : _root_.Go.ChangeSpec) : _root_.Go.OpenSpec := { _root_.Go.OpenSpec.ofChange s with cond := some uptoSmall }

/-- 'carousellaw22.RoundsPlay', WHERE WHAT IT READS IS OF BULK AT MOST 1048576: true; the input reads as it did. -/
def roundsPlayUptoRow : OpenClaim := { program := "ytgfncopifhnkcaa", sum := "e9951caf7f29e61c13f7b29d5ba1d257efb27790c244799f33af732da7492e97", func := "carousel/carousellaw22.RoundsPlay", spec := "roundsPlay", apart := false, narrowed := true }
def RoundsPlayUptoSaid : Prop := roundsPlayUptoRow.holds Try.pinned (OpenSpec.upto roundsPlaySpec)

/-- 'carousellaw22.RoundsNone', WHERE WHAT IT READS IS OF BULK AT MOST 1048576: true; the input reads as it did. -/
def roundsNoneUptoRow : OpenClaim := { program := "ytgfncopifhnkcaa", sum := "e9951caf7f29e61c13f7b29d5ba1d257efb27790c244799f33af732da7492e97", func := "carousel/carousellaw22.RoundsNone", spec := "roundsNone", apart := false, narrowed := true }
def RoundsNoneUptoSaid : Prop := roundsNoneUptoRow.holds Try.pinned (OpenSpec.upto roundsNoneSpec)

/-- 'carousellaw22.RoundsWhole', WHERE WHAT IT READS IS OF BULK AT MOST 1048576: true; the input reads as it did. -/
def roundsWholeUptoRow : OpenClaim := { program := "ytgfncopifhnkcaa", sum := "e9951caf7f29e61c13f7b29d5ba1d257efb27790c244799f33af732da7492e97", func := "carousel/carousellaw22.RoundsWhole", spec := "roundsWhole", apart := false, narrowed := true }
def RoundsWholeUptoSaid : Prop := roundsWholeUptoRow.holds Try.pinned (OpenSpec.upto roundsWholeSpec)

/-- 'carousellaw22.RoundsRing', WHERE WHAT IT READS IS OF BULK AT MOST 1048576: true; the input reads as it did. -/
def roundsRingUptoRow : OpenClaim := { program := "ytgfncopifhnkcaa", sum := "e9951caf7f29e61c13f7b29d5ba1d257efb27790c244799f33af732da7492e97", func := "carousel/carousellaw22.RoundsRing", spec := "roundsRing", apart := false, narrowed := true }
def RoundsRingUptoSaid : Prop := roundsRingUptoRow.holds Try.pinned (OpenSpec.upto roundsRingSpec)

end Rows
end Go.Proofs.Ytgfncopifhnkcaa
