/-
  No cell of these rows narrows 'for every input' (looked for: loops, veiled, ifaces, maps, wideKeys, modest, calm, conditions, laid).
  DERIVED. THE GIVEN ROWS OF THIS SEAT. 4 by the template 'for every input the law returns true; each argument reads behind the call as it read before'; 0 by the template 'total and deterministic' (their statements: YtpmojjeehmadpaaTotals.lean).
  GIVEN WITH THE SEED: the statements are not yours to turn. If you find one false, say at which input.
  Laid BY PROGRAM, IN A SANDBOX (cutbox-rows.mjs): the forced cells as the released guide's own fill.sh prints them over the translation 5b1e99966a40c76b… (all of the seat's roots in one cut). By AI agents, Wed Nov 11 2026. No macro, syntax, notation, axiom, sorry.
-/
import Derived.Test.YtpmojjeehmadpaaChecked
import GoSem.Claim
import GoSem.ClaimJoined
import GoSem.ClaimMapViews
import Derived.JoinedTies
import Derived.KernelRfl
namespace Go.Proofs.Ytpmojjeehmadpaa
/- THE CELL 'sum', in the pinned program and in every row, IS THE sha256 OF THE DUMP (.gsa) THAT YtpmojjeehmadpaaProg.lean LOADS. Nothing in Lean hashes anything: it is a label: what it is worth is what the hold of that sum in a sandbox is worth. -/
noncomputable def Try.pinned : Pinned := { name := "ytpmojjeehmadpaa", sum := "5b1e99966a40c76b87d34310191fe7e700827a5bac0e939aeae690cf2805b1bf", checked := Try.checked }
namespace Rows
def none {H : Type} : Left H := { results := [], args := [] }

/-- 'carousellaw28.TableNew': WHATEVER THE INPUT: true; the input reads as it did. -/
def tableNewSpec : ChangeSpec := { name := "tableNew", fn := fun _ => fun
  | [d1, d2, d3] => { results := [.lit (.bool true)], args := [d1, d2, d3] }
  | _ => none }
def tableNewRow : OpenClaim := { program := "ytpmojjeehmadpaa", sum := "5b1e99966a40c76b87d34310191fe7e700827a5bac0e939aeae690cf2805b1bf", func := "carousel/carousellaw28.TableNew", spec := "tableNew", unfollowed := true, recurses := true, apart := false }
def TableNewSaid : Prop := tableNewRow.holds Try.pinned (OpenSpec.ofChange tableNewSpec)

/-- ITS FALSE NEIGHBOUR: 'it returns false'. Refute it at one input. -/
def tableNewWrong : ChangeSpec := { name := "tableNew", fn := fun _ => fun
  | [d1, d2, d3] => { results := [.lit (.bool false)], args := [d1, d2, d3] }
  | _ => none }
def TableNewWrongFalsely : Prop := tableNewRow.holds Try.pinned (OpenSpec.ofChange tableNewWrong)

/-- 'carousellaw28.TableTurn': WHATEVER THE INPUT: true; the input reads as it did. -/
def tableTurnSpec : ChangeSpec := { name := "tableTurn", fn := fun _ => fun
  | [d1, d2] => { results := [.lit (.bool true)], args := [d1, d2] }
  | _ => none }
def tableTurnRow : OpenClaim := { program := "ytpmojjeehmadpaa", sum := "5b1e99966a40c76b87d34310191fe7e700827a5bac0e939aeae690cf2805b1bf", func := "carousel/carousellaw28.TableTurn", spec := "tableTurn", unfollowed := true, recurses := true, apart := false }
def TableTurnSaid : Prop := tableTurnRow.holds Try.pinned (OpenSpec.ofChange tableTurnSpec)

/-- ITS FALSE NEIGHBOUR: 'it returns false'. Refute it at one input. -/
def tableTurnWrong : ChangeSpec := { name := "tableTurn", fn := fun _ => fun
  | [d1, d2] => { results := [.lit (.bool false)], args := [d1, d2] }
  | _ => none }
def TableTurnWrongFalsely : Prop := tableTurnRow.holds Try.pinned (OpenSpec.ofChange tableTurnWrong)

/-- 'carousellaw28.TableNone': WHATEVER THE INPUT: true; the input reads as it did. -/
def tableNoneSpec : ChangeSpec := { name := "tableNone", fn := fun _ => fun
  | [d1, d2] => { results := [.lit (.bool true)], args := [d1, d2] }
  | _ => none }
def tableNoneRow : OpenClaim := { program := "ytpmojjeehmadpaa", sum := "5b1e99966a40c76b87d34310191fe7e700827a5bac0e939aeae690cf2805b1bf", func := "carousel/carousellaw28.TableNone", spec := "tableNone", unfollowed := true, recurses := true, apart := false }
def TableNoneSaid : Prop := tableNoneRow.holds Try.pinned (OpenSpec.ofChange tableNoneSpec)

/-- ITS FALSE NEIGHBOUR: 'it returns false'. Refute it at one input. -/
def tableNoneWrong : ChangeSpec := { name := "tableNone", fn := fun _ => fun
  | [d1, d2] => { results := [.lit (.bool false)], args := [d1, d2] }
  | _ => none }
def TableNoneWrongFalsely : Prop := tableNoneRow.holds Try.pinned (OpenSpec.ofChange tableNoneWrong)

/-- 'carousellaw28.TableEnds': WHATEVER THE INPUT: true; the input reads as it did. -/
def tableEndsSpec : ChangeSpec := { name := "tableEnds", fn := fun _ => fun
  | [d1, d2] => { results := [.lit (.bool true)], args := [d1, d2] }
  | _ => none }
def tableEndsRow : OpenClaim := { program := "ytpmojjeehmadpaa", sum := "5b1e99966a40c76b87d34310191fe7e700827a5bac0e939aeae690cf2805b1bf", func := "carousel/carousellaw28.TableEnds", spec := "tableEnds", unfollowed := true, recurses := true, apart := false }
def TableEndsSaid : Prop := tableEndsRow.holds Try.pinned (OpenSpec.ofChange tableEndsSpec)

/-- ITS FALSE NEIGHBOUR: 'it returns false'. Refute it at one input. -/
def tableEndsWrong : ChangeSpec := { name := "tableEnds", fn := fun _ => fun
  | [d1, d2] => { results := [.lit (.bool false)], args := [d1, d2] }
  | _ => none }
def TableEndsWrongFalsely : Prop := tableEndsRow.holds Try.pinned (OpenSpec.ofChange tableEndsWrong)

/- THE SECOND FORM. 'bulk': how many values and letters a reading holds, each counted each time it is reached (what is shared counts as often as it is met; a slice's spare places count too). A statement '..UptoSaid' is the law's where the arguments, and the package variables that the reading takes, are together of bulk at most 1048576: NARROWER than '..Said'. Prove '..Said' where nothing that the law and all that it calls make is longer than what came in: it says more and counts as full. Else prove '..UptoSaid'. A law counts once. -/
mutual
def uptoBulk {H : Type} : DataW H → Nat
  | .lit (.string bytes) => bytes.length + 1
  | .lit _ => 1
  | .nil => 1
  | .ptr d => uptoBulk d + 1
  | .slice elems spare => uptoBulkAll elems + uptoBulkAll spare + 1
  | .agg parts => uptoBulkAll parts + 1
  | .iface _ d => uptoBulk d + 1
  | .map entries => uptoBulkEntries entries + 1
  | .held _ => 1
def uptoBulkAll {H : Type} : List (DataW H) → Nat
  | [] => 0
  | d :: r => uptoBulk d + uptoBulkAll r
def uptoBulkEntries {H : Type} : List (Lit × DataW H) → Nat
  | [] => 0
  | x :: r => uptoBulkEntry x + uptoBulkEntries r
def uptoBulkEntry {H : Type} : Lit × DataW H → Nat
  | (.string bytes, d) => bytes.length + uptoBulk d + 1
  | (_, d) => uptoBulk d + 1
 end
def uptoSmall : (H : Type) → List (DataW H) → Bool := fun _ ds => decide (uptoBulkAll ds ≤ 1048576)
def OpenSpec.upto (s : _root_.Go.ChangeSpec) : _root_.Go.OpenSpec := { _root_.Go.OpenSpec.ofChange s with cond := some uptoSmall }

/-- 'carousellaw28.TableNew', WHERE WHAT IT READS IS OF BULK AT MOST 1048576: true; the input reads as it did. -/
def tableNewUptoRow : OpenClaim := { program := "ytpmojjeehmadpaa", sum := "5b1e99966a40c76b87d34310191fe7e700827a5bac0e939aeae690cf2805b1bf", func := "carousel/carousellaw28.TableNew", spec := "tableNew", unfollowed := true, recurses := true, apart := false, narrowed := true }
def TableNewUptoSaid : Prop := tableNewUptoRow.holds Try.pinned (OpenSpec.upto tableNewSpec)

/-- 'carousellaw28.TableTurn', WHERE WHAT IT READS IS OF BULK AT MOST 1048576: true; the input reads as it did. -/
def tableTurnUptoRow : OpenClaim := { program := "ytpmojjeehmadpaa", sum := "5b1e99966a40c76b87d34310191fe7e700827a5bac0e939aeae690cf2805b1bf", func := "carousel/carousellaw28.TableTurn", spec := "tableTurn", unfollowed := true, recurses := true, apart := false, narrowed := true }
def TableTurnUptoSaid : Prop := tableTurnUptoRow.holds Try.pinned (OpenSpec.upto tableTurnSpec)

/-- 'carousellaw28.TableNone', WHERE WHAT IT READS IS OF BULK AT MOST 1048576: true; the input reads as it did. -/
def tableNoneUptoRow : OpenClaim := { program := "ytpmojjeehmadpaa", sum := "5b1e99966a40c76b87d34310191fe7e700827a5bac0e939aeae690cf2805b1bf", func := "carousel/carousellaw28.TableNone", spec := "tableNone", unfollowed := true, recurses := true, apart := false, narrowed := true }
def TableNoneUptoSaid : Prop := tableNoneUptoRow.holds Try.pinned (OpenSpec.upto tableNoneSpec)

/-- 'carousellaw28.TableEnds', WHERE WHAT IT READS IS OF BULK AT MOST 1048576: true; the input reads as it did. -/
def tableEndsUptoRow : OpenClaim := { program := "ytpmojjeehmadpaa", sum := "5b1e99966a40c76b87d34310191fe7e700827a5bac0e939aeae690cf2805b1bf", func := "carousel/carousellaw28.TableEnds", spec := "tableEnds", unfollowed := true, recurses := true, apart := false, narrowed := true }
def TableEndsUptoSaid : Prop := tableEndsUptoRow.holds Try.pinned (OpenSpec.upto tableEndsSpec)

end Rows
end Go.Proofs.Ytpmojjeehmadpaa
