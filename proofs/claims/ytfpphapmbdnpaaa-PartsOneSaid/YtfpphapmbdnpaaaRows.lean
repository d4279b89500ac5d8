/-
  No cell of these rows narrows 'for every input' (looked for: loops, veiled, ifaces, maps, wideKeys, modest, calm, conditions, laid).
  DERIVED. THE GIVEN ROWS OF THIS SEAT. 5 by the template 'for every input the law returns true; each argument reads behind the call as it read before'; 0 by the template 'total and deterministic' (their statements: YtfpphapmbdnpaaaTotals.lean).
  GIVEN WITH THE SEED: the statements are not yours to turn. If you find one false, say at which input.
  Laid BY PROGRAM, IN A SANDBOX (cutbox-rows.mjs): the forced cells as the released guide's own fill.sh prints them over the translation 3f7dece1e83ff5ae… (all of the seat's roots in one cut). By AI agents, Wed Nov 11 2026. No macro, syntax, notation, axiom, sorry.
-/
import Derived.Test.YtfpphapmbdnpaaaChecked
import GoSem.Claim
import GoSem.ClaimJoined
import GoSem.ClaimMapViews
import Derived.JoinedTies
import Derived.KernelRfl
namespace Go.Proofs.Ytfpphapmbdnpaaa
/- THE CELL 'sum', in the pinned program and in every row, IS THE sha256 OF THE DUMP (.gsa) THAT YtfpphapmbdnpaaaProg.lean LOADS. Nothing in Lean hashes anything: it is a label: what it is worth is what the hold of that sum in a sandbox is worth. -/
noncomputable def Try.pinned : Pinned := { name := "ytfpphapmbdnpaaa", sum := "3f7dece1e83ff5ae60533d54184ac09976380f3d062badf4623d9ae862a33263", checked := Try.checked }
namespace Rows
def none {H : Type} : Left H := { results := [], args := [] }

/-- 'carousellaw09.PartsCut': WHATEVER THE INPUT: true; the input reads as it did. -/
def partsCutSpec : ChangeSpec := { name := "partsCut", fn := fun _ => fun
  | [d1, d2] => { results := [.lit (.bool true)], args := [d1, d2] }
  | _ => none }
def partsCutRow : OpenClaim := { program := "ytfpphapmbdnpaaa", sum := "3f7dece1e83ff5ae60533d54184ac09976380f3d062badf4623d9ae862a33263", func := "carousel/carousellaw09.PartsCut", spec := "partsCut", unfollowed := true, recurses := true, apart := false }
def PartsCutSaid : Prop := partsCutRow.holds Try.pinned (OpenSpec.ofChange partsCutSpec)

/-- ITS FALSE NEIGHBOUR: 'it returns false'. Refute it at one input. -/
def partsCutWrong : ChangeSpec := { name := "partsCut", fn := fun _ => fun
  | [d1, d2] => { results := [.lit (.bool false)], args := [d1, d2] }
  | _ => none }
def PartsCutWrongFalsely : Prop := partsCutRow.holds Try.pinned (OpenSpec.ofChange partsCutWrong)

/-- 'carousellaw09.PartsAsk': WHATEVER THE INPUT: true; the input reads as it did. -/
def partsAskSpec : ChangeSpec := { name := "partsAsk", fn := fun _ => fun
  | [d1, d2, d3] => { results := [.lit (.bool true)], args := [d1, d2, d3] }
  | _ => none }
def partsAskRow : OpenClaim := { program := "ytfpphapmbdnpaaa", sum := "3f7dece1e83ff5ae60533d54184ac09976380f3d062badf4623d9ae862a33263", func := "carousel/carousellaw09.PartsAsk", spec := "partsAsk", unfollowed := true, recurses := true, apart := false }
def PartsAskSaid : Prop := partsAskRow.holds Try.pinned (OpenSpec.ofChange partsAskSpec)

/-- ITS FALSE NEIGHBOUR: 'it returns false'. Refute it at one input. -/
def partsAskWrong : ChangeSpec := { name := "partsAsk", fn := fun _ => fun
  | [d1, d2, d3] => { results := [.lit (.bool false)], args := [d1, d2, d3] }
  | _ => none }
def PartsAskWrongFalsely : Prop := partsAskRow.holds Try.pinned (OpenSpec.ofChange partsAskWrong)

/-- 'carousellaw09.PartsAlike': WHATEVER THE INPUT: true; the input reads as it did. -/
def partsAlikeSpec : ChangeSpec := { name := "partsAlike", fn := fun _ => fun
  | [d1, d2] => { results := [.lit (.bool true)], args := [d1, d2] }
  | _ => none }
def partsAlikeRow : OpenClaim := { program := "ytfpphapmbdnpaaa", sum := "3f7dece1e83ff5ae60533d54184ac09976380f3d062badf4623d9ae862a33263", func := "carousel/carousellaw09.PartsAlike", spec := "partsAlike", unfollowed := true, recurses := true, apart := false }
def PartsAlikeSaid : Prop := partsAlikeRow.holds Try.pinned (OpenSpec.ofChange partsAlikeSpec)

/-- ITS FALSE NEIGHBOUR: 'it returns false'. Refute it at one input. -/
def partsAlikeWrong : ChangeSpec := { name := "partsAlike", fn := fun _ => fun
  | [d1, d2] => { results := [.lit (.bool false)], args := [d1, d2] }
  | _ => none }
def PartsAlikeWrongFalsely : Prop := partsAlikeRow.holds Try.pinned (OpenSpec.ofChange partsAlikeWrong)

/-- 'carousellaw09.PartsOne': WHATEVER THE INPUT: true; the input reads as it did. -/
def partsOneSpec : ChangeSpec := { name := "partsOne", fn := fun _ => fun
  | [d1, d2] => { results := [.lit (.bool true)], args := [d1, d2] }
  | _ => none }
def partsOneRow : OpenClaim := { program := "ytfpphapmbdnpaaa", sum := "3f7dece1e83ff5ae60533d54184ac09976380f3d062badf4623d9ae862a33263", func := "carousel/carousellaw09.PartsOne", spec := "partsOne", unfollowed := true, recurses := true, apart := false }
def PartsOneSaid : Prop := partsOneRow.holds Try.pinned (OpenSpec.ofChange partsOneSpec)

/-- ITS FALSE NEIGHBOUR: 'it returns false'. Refute it at one input. -/
def partsOneWrong : ChangeSpec := { name := "partsOne", fn := fun _ => fun
  | [d1, d2] => { results := [.lit (.bool false)], args := [d1, d2] }
  | _ => none }
def PartsOneWrongFalsely : Prop := partsOneRow.holds Try.pinned (OpenSpec.ofChange partsOneWrong)

/-- 'carousellaw09.PartsSpoilt': WHATEVER THE INPUT: true; the input reads as it did. -/
def partsSpoiltSpec : ChangeSpec := { name := "partsSpoilt", fn := fun _ => fun
  | [d1, d2, d3] => { results := [.lit (.bool true)], args := [d1, d2, d3] }
  | _ => none }
def partsSpoiltRow : OpenClaim := { program := "ytfpphapmbdnpaaa", sum := "3f7dece1e83ff5ae60533d54184ac09976380f3d062badf4623d9ae862a33263", func := "carousel/carousellaw09.PartsSpoilt", spec := "partsSpoilt", unfollowed := true, recurses := true, apart := false }
def PartsSpoiltSaid : Prop := partsSpoiltRow.holds Try.pinned (OpenSpec.ofChange partsSpoiltSpec)

/-- ITS FALSE NEIGHBOUR: 'it returns false'. Refute it at one input. -/
def partsSpoiltWrong : ChangeSpec := { name := "partsSpoilt", fn := fun _ => fun
  | [d1, d2, d3] => { results := [.lit (.bool false)], args := [d1, d2, d3] }
  | _ => none }
def PartsSpoiltWrongFalsely : Prop := partsSpoiltRow.holds Try.pinned (OpenSpec.ofChange partsSpoiltWrong)

/- THE SECOND FORM. 'bulk': how many values and letters a reading holds, each counted each time it is reached (what is shared counts as often as it is met; a slice's spare places count too). A statement '..UptoSaid' is the law's where the arguments, and the package variables that the reading takes, are together of bulk at most 1048576: NARROWER than '..Said'. Prove '..Said' where nothing that the law and all that it calls make is longer than what came in: it says more and counts as full. Else prove '..UptoSaid'. A law counts once. -/
mutual
def uptoBulk {H : Type} : DataW H → Nat
  | .lit (.string bytes) => bytes.length + 1
  | .lit _ => 1
  | .nil => 1
  | .ptr d => uptoBulk d + 1
  | .slice elems spare => uptoBulkAll elems + uptoBulkAll spare + 1
  | .agg parts => uptoBulkAll parts + 1
  | .iface _ d => uptoBulk d + 1
  | .map entries => uptoBulkEntries entries + 1
  | .held _ => 1
def uptoBulkAll {H : Type} : List (DataW H) → Nat
  | [] => 0
  | d :: r => uptoBulk d + uptoBulkAll r
def uptoBulkEntries {H : Type} : List (Lit × DataW H) → Nat
  | [] => 0
  | x :: r => uptoBulkEntry x + uptoBulkEntries r
def uptoBulkEntry {H : Type} : Lit × DataW H → Nat
  | (.string bytes, d) => bytes.length + uptoBulk d + 1
  | (_, d) => uptoBulk d + 1
 end
def uptoSmall : (H : Type) → List (DataW H) → Bool := fun _ ds => decide (uptoBulkAll ds ≤ 1048576)
def OpenSpec.upto (s : _root_.Go.ChangeSpec) : _root_.Go.OpenSpec := { _root_.Go.OpenSpec.ofChange s with cond := some uptoSmall }

/-- 'carousellaw09.PartsCut', WHERE WHAT IT READS IS OF BULK AT MOST 1048576: true; the input reads as it did. -/
def partsCutUptoRow : OpenClaim := { program := "ytfpphapmbdnpaaa", sum := "3f7dece1e83ff5ae60533d54184ac09976380f3d062badf4623d9ae862a33263", func := "carousel/carousellaw09.PartsCut", spec := "partsCut", unfollowed := true, recurses := true, apart := false, narrowed := true }
def PartsCutUptoSaid : Prop := partsCutUptoRow.holds Try.pinned (OpenSpec.upto partsCutSpec)

/-- 'carousellaw09.PartsAsk', WHERE WHAT IT READS IS OF BULK AT MOST 1048576: true; the input reads as it did. -/
def partsAskUptoRow : OpenClaim := { program := "ytfpphapmbdnpaaa", sum := "3f7dece1e83ff5ae60533d54184ac09976380f3d062badf4623d9ae862a33263", func := "carousel/carousellaw09.PartsAsk", spec := "partsAsk", unfollowed := true, recurses := true, apart := false, narrowed := true }
def PartsAskUptoSaid : Prop := partsAskUptoRow.holds Try.pinned (OpenSpec.upto partsAskSpec)

/-- 'carousellaw09.PartsAlike', WHERE WHAT IT READS IS OF BULK AT MOST 1048576: true; the input reads as it did. -/
def partsAlikeUptoRow : OpenClaim := { program := "ytfpphapmbdnpaaa", sum := "3f7dece1e83ff5ae60533d54184ac09976380f3d062badf4623d9ae862a33263", func := "carousel/carousellaw09.PartsAlike", spec := "partsAlike", unfollowed := true, recurses := true, apart := false, narrowed := true }
def PartsAlikeUptoSaid : Prop := partsAlikeUptoRow.holds Try.pinned (OpenSpec.upto partsAlikeSpec)

/-- 'carousellaw09.PartsOne', WHERE WHAT IT READS IS OF BULK AT MOST 1048576: true; the input reads as it did. -/
def partsOneUptoRow : OpenClaim := { program := "ytfpphapmbdnpaaa", sum := "3f7dece1e83ff5ae60533d54184ac09976380f3d062badf4623d9ae862a33263", func := "carousel/carousellaw09.PartsOne", spec := "partsOne", unfollowed := true, recurses := true, apart := false, narrowed := true }
def PartsOneUptoSaid : Prop := partsOneUptoRow.holds Try.pinned (OpenSpec.upto partsOneSpec)

/-- 'carousellaw09.PartsSpoilt', WHERE WHAT IT READS IS OF BULK AT MOST 1048576: true; the input reads as it did. -/
def partsSpoiltUptoRow : OpenClaim := { program := "ytfpphapmbdnpaaa", sum := "3f7dece1e83ff5ae60533d54184ac09976380f3d062badf4623d9ae862a33263", func := "carousel/carousellaw09.PartsSpoilt", spec := "partsSpoilt", unfollowed := true, recurses := true, apart := false, narrowed := true }
def PartsSpoiltUptoSaid : Prop := partsSpoiltUptoRow.holds Try.pinned (OpenSpec.upto partsSpoiltSpec)

end Rows
end Go.Proofs.Ytfpphapmbdnpaaa
