/-
  No cell of these rows narrows 'for every input' (looked for: loops, veiled, ifaces, maps, wideKeys, modest, calm, conditions, laid).
  DERIVED. THE GIVEN ROWS OF THIS SEAT. 5 by the template 'for every input the law returns true; each argument reads behind the call as it read before'; 0 by the template 'total and deterministic' (their statements: YtiegjildepfciaaTotals.lean).
  GIVEN WITH THE SEED: the statements are not yours to turn. If you find one false, say at which input.
  Laid BY PROGRAM, IN A SANDBOX (cutbox-rows.mjs): the forced cells as the released guide's own fill.sh prints them over the translation fb58262a96f75bf0… (all of the seat's roots in one cut). By AI agents, Wed Nov 11 2026. No macro, syntax, notation, axiom, sorry.
-/
import Derived.Test.YtiegjildepfciaaChecked
import GoSem.Claim
import GoSem.ClaimJoined
import GoSem.ClaimMapViews
import Derived.JoinedTies
import Derived.KernelRfl
namespace Go.Proofs.Ytiegjildepfciaa
/- THE CELL 'sum', in the pinned program and in every row, IS THE sha256 OF THE DUMP (.gsa) THAT YtiegjildepfciaaProg.lean LOADS. Nothing in Lean hashes anything: it is a label: what it is worth is what the hold of that sum in a sandbox is worth. -/
noncomputable def Try.pinned : Pinned := { name := "ytiegjildepfciaa", sum := "fb58262a96f75bf0720c8b8d5bbd025ffbac044d58afefbd4009eb0508557927", checked := Try.checked }
namespace Rows
def none {H : Type} : Left H := { results := [], args := [] }

/-- 'carousellaw04.PackedPack': WHATEVER THE INPUT: true; the input reads as it did. -/
def packedPackSpec : ChangeSpec := { name := "packedPack", fn := fun _ => fun
  | [d1, d2] => { results := [.lit (.bool true)], args := [d1, d2] }
  | _ => none }
def packedPackRow : OpenClaim := { program := "ytiegjildepfciaa", sum := "fb58262a96f75bf0720c8b8d5bbd025ffbac044d58afefbd4009eb0508557927", func := "carousel/carousellaw04.PackedPack", spec := "packedPack", unfollowed := true, recurses := true, apart := false }
def PackedPackSaid : Prop := packedPackRow.holds Try.pinned (OpenSpec.ofChange packedPackSpec)

/-- ITS FALSE NEIGHBOUR: 'it returns false'. Refute it at one input. -/
def packedPackWrong : ChangeSpec := { name := "packedPack", fn := fun _ => fun
  | [d1, d2] => { results := [.lit (.bool false)], args := [d1, d2] }
  | _ => none }
def PackedPackWrongFalsely : Prop := packedPackRow.holds Try.pinned (OpenSpec.ofChange packedPackWrong)

/-- 'carousellaw04.PackedUnpack': WHATEVER THE INPUT: true; the input reads as it did. -/
def packedUnpackSpec : ChangeSpec := { name := "packedUnpack", fn := fun _ => fun
  | [d1, d2, d3] => { results := [.lit (.bool true)], args := [d1, d2, d3] }
  | _ => none }
def packedUnpackRow : OpenClaim := { program := "ytiegjildepfciaa", sum := "fb58262a96f75bf0720c8b8d5bbd025ffbac044d58afefbd4009eb0508557927", func := "carousel/carousellaw04.PackedUnpack", spec := "packedUnpack", unfollowed := true, recurses := true, apart := false }
def PackedUnpackSaid : Prop := packedUnpackRow.holds Try.pinned (OpenSpec.ofChange packedUnpackSpec)

/-- ITS FALSE NEIGHBOUR: 'it returns false'. Refute it at one input. -/
def packedUnpackWrong : ChangeSpec := { name := "packedUnpack", fn := fun _ => fun
  | [d1, d2, d3] => { results := [.lit (.bool false)], args := [d1, d2, d3] }
  | _ => none }
def PackedUnpackWrongFalsely : Prop := packedUnpackRow.holds Try.pinned (OpenSpec.ofChange packedUnpackWrong)

/-- 'carousellaw04.PackedBack': WHATEVER THE INPUT: true; the input reads as it did. -/
def packedBackSpec : ChangeSpec := { name := "packedBack", fn := fun _ => fun
  | [d1, d2, d3] => { results := [.lit (.bool true)], args := [d1, d2, d3] }
  | _ => none }
def packedBackRow : OpenClaim := { program := "ytiegjildepfciaa", sum := "fb58262a96f75bf0720c8b8d5bbd025ffbac044d58afefbd4009eb0508557927", func := "carousel/carousellaw04.PackedBack", spec := "packedBack", unfollowed := true, recurses := true, apart := false }
def PackedBackSaid : Prop := packedBackRow.holds Try.pinned (OpenSpec.ofChange packedBackSpec)

/-- ITS FALSE NEIGHBOUR: 'it returns false'. Refute it at one input. -/
def packedBackWrong : ChangeSpec := { name := "packedBack", fn := fun _ => fun
  | [d1, d2, d3] => { results := [.lit (.bool false)], args := [d1, d2, d3] }
  | _ => none }
def PackedBackWrongFalsely : Prop := packedBackRow.holds Try.pinned (OpenSpec.ofChange packedBackWrong)

/-- 'carousellaw04.PackedWay': WHATEVER THE INPUT: true; the input reads as it did. -/
def packedWaySpec : ChangeSpec := { name := "packedWay", fn := fun _ => fun
  | [d1, d2, d3] => { results := [.lit (.bool true)], args := [d1, d2, d3] }
  | _ => none }
def packedWayRow : OpenClaim := { program := "ytiegjildepfciaa", sum := "fb58262a96f75bf0720c8b8d5bbd025ffbac044d58afefbd4009eb0508557927", func := "carousel/carousellaw04.PackedWay", spec := "packedWay", unfollowed := true, recurses := true, apart := false }
def PackedWaySaid : Prop := packedWayRow.holds Try.pinned (OpenSpec.ofChange packedWaySpec)

/-- ITS FALSE NEIGHBOUR: 'it returns false'. Refute it at one input. -/
def packedWayWrong : ChangeSpec := { name := "packedWay", fn := fun _ => fun
  | [d1, d2, d3] => { results := [.lit (.bool false)], args := [d1, d2, d3] }
  | _ => none }
def PackedWayWrongFalsely : Prop := packedWayRow.holds Try.pinned (OpenSpec.ofChange packedWayWrong)

/-- 'carousellaw04.PackedLength': WHATEVER THE INPUT: true; the input reads as it did. -/
def packedLengthSpec : ChangeSpec := { name := "packedLength", fn := fun _ => fun
  | [d1, d2, d3] => { results := [.lit (.bool true)], args := [d1, d2, d3] }
  | _ => none }
def packedLengthRow : OpenClaim := { program := "ytiegjildepfciaa", sum := "fb58262a96f75bf0720c8b8d5bbd025ffbac044d58afefbd4009eb0508557927", func := "carousel/carousellaw04.PackedLength", spec := "packedLength", unfollowed := true, recurses := true, apart := false }
def PackedLengthSaid : Prop := packedLengthRow.holds Try.pinned (OpenSpec.ofChange packedLengthSpec)

/-- ITS FALSE NEIGHBOUR: 'it returns false'. Refute it at one input. -/
def packedLengthWrong : ChangeSpec := { name := "packedLength", fn := fun _ => fun
  | [d1, d2, d3] => { results := [.lit (.bool false)], args := [d1, d2, d3] }
  | _ => none }
def PackedLengthWrongFalsely : Prop := packedLengthRow.holds Try.pinned (OpenSpec.ofChange packedLengthWrong)

/- THE SECOND FORM. 'bulk': how many values and letters a reading holds, each counted each time it is reached (what is shared counts as often as it is met; a slice's spare places count too). A statement '..UptoSaid' is the law's where the arguments, and the package variables that the reading takes, are together of bulk at most 1048576: NARROWER than '..Said'. Prove '..Said' where nothing that the law and all that it calls make is longer than what came in: it says more and counts as full. Else prove '..UptoSaid'. A law counts once. -/
mutual
def uptoBulk {H : Type} : DataW H → Nat
  | .lit (.string bytes) => bytes.length + 1
  | .lit _ => 1
  | .nil => 1
  | .ptr d => uptoBulk d + 1
  | .slice elems spare => uptoBulkAll elems + uptoBulkAll spare + 1
  | .agg parts => uptoBulkAll parts + 1
  | .iface _ d => uptoBulk d + 1
  | .map entries => uptoBulkEntries entries + 1
  | .held _ => 1
def uptoBulkAll {H : Type} : List (DataW H) → Nat
  | [] => 0
  | d :: r => uptoBulk d + uptoBulkAll r
def uptoBulkEntries {H : Type} : List (Lit × DataW H) → Nat
  | [] => 0
  | x :: r => uptoBulkEntry x + uptoBulkEntries r
def uptoBulkEntry {H : Type} : Lit × DataW H → Nat
  | (.string bytes, d) => bytes.length + uptoBulk d + 1
  | (_, d) => uptoBulk d + 1
 end
def uptoSmall : (H : Type) → List (DataW H) → Bool := fun _ ds => decide (uptoBulkAll ds ≤ 1048576)
def OpenSpec.upto (s : _root_.Go.ChangeSpec) : _root_.Go.OpenSpec := { _root_.Go.OpenSpec.ofChange s with cond := some uptoSmall }

/-- 'carousellaw04.PackedPack', WHERE WHAT IT READS IS OF BULK AT MOST 1048576: true; the input reads as it did. -/
def packedPackUptoRow : OpenClaim := { program := "ytiegjildepfciaa", sum := "fb58262a96f75bf0720c8b8d5bbd025ffbac044d58afefbd4009eb0508557927", func := "carousel/carousellaw04.PackedPack", spec := "packedPack", unfollowed := true, recurses := true, apart := false, narrowed := true }
def PackedPackUptoSaid : Prop := packedPackUptoRow.holds Try.pinned (OpenSpec.upto packedPackSpec)

/-- 'carousellaw04.PackedUnpack', WHERE WHAT IT READS IS OF BULK AT MOST 1048576: true; the input reads as it did. -/
def packedUnpackUptoRow : OpenClaim := { program := "ytiegjildepfciaa", sum := "fb58262a96f75bf0720c8b8d5bbd025ffbac044d58afefbd4009eb0508557927", func := "carousel/carousellaw04.PackedUnpack", spec := "packedUnpack", unfollowed := true, recurses := true, apart := false, narrowed := true }
def PackedUnpackUptoSaid : Prop := packedUnpackUptoRow.holds Try.pinned (OpenSpec.upto packedUnpackSpec)

/-- 'carousellaw04.PackedBack', WHERE WHAT IT READS IS OF BULK AT MOST 1048576: true; the input reads as it did. -/
def packedBackUptoRow : OpenClaim := { program := "ytiegjildepfciaa", sum := "fb58262a96f75bf0720c8b8d5bbd025ffbac044d58afefbd4009eb0508557927", func := "carousel/carousellaw04.PackedBack", spec := "packedBack", unfollowed := true, recurses := true, apart := false, narrowed := true }
def PackedBackUptoSaid : Prop := packedBackUptoRow.holds Try.pinned (OpenSpec.upto packedBackSpec)

/-- 'carousellaw04.PackedWay', WHERE WHAT IT READS IS OF BULK AT MOST 1048576: true; the input reads as it did. -/
def packedWayUptoRow : OpenClaim := { program := "ytiegjildepfciaa", sum := "fb58262a96f75bf0720c8b8d5bbd025ffbac044d58afefbd4009eb0508557927", func := "carousel/carousellaw04.PackedWay", spec := "packedWay", unfollowed := true, recurses := true, apart := false, narrowed := true }
def PackedWayUptoSaid : Prop := packedWayUptoRow.holds Try.pinned (OpenSpec.upto packedWaySpec)

/-- 'carousellaw04.PackedLength', WHERE WHAT IT READS IS OF BULK AT MOST 1048576: true; the input reads as it did. -/
def packedLengthUptoRow : OpenClaim := { program := "ytiegjildepfciaa", sum := "fb58262a96f75bf0720c8b8d5bbd025ffbac044d58afefbd4009eb0508557927", func := "carousel/carousellaw04.PackedLength", spec := "packedLength", unfollowed := true, recurses := true, apart := false, narrowed := true }
def PackedLengthUptoSaid : Prop := packedLengthUptoRow.holds Try.pinned (OpenSpec.upto packedLengthSpec)

end Rows
end Go.Proofs.Ytiegjildepfciaa
