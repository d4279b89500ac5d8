/- The law PackedUnpack holds: for every input the call returns true and the arguments read as before. No condition beside the given row. -/
import Derived.Test.YtiegjildepfciaaRows
import Derived.Test.YtiegjildepfciaaL04
import Derived.Test.YtiegjildepfciaaQ04
import Derived.Test.YtiegjildepfciaaEngR
namespace Go.Proofs.Ytiegjildepfciaa.packedUnpack
open Go Go.Cz
set_option maxRecDepth 100000
theorem own : ownKnob Try.prog.godebug = none := by kernel_rfl
def ads : List (Bool × List Lf) := [(false, [.s]), (false, [.i .i64]), (false, [.i .i64])]
theorem lifted (os : Os) (started : os.Started) (HH : Type) (enc : TypeId × Value → HH) :
    ReturnsInHanded {} Try.checked os 4 .any (Rows.packedUnpackSpec.pre6 enc Try.prog Try.f4 Rows.packedUnpackRow.domain false) (Rows.packedUnpackSpec.post enc Try.prog Try.f4 false true false false) :=
  law_lifted (C := Try.checked) (bt := 4) (ads := ads) S.law04_PackedUnpack_linked own started (by kernel_rfl) Try.func4
    (ChangeSpec.witness6 (enc := enc) (C := Try.checked) false ⟨#[], #[.string ByteArray.empty, .int .i64 0, .int .i64 0], []⟩ 8 (by kernel_rfl) (by kernel_rfl) (by kernel_rfl) (by kernel_rfl))
    (by kernel_rfl) rfl (fun ds h => by match ds, h with | [_, _, _], _ => rfl) (by kernel_rfl) (by kernel_rfl) (by kernel_rfl) (by kernel_rfl)
    (fun h t _ hr => S.law04_PackedUnpack_row h t hr)
theorem over : Rows.packedUnpackRow.holds Try.pinned (OpenSpec.ofChange Rows.packedUnpackSpec) :=
  OpenClaim.holds_of_wide 4 Try.f4 rfl rfl rfl rfl rfl rfl rfl ⟨rfl, rfl, rfl, rfl, rfl⟩ rfl rfl rfl rfl rfl (by kernel_rfl) Try.func4 (by kernel_rfl)
    (of_decide_eq_true (by kernel_rfl)) (by unfold Func.isWrapper; first | (rw [if_pos (by decide +kernel)]; kernel_rfl) | (rw [if_neg (by decide +kernel)]; exact ⟨rfl, rfl⟩))
    (fun os started H enc _ => lifted os started H enc)
theorem proved : Rows.PackedUnpackSaid := over
end Go.Proofs.Ytiegjildepfciaa.packedUnpack
