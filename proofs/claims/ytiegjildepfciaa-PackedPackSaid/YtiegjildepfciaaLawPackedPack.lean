/- The law PackedPack holds: for every input the call returns true and the arguments read as before. No condition beside the given row. -/
import Derived.Test.YtiegjildepfciaaRows
import Derived.Test.YtiegjildepfciaaL04
import Derived.Test.YtiegjildepfciaaQ04
import Derived.Test.YtiegjildepfciaaEngR
namespace Go.Proofs.Ytiegjildepfciaa.packedPack
open Go Go.Cz
set_option maxRecDepth 100000
theorem own : ownKnob Try.prog.godebug = none := by kernel_rfl
def ads : List (Bool × List Lf) := [(false, [.sl [.i .i64]]), (false, [.i .i64])]
theorem lifted (os : Os) (started : os.Started) (HH : Type) (enc : TypeId × Value → HH) :
    ReturnsInHanded {} Try.checked os 3 .any (Rows.packedPackSpec.pre6 enc Try.prog Try.f3 Rows.packedPackRow.domain false) (Rows.packedPackSpec.post enc Try.prog Try.f3 false true false false) :=
  law_lifted (C := Try.checked) (bt := 4) (ads := ads) S.law04_PackedPack_linked own started (by kernel_rfl) Try.func3
    (ChangeSpec.witness6 (enc := enc) (C := Try.checked) false ⟨#[], #[.slice none 0 0, .int .i64 0], []⟩ 8 (by kernel_rfl) (by kernel_rfl) (by kernel_rfl) (by kernel_rfl))
    (by kernel_rfl) rfl (fun ds h => by match ds, h with | [_, _], _ => rfl) (by kernel_rfl) (by kernel_rfl) (by kernel_rfl) (by kernel_rfl)
    (fun h t _ hr => S.law04_PackedPack_row h t hr)
theorem over : Rows.packedPackRow.holds Try.pinned (OpenSpec.ofChange Rows.packedPackSpec) :=
  OpenClaim.holds_of_wide 3 Try.f3 rfl rfl rfl rfl rfl rfl rfl ⟨rfl, rfl, rfl, rfl, rfl⟩ rfl rfl rfl rfl rfl (by kernel_rfl) Try.func3 (by kernel_rfl)
    (of_decide_eq_true (by kernel_rfl)) (by unfold Func.isWrapper; first | (rw [if_pos (by decide +kernel)]; kernel_rfl) | (rw [if_neg (by decide +kernel)]; exact ⟨rfl, rfl⟩))
    (fun os started H enc _ => lifted os started H enc)
theorem proved : Rows.PackedPackSaid := over
end Go.Proofs.Ytiegjildepfciaa.packedPack
