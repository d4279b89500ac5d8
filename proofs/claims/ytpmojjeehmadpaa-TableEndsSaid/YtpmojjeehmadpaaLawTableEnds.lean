/- The law TableEnds holds: for every input the call returns true and the arguments read as before. No condition beside the given row. -/
import Derived.Test.YtpmojjeehmadpaaRows
import Derived.Test.YtpmojjeehmadpaaL28
import Derived.Test.YtpmojjeehmadpaaQ28
import Derived.Test.YtpmojjeehmadpaaEngR
namespace Go.Proofs.Ytpmojjeehmadpaa.tableEnds
open Go Go.Cz
set_option maxRecDepth 100000
theorem own : ownKnob Try.prog.godebug = none := by kernel_rfl
def ads : List (Bool × List Lf) := [(true, [.i .u8, .sl [.i .u8, .i .u8], .i .u8, .i .u8, .i .u16]), (false, [.sl [.i .u8, .i .i64, .i .u8, .i .u8, .i .u8, .i .u16, .i .i64, .i .i64, .i .i64, .i .i64, .b]])]
theorem lifted (os : Os) (started : os.Started) (HH : Type) (enc : TypeId × Value → HH) :
    ReturnsInHanded {} Try.checked os 6 .any (Rows.tableEndsSpec.pre6 enc Try.prog Try.f6 Rows.tableEndsRow.domain false) (Rows.tableEndsSpec.post enc Try.prog Try.f6 false true false false) :=
  law_lifted (C := Try.checked) (bt := 4) (ads := ads) S.law28_TableEnds_linked own started (by kernel_rfl) Try.func6
    (ChangeSpec.witness6 (enc := enc) (C := Try.checked) false ⟨#[], #[.agg #[.int .u8 0, .slice none 0 0, .int .u8 0, .int .u8 0, .int .u16 0], .slice none 0 0], []⟩ 8 (by kernel_rfl) (by kernel_rfl) (by kernel_rfl) (by kernel_rfl))
    (by kernel_rfl) rfl (fun ds h => by match ds, h with | [_, _], _ => rfl) (by kernel_rfl) (by kernel_rfl) (by kernel_rfl) (by kernel_rfl)
    (fun h t _ hr => S.law28_TableEnds_row h t hr)
theorem over : Rows.tableEndsRow.holds Try.pinned (OpenSpec.ofChange Rows.tableEndsSpec) :=
  OpenClaim.holds_of_wide 6 Try.f6 rfl rfl rfl rfl rfl rfl rfl ⟨rfl, rfl, rfl, rfl, rfl⟩ rfl rfl rfl rfl rfl (by kernel_rfl) Try.func6 (by kernel_rfl)
    (of_decide_eq_true (by kernel_rfl)) (by unfold Func.isWrapper; first | (rw [if_pos (by decide +kernel)]; kernel_rfl) | (rw [if_neg (by decide +kernel)]; exact ⟨rfl, rfl⟩))
    (fun os started H enc _ => lifted os started H enc)
theorem proved : Rows.TableEndsSaid := over
end Go.Proofs.Ytpmojjeehmadpaa.tableEnds
