/- The law TableNew holds: for every input the call returns true and the arguments read as before. No condition beside the given row. -/
import Derived.Test.YtpmojjeehmadpaaRows
import Derived.Test.YtpmojjeehmadpaaL28
import Derived.Test.YtpmojjeehmadpaaQ28
import Derived.Test.YtpmojjeehmadpaaEngR
namespace Go.Proofs.Ytpmojjeehmadpaa.tableNew
open Go Go.Cz
set_option maxRecDepth 100000
theorem own : ownKnob Try.prog.godebug = none := by kernel_rfl
def ads : List (Bool × List Lf) := [(false, [.i .i64]), (false, [.sl [.i .i64, .i .i64]]), (true, [.i .i64, .i .i64])]
theorem lifted (os : Os) (started : os.Started) (HH : Type) (enc : TypeId × Value → HH) :
    ReturnsInHanded {} Try.checked os 3 .any (Rows.tableNewSpec.pre6 enc Try.prog Try.f3 Rows.tableNewRow.domain false) (Rows.tableNewSpec.post enc Try.prog Try.f3 false true false false) :=
  law_lifted (C := Try.checked) (bt := 4) (ads := ads) S.law28_TableNew_linked own started (by kernel_rfl) Try.func3
    (ChangeSpec.witness6 (enc := enc) (C := Try.checked) false ⟨#[], #[.int .i64 0, .slice none 0 0, .agg #[.int .i64 0, .int .i64 0]], []⟩ 8 (by kernel_rfl) (by kernel_rfl) (by kernel_rfl) (by kernel_rfl))
    (by kernel_rfl) rfl (fun ds h => by match ds, h with | [_, _, _], _ => rfl) (by kernel_rfl) (by kernel_rfl) (by kernel_rfl) (by kernel_rfl)
    (fun h t _ hr => S.law28_TableNew_row h t hr)
theorem over : Rows.tableNewRow.holds Try.pinned (OpenSpec.ofChange Rows.tableNewSpec) :=
  OpenClaim.holds_of_wide 3 Try.f3 rfl rfl rfl rfl rfl rfl rfl ⟨rfl, rfl, rfl, rfl, rfl⟩ rfl rfl rfl rfl rfl (by kernel_rfl) Try.func3 (by kernel_rfl)
    (of_decide_eq_true (by kernel_rfl)) (by unfold Func.isWrapper; first | (rw [if_pos (by decide +kernel)]; kernel_rfl) | (rw [if_neg (by decide +kernel)]; exact ⟨rfl, rfl⟩))
    (fun os started H enc _ => lifted os started H enc)
theorem proved : Rows.TableNewSaid := over
end Go.Proofs.Ytpmojjeehmadpaa.tableNew
