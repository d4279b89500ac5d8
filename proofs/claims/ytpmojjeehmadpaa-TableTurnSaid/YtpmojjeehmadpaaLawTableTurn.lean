/- The law TableTurn holds: for every input the call returns true and the arguments read as before. No condition beside the given row. -/
import Derived.Test.YtpmojjeehmadpaaRows
import Derived.Test.YtpmojjeehmadpaaL28
import Derived.Test.YtpmojjeehmadpaaQ28
import Derived.Test.YtpmojjeehmadpaaEngR
namespace Go.Proofs.Ytpmojjeehmadpaa.tableTurn
open Go Go.Cz
set_option maxRecDepth 100000
theorem own : ownKnob Try.prog.godebug = none := by kernel_rfl
def ads : List (Bool × List Lf) := [(false, [.i .u8]), (false, [.i .u16])]
theorem lifted (os : Os) (started : os.Started) (HH : Type) (enc : TypeId × Value → HH) :
    ReturnsInHanded {} Try.checked os 4 .any (Rows.tableTurnSpec.pre6 enc Try.prog Try.f4 Rows.tableTurnRow.domain false) (Rows.tableTurnSpec.post enc Try.prog Try.f4 false true false false) :=
  law_lifted (C := Try.checked) (bt := 4) (ads := ads) S.law28_TableTurn_linked own started (by kernel_rfl) Try.func4
    (ChangeSpec.witness6 (enc := enc) (C := Try.checked) false ⟨#[], #[.int .u8 0, .int .u16 0], []⟩ 8 (by kernel_rfl) (by kernel_rfl) (by kernel_rfl) (by kernel_rfl))
    (by kernel_rfl) rfl (fun ds h => by match ds, h with | [_, _], _ => rfl) (by kernel_rfl) (by kernel_rfl) (by kernel_rfl) (by kernel_rfl)
    (fun h t _ hr => S.law28_TableTurn_row h t hr)
theorem over : Rows.tableTurnRow.holds Try.pinned (OpenSpec.ofChange Rows.tableTurnSpec) :=
  OpenClaim.holds_of_wide 4 Try.f4 rfl rfl rfl rfl rfl rfl rfl ⟨rfl, rfl, rfl, rfl, rfl⟩ rfl rfl rfl rfl rfl (by kernel_rfl) Try.func4 (by kernel_rfl)
    (of_decide_eq_true (by kernel_rfl)) (by unfold Func.isWrapper; first | (rw [if_pos (by decide +kernel)]; kernel_rfl) | (rw [if_neg (by decide +kernel)]; exact ⟨rfl, rfl⟩))
    (fun os started H enc _ => lifted os started H enc)
theorem proved : Rows.TableTurnSaid := over
end Go.Proofs.Ytpmojjeehmadpaa.tableTurn
