/- The law TablePlay holds: for every input the call returns true and the arguments read as before. No condition beside the given row. -/
import Derived.Test.YtpmojjeehmadpaaGreatRows
import Derived.Test.YtpmojjeehmadpaaGreatL28
import Derived.Test.YtpmojjeehmadpaaGreatQ28
import Derived.Test.YtpmojjeehmadpaaGreatEngR
namespace Go.Proofs.YtpmojjeehmadpaaGreat.tablePlay
open Go Go.Cz
set_option maxRecDepth 100000
theorem own : ownKnob Tryz.prog.godebug = none := by kernel_rfl
def ads : List (Bool × List Lf) := [(true, [.i .u8, .sl [.i .u8, .i .u8], .i .u8, .i .u8, .i .u16]), (false, [.sl [.i .u8, .i .i64, .i .u8, .i .u8, .i .u8, .i .u16, .i .i64, .i .i64, .i .i64, .i .i64, .b]])]
theorem lifted (os : Os) (started : os.Started) (HH : Type) (enc : TypeId × Value → HH) :
    ReturnsInHanded {} Tryz.checked os 3 .any (Rows.tablePlaySpec.pre6 enc Tryz.prog Tryz.f3 Rows.tablePlayRow.domain false) (Rows.tablePlaySpec.post enc Tryz.prog Tryz.f3 false true false false) :=
  law_lifted (C := Tryz.checked) (bt := 4) (ads := ads) S.law28_TablePlay_linked own started (by kernel_rfl) Tryz.func3
    (ChangeSpec.witness6 (enc := enc) (C := Tryz.checked) false ⟨#[], #[.agg #[.int .u8 0, .slice none 0 0, .int .u8 0, .int .u8 0, .int .u16 0], .slice none 0 0], []⟩ 8 (by kernel_rfl) (by kernel_rfl) (by kernel_rfl) (by kernel_rfl))
    (by kernel_rfl) rfl (fun ds h => by match ds, h with | [_, _], _ => rfl) (by kernel_rfl) (by kernel_rfl) (by kernel_rfl) (by kernel_rfl)
    (fun h t _ hr => S.law28_TablePlay_row h t hr)
theorem over : Rows.tablePlayRow.holds Tryz.pinned (OpenSpec.ofChange Rows.tablePlaySpec) :=
  OpenClaim.holds_of_wide 3 Tryz.f3 rfl rfl rfl rfl rfl rfl rfl ⟨rfl, rfl, rfl, rfl, rfl⟩ rfl rfl rfl rfl rfl (by kernel_rfl) Tryz.func3 (by kernel_rfl)
    (of_decide_eq_true (by kernel_rfl)) (by unfold Func.isWrapper; first | (rw [if_pos (by decide +kernel)]; kernel_rfl) | (rw [if_neg (by decide +kernel)]; exact ⟨rfl, rfl⟩))
    (fun os started H enc _ => lifted os started H enc)
theorem proved : Rows.TablePlaySaid := over
end Go.Proofs.YtpmojjeehmadpaaGreat.tablePlay
