/- The law SumsThree holds: for every input the call returns true and the arguments read as before. No condition beside the given row. -/
import Derived.Test.YtbcijfhjbmlplaaRows
import Derived.Test.YtbcijfhjbmlplaaL03
import Derived.Test.YtbcijfhjbmlplaaQ03
import Derived.Test.YtbcijfhjbmlplaaEngR
namespace Go.Proofs.Ytbcijfhjbmlplaa.sumsThree
open Go Go.Cz
set_option maxRecDepth 100000
theorem own : ownKnob Try.prog.godebug = none := by kernel_rfl
def ads : List (Bool × List Lf) := [(false, [.s]), (false, [.s]), (false, [.s])]
theorem lifted (os : Os) (started : os.Started) (HH : Type) (enc : TypeId × Value → HH) :
    ReturnsInHanded {} Try.checked os 6 .any (Rows.sumsThreeSpec.pre6 enc Try.prog Try.f6 Rows.sumsThreeRow.domain false) (Rows.sumsThreeSpec.post enc Try.prog Try.f6 false true false false) :=
  law_lifted (C := Try.checked) (bt := 4) (ads := ads) S.law03_SumsThree_linked own started (by kernel_rfl) Try.func6
    (ChangeSpec.witness6 (enc := enc) (C := Try.checked) false ⟨#[], #[.string ByteArray.empty, .string ByteArray.empty, .string ByteArray.empty], []⟩ 8 (by kernel_rfl) (by kernel_rfl) (by kernel_rfl) (by kernel_rfl))
    (by kernel_rfl) rfl (fun ds h => by match ds, h with | [_, _, _], _ => rfl) (by kernel_rfl) (by kernel_rfl) (by kernel_rfl) (by kernel_rfl)
    (fun h t _ hr => S.law03_SumsThree_row h t hr)
theorem over : Rows.sumsThreeRow.holds Try.pinned (OpenSpec.ofChange Rows.sumsThreeSpec) :=
  OpenClaim.holds_of_wide 6 Try.f6 rfl rfl rfl rfl rfl rfl rfl ⟨rfl, rfl, rfl, rfl, rfl⟩ rfl rfl rfl rfl rfl (by kernel_rfl) Try.func6 (by kernel_rfl)
    (of_decide_eq_true (by kernel_rfl)) (by unfold Func.isWrapper; first | (rw [if_pos (by decide +kernel)]; kernel_rfl) | (rw [if_neg (by decide +kernel)]; exact ⟨rfl, rfl⟩))
    (fun os started H enc _ => lifted os started H enc)
theorem proved : Rows.SumsThreeSaid := over
end Go.Proofs.Ytbcijfhjbmlplaa.sumsThree
