/- The law SumsGoes holds: for every input the call returns true and the arguments read as before. No condition beside the given row. -/
import Derived.Test.YtbcijfhjbmlplaaRows
import Derived.Test.YtbcijfhjbmlplaaL03
import Derived.Test.YtbcijfhjbmlplaaQ03
import Derived.Test.YtbcijfhjbmlplaaEngR
namespace Go.Proofs.Ytbcijfhjbmlplaa.sumsGoes
open Go Go.Cz
set_option maxRecDepth 100000
theorem own : ownKnob Try.prog.godebug = none := by kernel_rfl
def ads : List (Bool × List Lf) := [(false, [.s]), (false, [.i .u32])]
theorem lifted (os : Os) (started : os.Started) (HH : Type) (enc : TypeId × Value → HH) :
    ReturnsInHanded {} Try.checked os 3 .any (Rows.sumsGoesSpec.pre6 enc Try.prog Try.f3 Rows.sumsGoesRow.domain false) (Rows.sumsGoesSpec.post enc Try.prog Try.f3 false true false false) :=
  law_lifted (C := Try.checked) (bt := 4) (ads := ads) S.law03_SumsGoes_linked own started (by kernel_rfl) Try.func3
    (ChangeSpec.witness6 (enc := enc) (C := Try.checked) false ⟨#[], #[.string ByteArray.empty, .int .u32 0], []⟩ 8 (by kernel_rfl) (by kernel_rfl) (by kernel_rfl) (by kernel_rfl))
    (by kernel_rfl) rfl (fun ds h => by match ds, h with | [_, _], _ => rfl) (by kernel_rfl) (by kernel_rfl) (by kernel_rfl) (by kernel_rfl)
    (fun h t _ hr => S.law03_SumsGoes_row h t hr)
theorem over : Rows.sumsGoesRow.holds Try.pinned (OpenSpec.ofChange Rows.sumsGoesSpec) :=
  OpenClaim.holds_of_wide 3 Try.f3 rfl rfl rfl rfl rfl rfl rfl ⟨rfl, rfl, rfl, rfl, rfl⟩ rfl rfl rfl rfl rfl (by kernel_rfl) Try.func3 (by kernel_rfl)
    (of_decide_eq_true (by kernel_rfl)) (by unfold Func.isWrapper; first | (rw [if_pos (by decide +kernel)]; kernel_rfl) | (rw [if_neg (by decide +kernel)]; exact ⟨rfl, rfl⟩))
    (fun os started H enc _ => lifted os started H enc)
theorem proved : Rows.SumsGoesSaid := over
end Go.Proofs.Ytbcijfhjbmlplaa.sumsGoes
