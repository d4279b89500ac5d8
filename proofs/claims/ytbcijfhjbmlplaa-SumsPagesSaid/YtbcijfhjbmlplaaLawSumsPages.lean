/- The law SumsPages holds: for every input the call returns true and the arguments read as before. No condition beside the given row. -/
import Derived.Test.YtbcijfhjbmlplaaRows
import Derived.Test.YtbcijfhjbmlplaaL03
import Derived.Test.YtbcijfhjbmlplaaQ03
import Derived.Test.YtbcijfhjbmlplaaEngR
namespace Go.Proofs.Ytbcijfhjbmlplaa.sumsPages
open Go Go.Cz
set_option maxRecDepth 100000
theorem own : ownKnob Try.prog.godebug = none := by kernel_rfl
def ads : List (Bool × List Lf) := [(false, [.sl [.s]])]
theorem lifted (os : Os) (started : os.Started) (HH : Type) (enc : TypeId × Value → HH) :
    ReturnsInHanded {} Try.checked os 8 .any (Rows.sumsPagesSpec.pre6 enc Try.prog Try.f8 Rows.sumsPagesRow.domain false) (Rows.sumsPagesSpec.post enc Try.prog Try.f8 false true false false) :=
  law_lifted (C := Try.checked) (bt := 4) (ads := ads) S.law03_SumsPages_linked own started (by kernel_rfl) Try.func8
    (ChangeSpec.witness6 (enc := enc) (C := Try.checked) false ⟨#[], #[.slice none 0 0], []⟩ 8 (by kernel_rfl) (by kernel_rfl) (by kernel_rfl) (by kernel_rfl))
    (by kernel_rfl) rfl (fun ds h => by match ds, h with | [_], _ => rfl) (by kernel_rfl) (by kernel_rfl) (by kernel_rfl) (by kernel_rfl)
    (fun h t _ hr => S.law03_SumsPages_row h t hr)
theorem over : Rows.sumsPagesRow.holds Try.pinned (OpenSpec.ofChange Rows.sumsPagesSpec) :=
  OpenClaim.holds_of_wide 8 Try.f8 rfl rfl rfl rfl rfl rfl rfl ⟨rfl, rfl, rfl, rfl, rfl⟩ rfl rfl rfl rfl rfl (by kernel_rfl) Try.func8 (by kernel_rfl)
    (of_decide_eq_true (by kernel_rfl)) (by unfold Func.isWrapper; first | (rw [if_pos (by decide +kernel)]; kernel_rfl) | (rw [if_neg (by decide +kernel)]; exact ⟨rfl, rfl⟩))
    (fun os started H enc _ => lifted os started H enc)
theorem proved : Rows.SumsPagesSaid := over
end Go.Proofs.Ytbcijfhjbmlplaa.sumsPages
