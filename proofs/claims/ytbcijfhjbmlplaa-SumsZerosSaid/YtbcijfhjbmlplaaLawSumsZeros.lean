/- The law SumsZeros holds: for every input the call returns true and the arguments read as before. No condition beside the given row. -/
import Derived.Test.YtbcijfhjbmlplaaRows
import Derived.Test.YtbcijfhjbmlplaaL03
import Derived.Test.YtbcijfhjbmlplaaQ03
import Derived.Test.YtbcijfhjbmlplaaEngR
namespace Go.Proofs.Ytbcijfhjbmlplaa.sumsZeros
open Go Go.Cz
set_option maxRecDepth 100000
theorem own : ownKnob Try.prog.godebug = none := by kernel_rfl
def ads : List (Bool × List Lf) := [(false, [.i .u32]), (false, [.i .u64]), (false, [.i .u64])]
theorem lifted (os : Os) (started : os.Started) (HH : Type) (enc : TypeId × Value → HH) :
    ReturnsInHanded {} Try.checked os 9 .any (Rows.sumsZerosSpec.pre6 enc Try.prog Try.f9 Rows.sumsZerosRow.domain false) (Rows.sumsZerosSpec.post enc Try.prog Try.f9 false true false false) :=
  law_lifted (C := Try.checked) (bt := 4) (ads := ads) S.law03_SumsZeros_linked own started (by kernel_rfl) Try.func9
    (ChangeSpec.witness6 (enc := enc) (C := Try.checked) false ⟨#[], #[.int .u32 0, .int .u64 0, .int .u64 0], []⟩ 8 (by kernel_rfl) (by kernel_rfl) (by kernel_rfl) (by kernel_rfl))
    (by kernel_rfl) rfl (fun ds h => by match ds, h with | [_, _, _], _ => rfl) (by kernel_rfl) (by kernel_rfl) (by kernel_rfl) (by kernel_rfl)
    (fun h t _ hr => S.law03_SumsZeros_row h t hr)
theorem over : Rows.sumsZerosRow.holds Try.pinned (OpenSpec.ofChange Rows.sumsZerosSpec) :=
  OpenClaim.holds_of_wide 9 Try.f9 rfl rfl rfl rfl rfl rfl rfl ⟨rfl, rfl, rfl, rfl, rfl⟩ rfl rfl rfl rfl rfl (by kernel_rfl) Try.func9 (by kernel_rfl)
    (of_decide_eq_true (by kernel_rfl)) (by unfold Func.isWrapper; first | (rw [if_pos (by decide +kernel)]; kernel_rfl) | (rw [if_neg (by decide +kernel)]; exact ⟨rfl, rfl⟩))
    (fun os started H enc _ => lifted os started H enc)
theorem proved : Rows.SumsZerosSaid := over
end Go.Proofs.Ytbcijfhjbmlplaa.sumsZeros
