/- What was built is opened, there is a file of each part and the manifest, each has the bytes of the shard of that part, and together all edges in order: for every input the law returns true. No condition beside the given row. -/
import Derived.Test.YtkdgpedoeageiaaGreatDoorRows
import Derived.Test.YtkdgpedoeageiaaGreatDoorTie
import Derived.Test.YtkdgpedoeageiaaGreatDoorCards
import Derived.Lay
import Derived.LaidMore
import Derived.SevenTiedAt
import Derived.Stop.Joined
import Derived.Test.YtkdgpedoeageiaaGreatDoorGL
import Derived.Test.YtkdgpedoeageiaaGreatDoorGG
import Derived.Test.YtkdgpedoeageiaaGreatDoorGR
namespace Go.Proofs.YtkdgpedoeageiaaGreatDoor.buildFiles
open Go Go.Cz
set_option maxRecDepth 100000
theorem own : ownKnob Tryz.prog.godebug = none := by kernel_rfl
def ads : List (Bool × List Lf) := [(true, [.i .u8, .i .u8, .i .u8]), (false, [.sl [.i .u8, .i .u8]])]
theorem lifted (os : Os) (started : os.Started) (HH : Type) (enc : TypeId × Value → HH) :
    ReturnsInHanded {} Tryz.checked os 5 .any (fun w args => (Rows.buildFilesSpec.pre enc Tryz.prog Tryz.f5 Rows.buildFilesRow.domain false w args ∧ laidMetH Tryz.prog Rows.buildFilesRow.laid w) ∧ sizedMet enc Tryz.prog Tryz.f5 (OpenSpec.ofChange Rows.buildFilesSpec) false w args) (Rows.buildFilesSpec.post enc Tryz.prog Tryz.f5 false true false false) :=
  law_lifted_laid (C := Tryz.checked) (bt := 4) (ads := ads) (X := fun w _ => laidMetH Tryz.prog Rows.buildFilesRow.laid w) (fun _ _ _ hh h => h.of_heap hh) S.law12_BuildFiles_linked own started (by kernel_rfl) Tryz.func5
    (ChangeSpec.witness_shaped (enc := enc) (C := Tryz.checked) (os := os) (X := fun w _ => laidMetH Tryz.prog Rows.buildFilesRow.laid w) false (World.laidAll Tryz.prog os Rows.buildFilesRow.laid) #[.agg #[.int .u8 0, .int .u8 0, .int .u8 0], .slice none 0 0] 8 (World.laidAll_os _ _ _)
      (World.shaped_of_ZipB (by kernel_rfl) (by kernel_rfl)) (by kernel_rfl) (by kernel_rfl) (by kernel_rfl)
      (by rw [MakeChecks.laidMetH_plain _ _ _ (by kernel_rfl)]; exact laidMet_laidAll _ (by kernel_rfl) (by kernel_rfl)))
    (by kernel_rfl) rfl (fun ds h => by match ds, h with | [_, _], _ => rfl) (by kernel_rfl) (by kernel_rfl) (by kernel_rfl) (by kernel_rfl)
    (fun h t _ hr => S.law12_BuildFiles_row h t hr)
theorem over : Rows.buildFilesRow.holds Tryz.pinned (OpenSpec.ofChange Rows.buildFilesSpec) :=
  OpenClaim.holds_of_wide 5 Tryz.f5 rfl rfl rfl rfl rfl rfl rfl ⟨rfl, rfl, rfl, rfl, rfl⟩ rfl rfl rfl rfl rfl (by kernel_rfl) Tryz.func5 (by kernel_rfl)
    (of_decide_eq_true (by kernel_rfl)) (by unfold Func.isWrapper; first | (rw [if_pos (by decide +kernel)]; kernel_rfl) | (rw [if_neg (by decide +kernel)]; exact ⟨rfl, rfl⟩))
    (fun os started H enc _ => lifted os started H enc)
theorem proved : Rows.BuildFilesCardSaid :=
  Claim7.holds_tied_plain_at .later [] [.data, .data, .data, .data, .pinned] true (true, "5d21c777b2217a2403c5eca1a0393fc6a56757e7bcbee18871922f110c54e817") false over (fun _ h => by cases h) (by kernel_rfl) (fun _ h => by cases h) buildFiles_row_tie rfl ⟨rfl, rfl⟩ (by kernel_rfl) rfl
    (fun f fn hf hfn => by
      obtain rfl : f = 5 := Option.some.inj ((show Tryz.prog.funcNamed "carousel/carousellaw12.BuildFiles" = some 5 by kernel_rfl).symm.trans hf) |>.symm
      obtain rfl : fn = Tryz.f5 := (Option.some.inj (Tryz.func5.symm.trans hfn)).symm
      exact ⟨by kernel_rfl, fun j t ht => by
        rw [Tryz.params5] at ht
        have hm : t ∈ [22, 23] := by simpa using Array.mem_of_getElem? ht
        have hall : ([22, 23].all fun u => !Tryz.prog.wantsStandIn u) = true := by kernel_rfl
        exact (show Tryz.prog.wantsStandIn t = false by simpa using List.all_eq_true.1 hall t hm)⟩)
    (by kernel_rfl)
end Go.Proofs.YtkdgpedoeageiaaGreatDoor.buildFiles
