/- A shard that was loaded is told again without a read just if the cache has room for all of its pages: for every input the law returns true. No condition beside the given row. -/
import Derived.Test.YtkdgpedoeageiaaGreatDoorRows
import Derived.Test.YtkdgpedoeageiaaGreatDoorTie
import Derived.Test.YtkdgpedoeageiaaGreatDoorCards
import Derived.Lay
import Derived.LaidMore
import Derived.SevenTiedAt
import Derived.Stop.Joined
import Derived.Test.YtkdgpedoeageiaaGreatDoorGL
import Derived.Test.YtkdgpedoeageiaaGreatDoorGG
import Derived.Test.YtkdgpedoeageiaaGreatDoorGR
namespace Go.Proofs.YtkdgpedoeageiaaGreatDoor.loadAgain
open Go Go.Cz
set_option maxRecDepth 100000
theorem own : ownKnob Tryz.prog.godebug = none := by kernel_rfl
def ads : List (Bool × List Lf) := [(true, [.i .u8, .i .u8, .i .u8]), (false, [.sl [.i .u8, .i .u8]]), (false, [.i .u8])]
theorem lifted (os : Os) (started : os.Started) (HH : Type) (enc : TypeId × Value → HH) :
    ReturnsInHanded {} Tryz.checked os 3 .any (fun w args => (Rows.loadAgainSpec.pre enc Tryz.prog Tryz.f3 Rows.loadAgainRow.domain false w args ∧ laidMetH Tryz.prog Rows.loadAgainRow.laid w) ∧ sizedMet enc Tryz.prog Tryz.f3 (OpenSpec.ofChange Rows.loadAgainSpec) false w args) (Rows.loadAgainSpec.post enc Tryz.prog Tryz.f3 false true false false) :=
  law_lifted_laid (C := Tryz.checked) (bt := 4) (ads := ads) (X := fun w _ => laidMetH Tryz.prog Rows.loadAgainRow.laid w) (fun _ _ _ hh h => h.of_heap hh) S.law13_LoadAgain_linked own started (by kernel_rfl) Tryz.func3
    (ChangeSpec.witness_shaped (enc := enc) (C := Tryz.checked) (os := os) (X := fun w _ => laidMetH Tryz.prog Rows.loadAgainRow.laid w) false (World.laidAll Tryz.prog os Rows.loadAgainRow.laid) #[.agg #[.int .u8 0, .int .u8 0, .int .u8 0], .slice none 0 0, .int .u8 0] 8 (World.laidAll_os _ _ _)
      (World.shaped_of_ZipB (by kernel_rfl) (by kernel_rfl)) (by kernel_rfl) (by kernel_rfl) (by kernel_rfl)
      (by rw [MakeChecks.laidMetH_plain _ _ _ (by kernel_rfl)]; exact laidMet_laidAll _ (by kernel_rfl) (by kernel_rfl)))
    (by kernel_rfl) rfl (fun ds h => by match ds, h with | [_, _, _], _ => rfl) (by kernel_rfl) (by kernel_rfl) (by kernel_rfl) (by kernel_rfl)
    (fun h t _ hr => S.law13_LoadAgain_row h t hr)
theorem over : Rows.loadAgainRow.holds Tryz.pinned (OpenSpec.ofChange Rows.loadAgainSpec) :=
  OpenClaim.holds_of_wide 3 Tryz.f3 rfl rfl rfl rfl rfl rfl rfl ⟨rfl, rfl, rfl, rfl, rfl⟩ rfl rfl rfl rfl rfl (by kernel_rfl) Tryz.func3 (by kernel_rfl)
    (of_decide_eq_true (by kernel_rfl)) (by unfold Func.isWrapper; first | (rw [if_pos (by decide +kernel)]; kernel_rfl) | (rw [if_neg (by decide +kernel)]; exact ⟨rfl, rfl⟩))
    (fun os started H enc _ => lifted os started H enc)
theorem proved : Rows.LoadAgainCardSaid :=
  Claim7.holds_tied_plain_at .later [] [.data, .data, .data, .data, .pinned] true (true, "5d21c777b2217a2403c5eca1a0393fc6a56757e7bcbee18871922f110c54e817") false over (fun _ h => by cases h) (by kernel_rfl) (fun _ h => by cases h) loadAgain_row_tie rfl ⟨rfl, rfl⟩ (by kernel_rfl) rfl
    (fun f fn hf hfn => by
      obtain rfl : f = 3 := Option.some.inj ((show Tryz.prog.funcNamed "carousel/carousellaw13.LoadAgain" = some 3 by kernel_rfl).symm.trans hf) |>.symm
      obtain rfl : fn = Tryz.f3 := (Option.some.inj (Tryz.func3.symm.trans hfn)).symm
      exact ⟨by kernel_rfl, fun j t ht => by
        rw [Tryz.params3] at ht
        have hm : t ∈ [22, 23, 5] := by simpa using Array.mem_of_getElem? ht
        have hall : ([22, 23, 5].all fun u => !Tryz.prog.wantsStandIn u) = true := by kernel_rfl
        exact (show Tryz.prog.wantsStandIn t = false by simpa using List.all_eq_true.1 hall t hm)⟩)
    (by kernel_rfl)
end Go.Proofs.YtkdgpedoeageiaaGreatDoor.loadAgain
