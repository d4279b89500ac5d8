/- Built anew nothing is left of the graph that was there ahead, and files of other names stay: for every input the law returns true. No condition beside the given row. -/
import Derived.Test.YtbefcngilihcoaaGreatDoorRows
import Derived.Test.YtbefcngilihcoaaGreatDoorTie
import Derived.Test.YtbefcngilihcoaaGreatDoorCards
import Derived.Lay
import Derived.LaidMore
import Derived.SevenTiedAt
import Derived.Stop.Joined
import Derived.Test.YtbefcngilihcoaaGreatDoorLawBuildAnewA
import Derived.Test.YtbefcngilihcoaaGreatDoorGL
import Derived.Test.YtbefcngilihcoaaGreatDoorGG
import Derived.Test.YtbefcngilihcoaaGreatDoorGR
namespace Go.Proofs.YtbefcngilihcoaaGreatDoor.buildAnew
open Go Go.Cz
set_option maxRecDepth 100000
theorem own : ownKnob Tryz.prog.godebug = none := by kernel_rfl
def ads : List (Bool × List Lf) := [(true, [.i .u8, .i .u8, .i .u8, .i .u8]), (true, [.sl [.i .u8, .i .u8], .sl [.i .u8, .i .u8]]), (false, [.s])]
theorem lifted (os : Os) (started : os.Started) (HH : Type) (enc : TypeId × Value → HH) :
    ReturnsInHanded {} Tryz.checked os 3 .any (fun w args => (Rows.buildAnewSpec.pre enc Tryz.prog Tryz.f3 Rows.buildAnewRow.domain false w args ∧ laidMetH Tryz.prog Rows.buildAnewRow.laid w) ∧ sizedMet enc Tryz.prog Tryz.f3 (OpenSpec.ofChange Rows.buildAnewSpec) false w args) (Rows.buildAnewSpec.post enc Tryz.prog Tryz.f3 false true false false) :=
  law_lifted_laid (C := Tryz.checked) (bt := 4) (ads := ads) (X := fun w _ => laidMetH Tryz.prog Rows.buildAnewRow.laid w) (fun _ _ _ hh h => h.of_heap hh) S.law12_BuildAnew_linked own started (by kernel_rfl) Tryz.func3
    (ChangeSpec.witness_shaped (enc := enc) (C := Tryz.checked) (os := os) (X := fun w _ => laidMetH Tryz.prog Rows.buildAnewRow.laid w) false (World.laidAll Tryz.prog os Rows.buildAnewRow.laid) #[.agg #[.int .u8 0, .int .u8 0, .int .u8 0, .int .u8 0], .agg #[.slice none 0 0, .slice none 0 0], .string ByteArray.empty] 8 (World.laidAll_os _ _ _)
      (World.shaped_of_ZipB (by kernel_rfl) (by kernel_rfl)) (by kernel_rfl) (by kernel_rfl) (by kernel_rfl)
      (by rw [MakeChecks.laidMetH_plain _ _ _ (by kernel_rfl)]; exact laidMet_laidAll _ (by kernel_rfl) (by kernel_rfl)))
    (by kernel_rfl) rfl (fun ds h => by match ds, h with | [_, _, _], _ => rfl) (by kernel_rfl) (by kernel_rfl) (by kernel_rfl) (by kernel_rfl)
    (fun h t _ hr => S.law12_BuildAnew_row h t hr)
theorem over : Rows.buildAnewRow.holds Tryz.pinned (OpenSpec.ofChange Rows.buildAnewSpec) :=
  OpenClaim.holds_of_wide 3 Tryz.f3 rfl rfl rfl rfl rfl rfl rfl ⟨rfl, rfl, rfl, rfl, rfl⟩ rfl rfl rfl rfl rfl named Tryz.func3 closed
    (of_decide_eq_true (by kernel_rfl)) (by unfold Func.isWrapper; first | (rw [if_pos (by decide +kernel)]; kernel_rfl) | (rw [if_neg (by decide +kernel)]; exact ⟨rfl, rfl⟩))
    (fun os started H enc _ => lifted os started H enc)
theorem proved : Rows.BuildAnewCardSaid :=
  Claim7.holds_tied_plain_at .later [] [.data, .data, .data, .data, .pinned] true (true, "eda2ec786f6ec6252a22d121c19bfdfb179fc4445235627bd75e83f89656f9de") false over (fun _ h => by cases h) (by kernel_rfl) (fun _ h => by cases h) buildAnew_row_tie rfl ⟨rfl, rfl⟩ (by kernel_rfl) rfl
    (fun f fn hf hfn => by
      obtain rfl : f = 3 := Option.some.inj ((show Tryz.prog.funcNamed "carousel/carousellaw12.BuildAnew" = some 3 from named).symm.trans hf) |>.symm
      obtain rfl : fn = Tryz.f3 := (Option.some.inj (Tryz.func3.symm.trans hfn)).symm
      exact ⟨by kernel_rfl, fun j t ht => by
        rw [Tryz.params3] at ht
        have hm : t ∈ [23, 25, 9] := by simpa using Array.mem_of_getElem? ht
        have hall : ([23, 25, 9].all fun u => !Tryz.prog.wantsStandIn u) = true := by kernel_rfl
        exact (show Tryz.prog.wantsStandIn t = false by simpa using List.all_eq_true.1 hall t hm)⟩)
    (by kernel_rfl)
end Go.Proofs.YtbefcngilihcoaaGreatDoor.buildAnew
