/- File reads what was laid through a cache of any size, and leaves as many pins as there were, whatever fails meanwhile: for every input the law returns true. No condition beside the given row. -/
import Derived.Test.YtbefcngilihcoaaGreatDoorRows
import Derived.Test.YtbefcngilihcoaaGreatDoorTie
import Derived.Test.YtbefcngilihcoaaGreatDoorCards
import Derived.Lay
import Derived.LaidMore
import Derived.SevenTiedAt
import Derived.Stop.Joined
import Derived.Test.YtbefcngilihcoaaGreatDoorLawBuildPinsA
import Derived.Test.YtbefcngilihcoaaGreatDoorGL
import Derived.Test.YtbefcngilihcoaaGreatDoorGG
import Derived.Test.YtbefcngilihcoaaGreatDoorGR
namespace Go.Proofs.YtbefcngilihcoaaGreatDoor.buildPins
open Go Go.Cz
set_option maxRecDepth 100000
theorem own : ownKnob Tryz.prog.godebug = none := by kernel_rfl
def ads : List (Bool × List Lf) := [(false, [.s]), (false, [.sl [.i .u8, .s, .i .i64, .s, .i .u8]]), (true, [.i .u8, .i .u8])]
theorem lifted (os : Os) (started : os.Started) (HH : Type) (enc : TypeId × Value → HH) :
    ReturnsInHanded {} Tryz.checked os 5 .any (fun w args => (Rows.buildPinsSpec.pre enc Tryz.prog Tryz.f5 Rows.buildPinsRow.domain false w args ∧ laidMetH Tryz.prog Rows.buildPinsRow.laid w) ∧ sizedMet enc Tryz.prog Tryz.f5 (OpenSpec.ofChange Rows.buildPinsSpec) false w args) (Rows.buildPinsSpec.post enc Tryz.prog Tryz.f5 false true false false) :=
  law_lifted_laid (C := Tryz.checked) (bt := 4) (ads := ads) (X := fun w _ => laidMetH Tryz.prog Rows.buildPinsRow.laid w) (fun _ _ _ hh h => h.of_heap hh) S.law12_BuildPins_linked own started (by kernel_rfl) Tryz.func5
    (ChangeSpec.witness_shaped (enc := enc) (C := Tryz.checked) (os := os) (X := fun w _ => laidMetH Tryz.prog Rows.buildPinsRow.laid w) false (World.laidAll Tryz.prog os Rows.buildPinsRow.laid) #[.string ByteArray.empty, .slice none 0 0, .agg #[.int .u8 0, .int .u8 0]] 8 (World.laidAll_os _ _ _)
      (World.shaped_of_ZipB (by kernel_rfl) (by kernel_rfl)) (by kernel_rfl) (by kernel_rfl) (by kernel_rfl)
      (by rw [MakeChecks.laidMetH_plain _ _ _ (by kernel_rfl)]; exact laidMet_laidAll _ (by kernel_rfl) (by kernel_rfl)))
    (by kernel_rfl) rfl (fun ds h => by match ds, h with | [_, _, _], _ => rfl) (by kernel_rfl) (by kernel_rfl) (by kernel_rfl) (by kernel_rfl)
    (fun h t _ hr => S.law12_BuildPins_row h t hr)
theorem over : Rows.buildPinsRow.holds Tryz.pinned (OpenSpec.ofChange Rows.buildPinsSpec) :=
  OpenClaim.holds_of_wide 5 Tryz.f5 rfl rfl rfl rfl rfl rfl rfl ⟨rfl, rfl, rfl, rfl, rfl⟩ rfl rfl rfl rfl rfl named Tryz.func5 closed
    (of_decide_eq_true (by kernel_rfl)) (by unfold Func.isWrapper; first | (rw [if_pos (by decide +kernel)]; kernel_rfl) | (rw [if_neg (by decide +kernel)]; exact ⟨rfl, rfl⟩))
    (fun os started H enc _ => lifted os started H enc)
theorem proved : Rows.BuildPinsCardSaid :=
  Claim7.holds_tied_plain_at .later [] [.data, .data, .data, .data, .pinned] true (true, "eda2ec786f6ec6252a22d121c19bfdfb179fc4445235627bd75e83f89656f9de") false over (fun _ h => by cases h) (by kernel_rfl) (fun _ h => by cases h) buildPins_row_tie rfl ⟨rfl, rfl⟩ (by kernel_rfl) rfl
    (fun f fn hf hfn => by
      obtain rfl : f = 5 := Option.some.inj ((show Tryz.prog.funcNamed "carousel/carousellaw12.BuildPins" = some 5 from named).symm.trans hf) |>.symm
      obtain rfl : fn = Tryz.f5 := (Option.some.inj (Tryz.func5.symm.trans hfn)).symm
      exact ⟨by kernel_rfl, fun j t ht => by
        rw [Tryz.params5] at ht
        have hm : t ∈ [9, 53, 22] := by simpa using Array.mem_of_getElem? ht
        have hall : ([9, 53, 22].all fun u => !Tryz.prog.wantsStandIn u) = true := by kernel_rfl
        exact (show Tryz.prog.wantsStandIn t = false by simpa using List.all_eq_true.1 hall t hm)⟩)
    (by kernel_rfl)
end Go.Proofs.YtbefcngilihcoaaGreatDoor.buildPins
