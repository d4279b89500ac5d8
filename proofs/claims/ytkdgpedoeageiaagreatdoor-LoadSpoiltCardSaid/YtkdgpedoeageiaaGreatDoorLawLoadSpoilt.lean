/- Where a byte of a page of one shard is another one that shard is told ErrPage, all others are told, and put right it is told: for every input the law returns true. No condition beside the given row. -/
import Derived.Test.YtkdgpedoeageiaaGreatDoorRows
import Derived.Test.YtkdgpedoeageiaaGreatDoorTie
import Derived.Test.YtkdgpedoeageiaaGreatDoorCards
import Derived.Lay
import Derived.LaidMore
import Derived.SevenTiedAt
import Derived.Stop.Joined
import Derived.Test.YtkdgpedoeageiaaGreatDoorGL
import Derived.Test.YtkdgpedoeageiaaGreatDoorGG
import Derived.Test.YtkdgpedoeageiaaGreatDoorGR
namespace Go.Proofs.YtkdgpedoeageiaaGreatDoor.loadSpoilt
open Go Go.Cz
set_option maxRecDepth 100000
theorem own : ownKnob Tryz.prog.godebug = none := by kernel_rfl
def ads : List (Bool × List Lf) := [(true, [.i .u8, .i .u8, .i .u8]), (false, [.sl [.i .u8, .i .u8]]), (true, [.i .u8, .i .u8, .i .u8, .i .u8])]
theorem lifted (os : Os) (started : os.Started) (HH : Type) (enc : TypeId × Value → HH) :
    ReturnsInHanded {} Tryz.checked os 6 .any (fun w args => (Rows.loadSpoiltSpec.pre enc Tryz.prog Tryz.f6 Rows.loadSpoiltRow.domain false w args ∧ laidMetH Tryz.prog Rows.loadSpoiltRow.laid w) ∧ sizedMet enc Tryz.prog Tryz.f6 (OpenSpec.ofChange Rows.loadSpoiltSpec) false w args) (Rows.loadSpoiltSpec.post enc Tryz.prog Tryz.f6 false true false false) :=
  law_lifted_laid (C := Tryz.checked) (bt := 4) (ads := ads) (X := fun w _ => laidMetH Tryz.prog Rows.loadSpoiltRow.laid w) (fun _ _ _ hh h => h.of_heap hh) S.law13_LoadSpoilt_linked own started (by kernel_rfl) Tryz.func6
    (ChangeSpec.witness_shaped (enc := enc) (C := Tryz.checked) (os := os) (X := fun w _ => laidMetH Tryz.prog Rows.loadSpoiltRow.laid w) false (World.laidAll Tryz.prog os Rows.loadSpoiltRow.laid) #[.agg #[.int .u8 0, .int .u8 0, .int .u8 0], .slice none 0 0, .agg #[.int .u8 0, .int .u8 0, .int .u8 0, .int .u8 0]] 8 (World.laidAll_os _ _ _)
      (World.shaped_of_ZipB (by kernel_rfl) (by kernel_rfl)) (by kernel_rfl) (by kernel_rfl) (by kernel_rfl)
      (by rw [MakeChecks.laidMetH_plain _ _ _ (by kernel_rfl)]; exact laidMet_laidAll _ (by kernel_rfl) (by kernel_rfl)))
    (by kernel_rfl) rfl (fun ds h => by match ds, h with | [_, _, _], _ => rfl) (by kernel_rfl) (by kernel_rfl) (by kernel_rfl) (by kernel_rfl)
    (fun h t _ hr => S.law13_LoadSpoilt_row h t hr)
theorem over : Rows.loadSpoiltRow.holds Tryz.pinned (OpenSpec.ofChange Rows.loadSpoiltSpec) :=
  OpenClaim.holds_of_wide 6 Tryz.f6 rfl rfl rfl rfl rfl rfl rfl ⟨rfl, rfl, rfl, rfl, rfl⟩ rfl rfl rfl rfl rfl (by kernel_rfl) Tryz.func6 (by kernel_rfl)
    (of_decide_eq_true (by kernel_rfl)) (by unfold Func.isWrapper; first | (rw [if_pos (by decide +kernel)]; kernel_rfl) | (rw [if_neg (by decide +kernel)]; exact ⟨rfl, rfl⟩))
    (fun os started H enc _ => lifted os started H enc)
theorem proved : Rows.LoadSpoiltCardSaid :=
  Claim7.holds_tied_plain_at .later [] [.data, .data, .data, .data, .pinned] true (true, "5d21c777b2217a2403c5eca1a0393fc6a56757e7bcbee18871922f110c54e817") false over (fun _ h => by cases h) (by kernel_rfl) (fun _ h => by cases h) loadSpoilt_row_tie rfl ⟨rfl, rfl⟩ (by kernel_rfl) rfl
    (fun f fn hf hfn => by
      obtain rfl : f = 6 := Option.some.inj ((show Tryz.prog.funcNamed "carousel/carousellaw13.LoadSpoilt" = some 6 by kernel_rfl).symm.trans hf) |>.symm
      obtain rfl : fn = Tryz.f6 := (Option.some.inj (Tryz.func6.symm.trans hfn)).symm
      exact ⟨by kernel_rfl, fun j t ht => by
        rw [Tryz.params6] at ht
        have hm : t ∈ [22, 23, 68] := by simpa using Array.mem_of_getElem? ht
        have hall : ([22, 23, 68].all fun u => !Tryz.prog.wantsStandIn u) = true := by kernel_rfl
        exact (show Tryz.prog.wantsStandIn t = false by simpa using List.all_eq_true.1 hall t hm)⟩)
    (by kernel_rfl)
end Go.Proofs.YtkdgpedoeageiaaGreatDoor.loadSpoilt
