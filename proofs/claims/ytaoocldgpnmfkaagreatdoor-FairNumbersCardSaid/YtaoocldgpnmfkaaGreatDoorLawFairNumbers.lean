/- Within how many shards, and steps, any job and any jobs are done is the document's, and the list stays: for every input the law returns true. No condition beside the given row. -/
import Derived.Test.YtaoocldgpnmfkaaGreatDoorRows
import Derived.Test.YtaoocldgpnmfkaaGreatDoorTie
import Derived.Test.YtaoocldgpnmfkaaGreatDoorCards
import Derived.Lay
import Derived.LaidMore
import Derived.SevenTiedAt
import Derived.Stop.Joined
import Derived.Test.YtaoocldgpnmfkaaGreatDoorLawFairNumbersA
import Derived.Test.YtaoocldgpnmfkaaGreatDoorGL
import Derived.Test.YtaoocldgpnmfkaaGreatDoorGG
import Derived.Test.YtaoocldgpnmfkaaGreatDoorGR
namespace Go.Proofs.YtaoocldgpnmfkaaGreatDoor.fairNumbers
open Go Go.Cz
set_option maxRecDepth 100000
theorem own : ownKnob Tryz.prog.godebug = none := by kernel_rfl
def ads : List (Bool × List Lf) := [(true, [.i .i64, .i .i64, .i .i64, .i .i64]), (false, [.sl [.i .i64, .i .i64, .i .i64, .i .i64]]), (true, [.i .i64, .i .i64])]
theorem lifted (os : Os) (started : os.Started) (HH : Type) (enc : TypeId × Value → HH) :
    ReturnsInHanded {} Tryz.checked os 3 .any (fun w args => (Rows.fairNumbersSpec.pre enc Tryz.prog Tryz.f3 Rows.fairNumbersRow.domain false w args ∧ laidMetH Tryz.prog Rows.fairNumbersRow.laid w) ∧ sizedMet enc Tryz.prog Tryz.f3 (OpenSpec.ofChange Rows.fairNumbersSpec) false w args) (Rows.fairNumbersSpec.post enc Tryz.prog Tryz.f3 false true false false) :=
  law_lifted_laid (C := Tryz.checked) (bt := 4) (ads := ads) (X := fun w _ => laidMetH Tryz.prog Rows.fairNumbersRow.laid w) (fun _ _ _ hh h => h.of_heap hh) S.law29_FairNumbers_linked own started (by kernel_rfl) Tryz.func3
    (ChangeSpec.witness_shaped (enc := enc) (C := Tryz.checked) (os := os) (X := fun w _ => laidMetH Tryz.prog Rows.fairNumbersRow.laid w) false (World.laidAll Tryz.prog os Rows.fairNumbersRow.laid) #[.agg #[.int .i64 0, .int .i64 0, .int .i64 0, .int .i64 0], .slice none 0 0, .agg #[.int .i64 0, .int .i64 0]] 8 (World.laidAll_os _ _ _)
      (World.shaped_of_ZipB (by kernel_rfl) (by kernel_rfl)) (by kernel_rfl) (by kernel_rfl) (by kernel_rfl)
      (by rw [MakeChecks.laidMetH_plain _ _ _ (by kernel_rfl)]; exact laidMet_laidAll _ (by kernel_rfl) (by kernel_rfl)))
    (by kernel_rfl) rfl (fun ds h => by match ds, h with | [_, _, _], _ => rfl) (by kernel_rfl) (by kernel_rfl) (by kernel_rfl) (by kernel_rfl)
    (fun h t _ hr => S.law29_FairNumbers_row h t hr)
theorem over : Rows.fairNumbersRow.holds Tryz.pinned (OpenSpec.ofChange Rows.fairNumbersSpec) :=
  OpenClaim.holds_of_wide 3 Tryz.f3 rfl rfl rfl rfl rfl rfl rfl ⟨rfl, rfl, rfl, rfl, rfl⟩ rfl rfl rfl rfl rfl named Tryz.func3 closed
    (of_decide_eq_true (by kernel_rfl)) (by unfold Func.isWrapper; first | (rw [if_pos (by decide +kernel)]; kernel_rfl) | (rw [if_neg (by decide +kernel)]; exact ⟨rfl, rfl⟩))
    (fun os started H enc _ => lifted os started H enc)
theorem proved : Rows.FairNumbersCardSaid :=
  Claim7.holds_tied_plain_at .later [] [.data, .data, .data, .data, .pinned] true (true, "244bcb5844dfc9b11373d16bd5173a3670e4b9e00692baf9eb4f5ed14a5cb472") false over (fun _ h => by cases h) (by kernel_rfl) (fun _ h => by cases h) fairNumbers_row_tie rfl ⟨rfl, rfl⟩ (by kernel_rfl) rfl
    (fun f fn hf hfn => by
      obtain rfl : f = 3 := Option.some.inj ((show Tryz.prog.funcNamed "carousel/carousellaw29.FairNumbers" = some 3 from named).symm.trans hf) |>.symm
      obtain rfl : fn = Tryz.f3 := (Option.some.inj (Tryz.func3.symm.trans hfn)).symm
      exact ⟨by kernel_rfl, fun j t ht => by
        rw [Tryz.params3] at ht
        have hm : t ∈ [23, 24, 25] := by simpa using Array.mem_of_getElem? ht
        have hall : ([23, 24, 25].all fun u => !Tryz.prog.wantsStandIn u) = true := by kernel_rfl
        exact (show Tryz.prog.wantsStandIn t = false by simpa using List.all_eq_true.1 hall t hm)⟩)
    (by kernel_rfl)
end Go.Proofs.YtaoocldgpnmfkaaGreatDoor.fairNumbers
