/- A shard whose place another graph gives to other vertices is told ErrShard, one whose file is gone ErrNone: for every input the law returns true, and its arguments read as before. No condition beside the given row. -/
import Derived.Test.YtmnbpidpcjnfiaaGreatDoorRows
import Derived.Test.YtmnbpidpcjnfiaaGreatDoorTie
import Derived.Test.YtmnbpidpcjnfiaaGreatDoorCards
import Derived.Lay
import Derived.LaidMore
import Derived.SevenTiedAt
import Derived.Stop.Joined
import Derived.Test.YtmnbpidpcjnfiaaGreatDoorGL
import Derived.Test.YtmnbpidpcjnfiaaGreatDoorGG
import Derived.Test.YtmnbpidpcjnfiaaGreatDoorGR
namespace Go.Proofs.YtmnbpidpcjnfiaaGreatDoor.loadOther
open Go Go.Cz
set_option maxRecDepth 100000
theorem own : ownKnob Tryz.prog.godebug = none := by kernel_rfl
def ads : List (Bool × List Lf) := [(true, [.i .u8, .i .u8, .i .u8]), (false, [.sl [.i .u8, .i .u8]]), (false, [.i .u8])]
theorem lifted (os : Os) (started : os.Started) (HH : Type) (enc : TypeId × Value → HH) :
    ReturnsInHanded {} Tryz.checked os 4 .any (fun w args => (Rows.loadOtherSpec.pre enc Tryz.prog Tryz.f4 Rows.loadOtherRow.domain false w args ∧ laidMetH Tryz.prog Rows.loadOtherRow.laid w) ∧ sizedMet enc Tryz.prog Tryz.f4 (OpenSpec.ofChange Rows.loadOtherSpec) false w args) (Rows.loadOtherSpec.post enc Tryz.prog Tryz.f4 false true false false) :=
  law_lifted_laid (C := Tryz.checked) (bt := 4) (ads := ads) (X := fun w _ => laidMetH Tryz.prog Rows.loadOtherRow.laid w) (fun _ _ _ hh h => h.of_heap hh) S.law13_LoadOther_linked own started (by kernel_rfl) Tryz.func4
    (ChangeSpec.witness_shaped (enc := enc) (C := Tryz.checked) (os := os) (X := fun w _ => laidMetH Tryz.prog Rows.loadOtherRow.laid w) false (World.laidAll Tryz.prog os Rows.loadOtherRow.laid) #[.agg #[.int .u8 0, .int .u8 0, .int .u8 0], .slice none 0 0, .int .u8 0] 8 (World.laidAll_os _ _ _)
      (World.shaped_of_ZipB (by kernel_rfl) (by kernel_rfl)) (by kernel_rfl) (by kernel_rfl) (by kernel_rfl)
      (by rw [MakeChecks.laidMetH_plain _ _ _ (by kernel_rfl)]; exact laidMet_laidAll _ (by kernel_rfl) (by kernel_rfl)))
    (by kernel_rfl) rfl (fun ds h => by match ds, h with | [_, _, _], _ => rfl) (by kernel_rfl) (by kernel_rfl) (by kernel_rfl) (by kernel_rfl)
    (fun h t _ hr => S.law13_LoadOther_row h t hr)
theorem over : Rows.loadOtherRow.holds Tryz.pinned (OpenSpec.ofChange Rows.loadOtherSpec) :=
  OpenClaim.holds_of_wide 4 Tryz.f4 rfl rfl rfl rfl rfl rfl rfl ⟨rfl, rfl, rfl, rfl, rfl⟩ rfl rfl rfl rfl rfl (by kernel_rfl) Tryz.func4 (by kernel_rfl)
    (of_decide_eq_true (by kernel_rfl)) (by unfold Func.isWrapper; first | (rw [if_pos (by decide +kernel)]; kernel_rfl) | (rw [if_neg (by decide +kernel)]; exact ⟨rfl, rfl⟩))
    (fun os started H enc _ => lifted os started H enc)
theorem proved : Rows.LoadOtherCardSaid :=
  Claim7.holds_tied_plain_at .later [] [.data, .data, .data, .data, .pinned] true (true, "f45411291e108537863042365e36f63aaa18bf24a23d2e09383be4eef70827f2") false over (fun _ h => by cases h) (by kernel_rfl) (fun _ h => by cases h) loadOther_row_tie rfl ⟨rfl, rfl⟩ (by kernel_rfl) rfl
    (fun f fn hf hfn => by
      obtain rfl : f = 4 := Option.some.inj ((show Tryz.prog.funcNamed "carousel/carousellaw13.LoadOther" = some 4 by kernel_rfl).symm.trans hf) |>.symm
      obtain rfl : fn = Tryz.f4 := (Option.some.inj (Tryz.func4.symm.trans hfn)).symm
      exact ⟨by kernel_rfl, fun j t ht => by
        rw [Tryz.params4] at ht
        have hm : t ∈ [47, 48, 5] := by simpa using Array.mem_of_getElem? ht
        have hall : ([47, 48, 5].all fun u => !Tryz.prog.wantsStandIn u) = true := by kernel_rfl
        exact (show Tryz.prog.wantsStandIn t = false by simpa using List.all_eq_true.1 hall t hm)⟩)
    (by kernel_rfl)
end Go.Proofs.YtmnbpidpcjnfiaaGreatDoor.loadOther
