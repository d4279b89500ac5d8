/- Of a cache that is none no shard is loaded, and no page is told: for every graph and every shard number the law returns true, and its arguments read as before. No condition beside the given row. -/
import Derived.Test.YtmnbpidpcjnfiaaGreatDoorRows
import Derived.Test.YtmnbpidpcjnfiaaGreatDoorTie
import Derived.Test.YtmnbpidpcjnfiaaGreatDoorCards
import Derived.Lay
import Derived.LaidMore
import Derived.SevenTiedAt
import Derived.Stop.Joined
import Derived.Test.YtmnbpidpcjnfiaaGreatDoorGL
import Derived.Test.YtmnbpidpcjnfiaaGreatDoorGG
import Derived.Test.YtmnbpidpcjnfiaaGreatDoorGR
namespace Go.Proofs.YtmnbpidpcjnfiaaGreatDoor.loadNone
open Go Go.Cz
set_option maxRecDepth 100000
theorem own : ownKnob Tryz.prog.godebug = none := by kernel_rfl
def ads : List (Bool × List Lf) := [(true, [.i .i64, .i .i64, .sl [.i .i64, .i .i64]]), (false, [.i .i64])]
theorem lifted (os : Os) (started : os.Started) (HH : Type) (enc : TypeId × Value → HH) :
    ReturnsInHanded {} Tryz.checked os 3 .any (fun w args => (Rows.loadNoneSpec.pre enc Tryz.prog Tryz.f3 Rows.loadNoneRow.domain false w args ∧ laidMetH Tryz.prog Rows.loadNoneRow.laid w) ∧ sizedMet enc Tryz.prog Tryz.f3 (OpenSpec.ofChange Rows.loadNoneSpec) false w args) (Rows.loadNoneSpec.post enc Tryz.prog Tryz.f3 false true false false) :=
  law_lifted_laid (C := Tryz.checked) (bt := 4) (ads := ads) (X := fun w _ => laidMetH Tryz.prog Rows.loadNoneRow.laid w) (fun _ _ _ hh h => h.of_heap hh) S.law13_LoadNone_linked own started (by kernel_rfl) Tryz.func3
    (ChangeSpec.witness_shaped (enc := enc) (C := Tryz.checked) (os := os) (X := fun w _ => laidMetH Tryz.prog Rows.loadNoneRow.laid w) false (World.laidAll Tryz.prog os Rows.loadNoneRow.laid) #[.agg #[.int .i64 0, .int .i64 0, .slice none 0 0], .int .i64 0] 8 (World.laidAll_os _ _ _)
      (World.shaped_of_ZipB (by kernel_rfl) (by kernel_rfl)) (by kernel_rfl) (by kernel_rfl) (by kernel_rfl)
      (by rw [MakeChecks.laidMetH_plain _ _ _ (by kernel_rfl)]; exact laidMet_laidAll _ (by kernel_rfl) (by kernel_rfl)))
    (by kernel_rfl) rfl (fun ds h => by match ds, h with | [_, _], _ => rfl) (by kernel_rfl) (by kernel_rfl) (by kernel_rfl) (by kernel_rfl)
    (fun h t _ hr => S.law13_LoadNone_row h t hr)
theorem over : Rows.loadNoneRow.holds Tryz.pinned (OpenSpec.ofChange Rows.loadNoneSpec) :=
  OpenClaim.holds_of_wide 3 Tryz.f3 rfl rfl rfl rfl rfl rfl rfl ⟨rfl, rfl, rfl, rfl, rfl⟩ rfl rfl rfl rfl rfl (by kernel_rfl) Tryz.func3 (by kernel_rfl)
    (of_decide_eq_true (by kernel_rfl)) (by unfold Func.isWrapper; first | (rw [if_pos (by decide +kernel)]; kernel_rfl) | (rw [if_neg (by decide +kernel)]; exact ⟨rfl, rfl⟩))
    (fun os started H enc _ => lifted os started H enc)
theorem proved : Rows.LoadNoneCardSaid :=
  Claim7.holds_tied_plain_at .later [] [.data, .data, .data, .data, .pinned] true (true, "f45411291e108537863042365e36f63aaa18bf24a23d2e09383be4eef70827f2") false over (fun _ h => by cases h) (by kernel_rfl) (fun _ h => by cases h) loadNone_row_tie rfl ⟨rfl, rfl⟩ (by kernel_rfl) rfl
    (fun f fn hf hfn => by
      obtain rfl : f = 3 := Option.some.inj ((show Tryz.prog.funcNamed "carousel/carousellaw13.LoadNone" = some 3 by kernel_rfl).symm.trans hf) |>.symm
      obtain rfl : fn = Tryz.f3 := (Option.some.inj (Tryz.func3.symm.trans hfn)).symm
      exact ⟨by kernel_rfl, fun j t ht => by
        rw [Tryz.params3] at ht
        have hm : t ∈ [24, 3] := by simpa using Array.mem_of_getElem? ht
        have hall : ([24, 3].all fun u => !Tryz.prog.wantsStandIn u) = true := by kernel_rfl
        exact (show Tryz.prog.wantsStandIn t = false by simpa using List.all_eq_true.1 hall t hm)⟩)
    (by kernel_rfl)
end Go.Proofs.YtmnbpidpcjnfiaaGreatDoor.loadNone
