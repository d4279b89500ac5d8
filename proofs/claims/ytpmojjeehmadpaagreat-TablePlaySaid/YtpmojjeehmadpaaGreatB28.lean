/- Part of the proof of a law of 28: an engine that runs a function over an abstract heap, and what the functions compute; own work. -/
import Derived.Test.YtpmojjeehmadpaaGreatEng21
import Derived.Test.YtpmojjeehmadpaaGreatD28
import Derived.Test.YtpmojjeehmadpaaGreatO28
import Derived.Test.YtpmojjeehmadpaaGreatSpec1
import Derived.Shelf.SlSortCmp.NoneTotal
import Derived.Test.YtpmojjeehmadpaaGreatProg
set_option linter.unusedVariables false
set_option linter.unusedSimpArgs false
set_option linter.unusedSectionVars false
namespace Go.Cz.S
open Go.Proofs
set_option maxRecDepth 100000
set_option linter.unusedVariables false
abbrev drawnYes : Inhabited DrawnP := ⟨⟨True⟩⟩
theorem cmp_Or_int_linkedT : @Linked drawnYes Tryz.prog ⟨68, [.leaf (.o (.sl))], [.leaf (.o (.i .i64))], cmp_Or_int⟩ := letI := drawnYes; linked_of (fn := Tryz.f68) Tryz.func68 rfl (by kernel_rfl) [] [] [] [(8, ⟨[(8, .leaf (.o (.i .i64)))], []⟩)] allNil (by kernel_rfl) (by kernel_rfl) (by kernel_rfl) (fun t Q => by kernel_rfl)
theorem cmp_isNaN_int_linkedT : @Linked drawnYes Tryz.prog ⟨79, [.leaf (.o (.i .i64))], [.leaf (.o (.b))], cmp_isNaN_int⟩ := letI := drawnYes; linked_of (fn := Tryz.f79) Tryz.func79 rfl (by kernel_rfl) [] [] [] [] allNil (by kernel_rfl) (by kernel_rfl) (by kernel_rfl) (fun t Q => by kernel_rfl)
theorem cmp_Compare_int_eqT (cmp_isNaN_int : (Int) → ((Bool) → HProp) → HProp) : (fun (t : Int × Int) (Q : (Int) → HProp) => interpF ⟨Tryz.prog, [⟨79, [.leaf (.o (.i .i64))], [.leaf (.o (.b))], cmp_isNaN_int⟩], [], []⟩ Tryz.f69 [] [.leaf (.o (.i .i64)), .leaf (.o (.i .i64))] [.leaf (.o (.i .i64))] t Q : (Int × Int) → ((Int) → HProp) → HProp) =
fun (t : Int × Int) (Q : Int → HProp) =>
  cmp_isNaN_int t.fst fun (r : Bool) =>
    cmp_isNaN_int t.snd fun (r_1 : Bool) =>
      iteW r (iteW r_1 (Q 0) (Q (-1)))
        (iteW r_1 (Q 1) (iteW (ltI t.fst t.snd) (Q (-1)) (iteW (ltI t.snd t.fst) (Q 1) (Q 0))))
  := by kernel_rfl
theorem cmp_Compare_int_linkedT : @Linked drawnYes Tryz.prog ⟨69, [.leaf (.o (.i .i64)), .leaf (.o (.i .i64))], [.leaf (.o (.i .i64))], cmp_Compare_int⟩ := letI := drawnYes; linked_of (fn := Tryz.f69) Tryz.func69 rfl (by kernel_rfl) [⟨79, [.leaf (.o (.i .i64))], [.leaf (.o (.b))], cmp_isNaN_int⟩] [] [] [] (allCons cmp_isNaN_int_linkedT allNil) (by kernel_rfl) (by kernel_rfl) (by kernel_rfl) (fun t Q => congrFun (congrFun (cmp_Compare_int_eqT cmp_isNaN_int) t) Q)
theorem edges_by_eqT (cmp_Or_int : (Sl) → ((Int) → HProp) → HProp) (cmp_Compare_int : (Int × Int) → ((Int) → HProp) → HProp) : (fun (t : Int × Int × Int × Int) (Q : (Int) → HProp) => interpF ⟨Tryz.prog, [⟨68, [.leaf (.o (.sl))], [.leaf (.o (.i .i64))], cmp_Or_int⟩, ⟨69, [.leaf (.o (.i .i64)), .leaf (.o (.i .i64))], [.leaf (.o (.i .i64))], cmp_Compare_int⟩], [15], []⟩ Tryz.f77 [] [.agg [.o (.i .i64), .o (.i .i64)], .agg [.o (.i .i64), .o (.i .i64)]] [.leaf (.o (.i .i64))] t Q : (Int × Int × Int × Int) → ((Int) → HProp) → HProp) =
fun (t : Int × Int × Int × Int) (Q : Int → HProp) =>
  cmp_Compare_int (t.fst, t.snd.snd.fst) fun (r : Int) =>
    cmp_Compare_int (t.snd.fst, t.snd.snd.snd) fun (r_1 : Int) =>
      newW [Value.int IntKind.i64 r, Value.int IntKind.i64 r_1] fun (b : Nat) =>
        cmp_Or_int (Sl.mk (some (Addr.mk b 0 none)) 2 2) Q
  := by kernel_rfl
theorem edges_by_linkedT : @Linked drawnYes Tryz.prog ⟨77, [.agg [.o (.i .i64), .o (.i .i64)], .agg [.o (.i .i64), .o (.i .i64)]], [.leaf (.o (.i .i64))], edges_by⟩ := letI := drawnYes; linked_of (fn := Tryz.f77) Tryz.func77 rfl (by kernel_rfl) [⟨68, [.leaf (.o (.sl))], [.leaf (.o (.i .i64))], cmp_Or_int⟩, ⟨69, [.leaf (.o (.i .i64)), .leaf (.o (.i .i64))], [.leaf (.o (.i .i64))], cmp_Compare_int⟩] [15] [] [] (allCons cmp_Or_int_linkedT (allCons cmp_Compare_int_linkedT allNil)) (by kernel_rfl) (by kernel_rfl) (by kernel_rfl) (fun t Q => congrFun (congrFun (edges_by_eqT cmp_Or_int cmp_Compare_int) t) Q)
open Go.Lib Go.Sort Go.Shelf

/-! ## The order of edges -/
def enP (x : Int × Int) : List Value := [.int .i64 x.1, .int .i64 x.2]
def cfP (x y : Int × Int) : Int := if cf1 x.1 y.1 ≠ 0 then cf1 x.1 y.1 else cf1 x.2 y.2
theorem ltOf_cfP (x y : Int × Int) : ltOf cfP x y = ltP x y := by
  unfold ltOf ltP cfP
  have h1 := @cf1_neg x.1 y.1
  have h2 := @cf1_zero x.1 y.1
  have h3 := @cf1_neg x.2 y.2
  congr 1
  apply propext
  split
  · rename_i h; rw [h1]; constructor
    · exact Or.inl
    · rintro (h' | ⟨h', _⟩)
      · exact h'
      · exact absurd (h2.2 h') h
  · rename_i h
    have h : cf1 x.1 y.1 = 0 := by simpa using h
    have h' := h2.1 h
    rw [h3]; constructor
    · exact fun g => .inr ⟨h', g⟩
    · rintro (g | ⟨_, g⟩)
      · omega
      · exact g
theorem ltP_iff {x y : Int × Int} : ltP x y = true ↔ (x.1 < y.1 ∨ x.1 = y.1 ∧ x.2 < y.2) := by simp [ltP]
theorem ltP_false {x y : Int × Int} : ltP x y = false ↔ ¬ (x.1 < y.1 ∨ x.1 = y.1 ∧ x.2 < y.2) := by rw [← ltP_iff]; simp
theorem swoP : SWO (ltOf cfP) where
  irrefl x := by rw [ltOf_cfP, ltP_false]; omega
  trans x y z h1 h2 := by rw [ltOf_cfP, ltP_iff] at *; omega
  ntrans x y z h1 h2 := by rw [ltOf_cfP, ltP_false] at *; omega
theorem totP (x y : Int × Int) (h1 : ltOf cfP x y = false) (h2 : ltOf cfP y x = false) : x = y := by
  rw [ltOf_cfP, ltP_false] at *
  obtain ⟨a, b⟩ := x; obtain ⟨c, d⟩ := y
  simp only [Prod.mk.injEq]; simp only [] at h1 h2; omega

theorem by_spec {x y : Int × Int} {Q : Int → HProp} {h : H} (hQ : ∀ h', Q (cfP x y) h') : edges_by (x.1, x.2, y.1, y.2) Q h := by
  unfold edges_by
  refine cmp_spec (cmp_spec (Obj.new fun b h' o _ _ => or_spec o (hQ h')))

/-! ## The walk of 'by', as an exact world -/
theorem keeps_none {W w' : World} {h' : H} (k : @Keeps drawnYes W (fun _ => none) w' h') : ∃ q os, w' = grow (W.drewN q) os := by
  letI := drawnYes
  refine ⟨w'.drawn - W.drawn, w'.heap.extract W.heap.size w'.heap.size, ?_⟩
  have e : w'.heap = W.heap ++ w'.heap.extract W.heap.size w'.heap.size := by
    apply Array.ext_getElem?
    intro i
    rw [Array.getElem?_append]
    by_cases hi : i < W.heap.size
    · rw [if_pos hi]; exact (k.old i hi (fun c e => by cases e)).2
    · rw [if_neg hi]
      rw [Array.getElem?_extract]
      have := k.size
      by_cases h2 : i < w'.heap.size
      · rw [if_pos (by omega)]; congr 1; omega
      · rw [if_neg (by omega)]; exact Array.getElem?_eq_none (by omega)
  have e1 := k.os; have e2 := k.tape; have e3 := k.output; have e4 := k.drawn trivial
  simp only [grow, World.drewN]
  obtain ⟨hp, tp, dr, os, ou⟩ := w'
  obtain ⟨hp', tp', dr', os', ou'⟩ := W
  simp only at e e1 e2 e3 e4
  subst e1; subst e2; subst e3
  simp only [World.mk.injEq, and_true, true_and]
  exact ⟨e, by omega⟩
theorem hpart_none {P : Program} {w : World} : Hpart P w (fun _ => none) := ⟨fun b c wr h => by cases h⟩
abbrev byE : Entry := ⟨77, [.agg [.o (.i .i64), .o (.i .i64)], .agg [.o (.i .i64), .o (.i .i64)]], [.leaf (.o (.i .i64))], edges_by⟩
theorem by_calls (x y : Int × Int) (W : World) :
    Calls Tryz.prog 77 #[.agg (enP x).toArray, .agg (enP y).toArray] W fun e w' => e = .returned (.int .i64 (cfP x y)) ∧ ∃ q os', w' = grow (W.drewN q) os' := by
  letI := drawnYes
  have h := edges_by_linkedT.2 (x.1, x.2, y.1, y.2) [.agg (enP x).toArray, .agg (enP y).toArray] (fun r _ => r = cfP x y) (fun _ => none) W
    (by simp [byE, tysOf, Sh.tys, unpackL, shape, SV.of, SV.of0, relL, rel, enP]; exact ⟨_, _, ⟨rfl, rfl⟩, ⟨_, rfl, rfl⟩, _, rfl, _, rfl, rfl⟩) hpart_none (by_spec fun _ => rfl)
  refine h.mono ?_
  rintro e w' ⟨r, v, h', rfl, hr, rfl, _, k⟩
  simp [byE, tysOf, Sh.tys, unpackL, shape, SV.of, SV.of0, retSV, rel] at hr
  subst hr
  exact ⟨rfl, keeps_none k⟩

end Go.Cz.S
