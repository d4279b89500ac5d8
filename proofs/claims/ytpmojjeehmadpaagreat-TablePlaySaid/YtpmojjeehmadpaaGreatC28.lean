/- Part of the proof of a law of 28: an engine that runs a function over an abstract heap, and what the functions compute; own work. -/
import Derived.RangeFuncNested
import Derived.RangeFuncLeaves
import Derived.Shelf.Abstract
import Derived.WalkKit
import Derived.OwnWalkIn
import Derived.TacticsInMore
import Derived.LoopNIn
import Derived.LoopIn
import Derived.Test.YtpmojjeehmadpaaGreatCS28
import Derived.RangeFuncBox
import Derived.Test.YtpmojjeehmadpaaGreatProg
set_option linter.unusedVariables false
set_option linter.unusedSimpArgs false
set_option linter.unusedSectionVars false
namespace Go.Cz.S
open Go.RowKit Go.Shelf Go.Proofs

attribute [local go_sem] Oper.semAt_some

/-- an element: two cells -/
def en2 (x : Int × Int) : Value := .agg #[.int .i64 x.1, .int .i64 x.2]
def upto {α : Type} (f : Nat → α) (k : Nat) : List α := (List.range k).map f
theorem upto_succ {α : Type} (f : Nat → α) (k : Nat) : upto f (k + 1) = upto f k ++ [f k] := by simp [upto, List.range_succ]
theorem upto_length {α : Type} (f : Nat → α) (k : Nat) : (upto f k).length = k := by simp [upto]

set_option maxRecDepth 100000 in
set_option maxHeartbeats 2000000 in
theorem values1_in (F : Fence) (n : Nat) (h7 : F.fn 83) (hro : F.round = none) (hn : 1 ≤ n) (l : Nat) (Bx : Addr) (n₀ b off len cap : Nat) (f : Nat → Int × Int) (hreach : len * 16 ≤ 140737488351232) (hb : b < n₀) (J Jx : List (Int × Int) → World → Prop)
    (hY : ∀ pre x W, J pre W → pre.length < len → YieldAt F (n - 1) Tryz.prog l #[en2 x] W fun e W' =>
      (e = .returned (.bool true) ∧ J (pre ++ [x]) W' ∧ Below n₀ W W') ∨ (e = .returned (.bool false) ∧ Jx (pre ++ [x]) W'))
    (W : World) (hn₀ : n₀ ≤ W.heap.size) (hJ : AbidesFrom W.heap.size J)
    (hBs : W.cell? Bx = some (.slice (some ⟨b, off, none⟩) len cap)) (hc : ∀ j, j < len → W.cell? ⟨b, off + j * 2, none⟩ = some (.int .i64 (f j).1) ∧ W.cell? ⟨b, off + j * 2 + 1, none⟩ = some (.int .i64 (f j).2)) (h0 : J [] W) :
    CallsIn F n Tryz.prog 83 #[.func (.yield l) #[] #[], .pointer (some Bx)] W fun e W' => (∃ v, e = .returned v) ∧
      ((∃ ys, ys = upto f len ∧ J ys W') ∨ (∃ pre, (∃ k, k ≤ len ∧ pre = upto f k) ∧ Jx pre W')) := by
  refine callsIn_of_wp Tryz.func83 rfl h7 ?_ hro
  simp only [Tryz.ntmps83, List.size_toArray, List.length_cons, List.length_nil, Nat.reduceAdd, Nat.reduceSub, Array.replicate_succ, Array.replicate_zero, List.push_toArray, List.append_toArray, List.nil_append, List.cons_append]
  gi_wp2
  gi_loopw [7] (fun i wr => ∃ k : Nat, k ≤ len ∧ i = .int .i64 k ∧ J (upto f k) wr ∧ Below n₀ W wr)
    (fun i _ => len - (Go.RowKit.intOf i).toNat)
  case atStart => exact ⟨0, Nat.zero_le _, rfl, h0, Below.refl _ _⟩
  case round =>
    obtain ⟨k, hk, rfl, hJs, hnx⟩ := hrel
    have hcx : k < len → wr.cell? ⟨b, off + k * 2, none⟩ = some (.int .i64 (f k).1) ∧ wr.cell? ⟨b, off + k * 2 + 1, none⟩ = some (.int .i64 (f k).2) := fun h => ⟨(hnx.cell (p := ⟨b, _, none⟩) hb).trans (hc k h).1, (hnx.cell (p := ⟨b, _, none⟩) hb).trans (hc k h).2⟩
    by_cases hlt : k < len
    · obtain ⟨hc1, hc2⟩ := hcx hlt
      have hJ1 : ∀ o, J (upto f k) (wr.alloc o) := fun o => hJ _ _ _ none hJs (World.grownBy_alloc wr o none) (fun r e => by cases e)
      obtain ⟨fn, tmps, assign, body, hy, hR⟩ := hY _ (f k) (wr.alloc (.cells #[.int .i64 (f k).1, .int .i64 (f k).2] 72)) (hJ1 _) (by rw [upto_length]; exact hlt)
      have hn1 := hnx.alloc (Nat.le_trans hn₀ hnx.size) (.cells #[.int .i64 (f k).1, .int .i64 (f k).2] 72)
      unfold en2 at hy
      gi_wp2
      refine hR.mono ?_
      rintro e W3 (⟨rfl, hJ3, hk3⟩ | ⟨rfl, hJx3⟩)
      · gi_wp2
        go_roundw
        case rel => exact ⟨k + 1, by omega, by simp, by rw [upto_succ]; exact hJ3, hn1.trans hk3⟩
        case measure => simp [Go.RowKit.intOf]; omega
      · gi_wp2
        refine bodyPost_ret (results_none rfl _ _ _) rfl ?_
        exact ⟨⟨_, rfl⟩, .inr ⟨_, ⟨k + 1, by omega, (upto_succ _ _).symm⟩, hJx3⟩⟩
    · obtain rfl : k = len := by omega
      gi_wp2
      go_end0
      exact ⟨⟨_, rfl⟩, .inl ⟨_, rfl, hJs⟩⟩

set_option maxRecDepth 100000 in
set_option maxHeartbeats 1000000 in
/-- .. of no element: no round. -/
theorem values1_nil_in (F : Fence) (n : Nat) (h7 : F.fn 83) (hro : F.round = none) (l : Nat) (Bx : Addr) (a : Option Addr) (cap : Nat) (J : List (Int × Int) → World → Prop) (W : World) (hBs : W.cell? Bx = some (.slice a 0 cap)) (h0 : J [] W) :
    CallsIn F n Tryz.prog 83 #[.func (.yield l) #[] #[], .pointer (some Bx)] W fun e W' => (∃ v, e = .returned v) ∧ J [] W' := by
  refine callsIn_of_wp Tryz.func83 rfl h7 ?_ hro
  simp only [Tryz.ntmps83, List.size_toArray, List.length_cons, List.length_nil, Nat.reduceAdd, Nat.reduceSub, Array.replicate_succ, Array.replicate_zero, List.push_toArray, List.append_toArray, List.nil_append, List.cons_append]
  gi_wp2
  gi_loopw [7] (fun i wr => i = .int .i64 0 ∧ J [] wr) (fun _ _ => 0)
  case atStart => exact ⟨rfl, h0⟩
  case round =>
    obtain ⟨rfl, hJs⟩ := hrel
    gi_wp2
    go_end0
    exact ⟨⟨_, rfl⟩, hJs⟩

theorem upto_all (l : List (Int × Int)) : upto (fun i => l[i]!) l.length = l := by
  apply List.ext_getElem?
  intro i
  unfold upto
  by_cases hi : i < l.length
  · rw [List.getElem?_map, List.getElem?_range hi, Option.map_some, List.getElem?_eq_getElem hi, getElem!_pos l i hi]
  · rw [List.getElem?_eq_none (by simp; omega), List.getElem?_eq_none (by omega)]

/-- what the caller knows of the slice that is walked -/
structure At (w : World) (Bx : Addr) (a : Option Addr) (cap : Nat) (l : List (Int × Int)) : Prop where
  box : w.cell? Bx = some (.slice a l.length cap)
  old : Bx.block < w.heap.size
  cells : l ≠ [] → ∃ b off, a = some ⟨b, off, none⟩ ∧ b < w.heap.size ∧ ∀ j, j < l.length → w.cell? ⟨b, off + j * 2, none⟩ = some (.int .i64 (l[j]!).1) ∧ w.cell? ⟨b, off + j * 2 + 1, none⟩ = some (.int .i64 (l[j]!).2)

theorem values_stops (F : Fence) (n : Nat) (h7 : F.fn 83) (hro : F.round = none) (hn : 1 ≤ n) (Bx : Addr) (a : Option Addr) (cap : Nat) (l : List (Int × Int)) (hreach : l.length * 16 ≤ 140737488351232) (w : World) (A : At w Bx a cap l) :
    SeqStopsK F n Tryz.prog 83 #[.pointer (some Bx)] (fun x : Int × Int => #[en2 x]) (Below w.heap.size) (fun ys => ys = l) (fun _ => True) l.length w := fun k J Jx W hW hJ _ hY h0 => by
  have hc' := (hW.cell (p := Bx) A.old).trans A.box
  by_cases e : l = []
  · subst e
    exact (values1_nil_in F n h7 hro k Bx a cap J W hc' h0).mono fun e W' ⟨he, hj⟩ => ⟨he, .inl ⟨_, rfl, hj⟩⟩
  · obtain ⟨b, off, rfl, hb, hcs⟩ := A.cells e
    refine (values1_in F n h7 hro hn k Bx w.heap.size b off l.length cap (fun i => l[i]!) hreach hb J Jx hY W hW.size hJ hc' (fun j hj => ⟨(hW.cell (p := ⟨b, _, none⟩) hb).trans (hcs j hj).1, (hW.cell (p := ⟨b, _, none⟩) hb).trans (hcs j hj).2⟩) h0).mono ?_
    rintro e W' ⟨he, ⟨ys, rfl, hj⟩ | ⟨pre, _, hj⟩⟩
    · exact ⟨he, .inl ⟨_, upto_all l, hj⟩⟩
    · exact ⟨he, .inr ⟨_, trivial, hj⟩⟩

/-! ## slices.AppendSeq -/
theorem flat2_append (l m : List (Int × Int)) : flat2 (l ++ m) = flat2 l ++ flat2 m := by
  induction l with
  | nil => rfl
  | cons x r ih => simp [flat2, ih]
theorem info72 : (Tryz.prog.info? 72).map (fun i => (i.zero, i.size, i.bytes)) = some (some (.agg #[.int .i64 0, .int .i64 0]), 2, 16) := by kernel_rfl
/-- what lies in cells lies on -/
theorem cells_own (B : Nat) (c : Array Value) (T : TypeId) : Own (fun (_ : Unit) W => W.heap[B]? = some (.cells c T (0, 0))) := fun _ X Y row h hg hr => by
  refine (hg.block B (Array.getElem?_eq_some_iff.1 h).1 (fun e => ?_)).trans h
  obtain ⟨o, ho, hc⟩ := hr B e.symm
  rw [h] at ho; cases ho; cases hc

set_option maxRecDepth 100000 in
set_option maxHeartbeats 4000000 in
theorem appendSeq_in (F : Fence) (n : Nat) (h70 : F.fn 83) (h72 : F.fn 85) (hro : F.round = none) (hn : 4 ≤ n) (Bx : Addr) (a : Option Addr) (cap : Nat) (l : List (Int × Int)) (hreach : l.length * 16 ≤ 140737488351232) (w : World) (A : At w Bx a cap l) :
    CallsIn F n Tryz.prog 85 #[.slice none 0 0, .func (.func 83) #[] #[.pointer (some Bx)]] w fun e w' => ∃ v : Value, e = .returned v ∧ w'.ownsRow w.heap.size 72 2 v l.length (flat2 l) ∧ (v = .slice none 0 0 ↔ l = []) ∧ Below w.heap.size w w' := by
  have h1 : 1 ≤ n := by omega
  obtain ⟨i0, hi, hz0, hz1, hz2⟩ := info_parts info72
  refine callsIn_of_wp_marks Tryz.func85 rfl h72 ?_ hro
  simp only [Tryz.ntmps85, List.size_toArray, List.length_cons, List.length_nil, Nat.reduceAdd, Nat.reduceSub, Array.replicate_succ, Array.replicate_zero, List.push_toArray, List.append_toArray, List.nil_append, List.cons_append]
  gi_wp2
  have bS := Boxed.new w 33 (.slice none 0 0)
  have hB0 : Below w.heap.size w (w.alloc (.cells #[.slice none 0 0] 33)) := (Below.refl _ w).alloc (Nat.le_refl _) _
  have hsz : (w.alloc (.cells #[.slice none 0 0] 33)).heap.size = w.heap.size + 1 := by simp
  obtain ⟨W0, hW0⟩ : ∃ W0, w.alloc (.cells #[.slice none 0 0] 33) = W0 := ⟨_, rfl⟩
  rw [hW0] at bS hB0 hsz ⊢
  clear hW0
  refine wpIn_rangeFunc_ownH hro h1 (gf := 83) (lb := #[.pointer (some Bx)]) rfl h70 (enters_of Tryz.func83 (by kernel_rfl) rfl)
    (values_stops F (n - 1) h70 hro (by omega) Bx a cap l hreach w A) belowK_t (belowK_b (by omega)) hB0 (fun _ => rfl)
    (fun pre W => (∃ v, Boxed W w.heap.size 33 v ∧ W.ownsRow w.heap.size 72 2 v pre.length (flat2 pre) ∧ (v = .slice none 0 0 ↔ pre = [])) ∧ Below w.heap.size w W)
    (fun _ _ _ => False)
    (OwnFrom.and (Own.from (holdsRow_own w.heap.size w.heap.size 33 72 2 (fun pre : List (Int × Int) => pre.length) (fun pre => flat2 pre) (fun pre v => v = .slice none 0 0 ↔ pre = [])) _) (ownFrom_below (Nat.le_refl _) (by omega)))
    (fun _ _ _ _ _ hs _ _ => hs)
    ⟨⟨_, bS, ⟨rfl, .inl ⟨rfl, rfl⟩⟩, by simp⟩, hB0⟩
    (fun x a' W => ∃ By, w.heap.size < By ∧ W.heap[By]? = some (.cells #[.int .i64 x.1, .int .i64 x.2] 72 (0, 0)) ∧ a' = { tmps := #[.slice none 0 0, .func (.func 83) #[] #[.pointer (some Bx)], .pointer (some ⟨w.heap.size, 0, none⟩), undef, .slice none 0 0, .pointer (some ⟨By, 0, none⟩), .func (.func 83) #[] #[.pointer (some Bx)], en2 x, undef, undef, undef, undef, undef], defers := [] })
    (fun x a' _ X Y row hs hg hr => by obtain ⟨By, h1, h2, h3⟩ := hs; exact ⟨By, h1, cells_own By _ 72 () X Y row h2 hg (fun r e => (hr r e).2), h3⟩)
    ?assign ?body ?done ?stop
  case assign =>
    rintro k pre x W K ⟨⟨v, bv, hrow, hv⟩, hB⟩ hK
    unfold en2 at *
    gi_wp2
    exact hK _ _ ((KeepsOthers.alloc _ _).from _) ((Below.refl _ W).alloc hB.size _) ⟨⟨v, bv.alloc _, hrow.alloc _, hv⟩, hB.alloc hB.size _⟩ ⟨W.heap.size, bv.lt, World.alloc_heap_new W _, rfl⟩
  case body =>
    rintro k pre x a' W hk ⟨r, hr⟩ ⟨⟨v, bv, hrow, hv⟩, hB⟩ ⟨By, hBy, hby, rfl⟩ hlt
    have cS := bv.cell
    have c0 : W.cell? ⟨By, 0, none⟩ = some (.int .i64 x.1) := by simp [World.cell?, hby]
    have c1 : W.cell? ⟨By, 1, none⟩ = some (.int .i64 x.2) := by simp [World.cell?, hby]
    have hBs := hB.size
    gi_wp2_with (gi_at_builtin; refine wpListIn_append_own _ rfl _ _ 33 rfl w.heap.size 72 i0 (.agg #[.int .i64 0, .int .i64 0]) 2 16 Tryz.underlying33 hi hz0 hz1 hz2 rfl (by decide) _ _ _ rfl (hrow.alloc _) ⟨W.heap.size, 0, none⟩ 1 1 [.int .i64 x.1, .int .i64 x.2] rfl rfl ?cells (by simp [Value.oneCell']) (by simp [maxLen] at *; omega) (by omega) (by simp; omega) ?next)
    case cells =>
      have hn := World.alloc_heap_new W (.cells #[.int .i64 x.1, .int .i64 x.2] 72)
      have g0 : (W.alloc (.cells #[.int .i64 x.1, .int .i64 x.2] 72)).cell? ⟨W.heap.size, 0, none⟩ = some (.int .i64 x.1) := by unfold World.cell?; simp only []; rw [hn]; rfl
      have g1 : (W.alloc (.cells #[.int .i64 x.1, .int .i64 x.2] 72)).cell? ⟨W.heap.size, 1, none⟩ = some (.int .i64 x.2) := by unfold World.cell?; simp only []; rw [hn]; rfl
      rintro (_ | _ | j) u hu
      · simp at hu; subst hu; exact g0
      · simp at hu; subst hu; exact g1
      · simp at hu
    case next =>
      intro v' w3 hown' hg3 hnil3
      obtain ⟨hb1, hb2, hb3, hb4, hb5⟩ := bv.appended (by decide) hrow hB.size (Nat.le_refl _) hown' hg3
      obtain ⟨g', cap', rfl⟩ := ownsRow_succ hown'
      have c3 := hb1.cell
      have f3 := hb1.frozen
      clear hnil3
      gi_wp2
      exact ⟨hb4.from _, hb5, ⟨_, hb2, by rw [flat2_append, List.length_append]; exact hb3, by simp⟩, hB.trans hb5⟩
  case done =>
    rintro D zs W hD rfl ⟨⟨v, bv, hrow, hv⟩, hB⟩ hK
    have cS := bv.cell
    gi_wp2
    refine ⟨by simp, .inl ⟨_, _, rfl, run_takeDeferred hK, ?_⟩⟩
    exact ⟨_, results_tmp rfl _ _ _, v, rfl, ownsRow_putObj hrow _ hK rfl, hv, hB.trans (belowK_b (w := w) (Nat.le_refl _) W D _ _ (by omega) hK rfl rfl)⟩
  case stop =>
    rintro D c pre W _ _ h _
    exact h.elim

set_option maxRecDepth 100000 in
set_option maxHeartbeats 1000000 in
theorem collect_in (F : Fence) (n : Nat) (h68 : F.fn 81) (h70 : F.fn 83) (h72 : F.fn 85) (hro : F.round = none) (hn : 5 ≤ n) (Bx : Addr) (a : Option Addr) (cap : Nat) (l : List (Int × Int)) (hreach : l.length * 16 ≤ 140737488351232) (w : World) (A : At w Bx a cap l) :
    CallsIn F n Tryz.prog 81 #[.func (.func 83) #[] #[.pointer (some Bx)]] w fun e w' => ∃ v : Value, e = .returned v ∧ w'.ownsRow w.heap.size 72 2 v l.length (flat2 l) ∧ (v = .slice none 0 0 ↔ l = []) ∧ Below w.heap.size w w' := by
  have h1 : 1 ≤ n := by omega
  refine callsIn_of_wp Tryz.func81 rfl h68 ?_ hro
  simp only [Tryz.ntmps81, List.size_toArray, List.length_cons, List.length_nil, Nat.reduceAdd, Nat.reduceSub, Array.replicate_succ, Array.replicate_zero, List.push_toArray, List.append_toArray, List.nil_append, List.cons_append]
  gi_wp2_with (gi_at_call 85; refine (appendSeq_in F (n - 1) h70 h72 hro (by omega) Bx a cap l hreach _ A).mono ?_; rintro e w' ⟨v, rfl, hrow, hnil, hb⟩)
  go_ret
  exact ⟨v, rfl, hrow, hnil, hb⟩

/-! ## The link -/
theorem collect_core {Bx : Addr} {v : Sl} {K : Sl → HProp} {h : H} {w : World} (g : Hpart Tryz.prog w h) (hc : h.cell? Bx = some (.slice v.a v.len v.cap)) (hF : collectPW v K h) :
    Calls Tryz.prog 81 #[.func (.func 83) #[] #[.pointer (some Bx)]] w fun e w' => ∃ r h', e = .returned (.slice r.a r.len r.cap) ∧ K r h' ∧ Hpart Tryz.prog w' h' ∧ Keeps w h w' h' := by
  unfold collectPW at hF
  obtain ⟨l, hlen, hreach, hrow, hnil, hne⟩ := hF
  obtain ⟨k1, k3, k4⟩ := row_cells g hrow
  have A : At w Bx v.a v.cap l := by
    refine ⟨by rw [hlen]; exact g.cell hc, ?_, fun e => ?_⟩
    · unfold H.cell? at hc
      split at hc
      · rename_i hb; exact g.lt hb
      · cases hc
    · obtain ⟨x, hx⟩ := k4 (by have := List.length_pos_iff.2 e; omega)
      have hrow' := hrow
      unfold H.row? at hrow'
      rw [if_neg (by have := List.length_pos_iff.2 e; omega), hx] at hrow'
      simp only [] at hrow'
      split at hrow'
      · rename_i c wr hb
        split at hrow'
        · cases hrow'
        · rename_i hsp
          have hsp : x.spot = none := by cases hs : x.spot <;> simp_all
          refine ⟨x.block, x.off, by rw [hx]; cases x; simp at hsp; simp [hsp], g.lt hb, fun j hj => ?_⟩
          have e1 := k3 x hx (j * 2) (.int .i64 (l[j]!).1) (by rw [flat2_get]; simp [hj, enP, show j * 2 % 2 = 0 by omega])
          have e2 := k3 x hx (j * 2 + 1) (.int .i64 (l[j]!).2) (by rw [flat2_get]; simp [hj, enP, show (j * 2 + 1) / 2 = j by omega, show (j * 2 + 1) % 2 = 1 by omega])
          rw [add_eq hsp] at e1 e2
          exact ⟨e1, by rw [← Nat.add_assoc] at e2; exact e2⟩
      · cases hrow'
  have hcl := callsIn_wide.1 (collect_in Fence.wide 5 trivial trivial trivial rfl (Nat.le_refl _) Bx v.a v.cap l hreach w A)
  refine hcl.mono ?_
  rintro e w' ⟨r, rfl, hown, hn, hb⟩
  have hkeep : ∀ b o, h b = some o → w'.heap[b]? = w.heap[b]? := fun b o hbo => hb.block b (g.lt hbo)
  by_cases e : l = []
  · have := hn.2 e
    subst this
    exact ⟨⟨none, 0, 0⟩, h, rfl, hnil e, g.keep w' hkeep, hb.size, fun b hbl _ => ⟨rfl, hb.block b hbl⟩, hb.os, hb.tape, hb.output, fun q => q.elim⟩
  · rcases hown.2 with ⟨rfl, _⟩ | ⟨gb, cap', cur, rfl, hbase, hgb, h1, h2, h3, h4⟩
    · exact absurd (hn.1 rfl) e
    · have hnew : h gb = none := by
        cases hh : h gb with
        | none => rfl
        | some o => exact absurd (g.lt hh) (by omega)
      have hcur : cur.toList = flat2 l ++ cur.toList.drop (l.length * 2) := by rw [← h4]; exact (List.take_append_drop _ _).symm
      refine ⟨⟨some ⟨gb, 0, none⟩, l.length, cap'⟩, _, rfl, hne e cap' (cur.toList.drop (l.length * 2)) gb h1 (by simp [h3]; omega) hnew, ⟨?_⟩, hb.size, ?_, hb.os, hb.tape, hb.output, fun q => q.elim⟩
      · intro b c wr hk
        unfold H.set at hk
        by_cases eb : b = gb
        · subst eb
          rw [if_pos rfl] at hk
          cases hk
          exact ⟨72, (0, 0), by rw [← hcur]; exact hgb, fun _ i _ => by omega⟩
        · rw [if_neg eb] at hk
          obtain ⟨T, fz, q1, q2⟩ := g.cells b c wr hk
          exact ⟨T, fz, (hb.block b (Array.getElem?_eq_some_iff.1 q1).1).trans q1, q2⟩
      · intro b hbl _
        have eb : b ≠ gb := by omega
        exact ⟨by simp [H.set, eb], hb.block b hbl⟩
theorem slices_Collect_api_Edge_hand : Linked Tryz.prog ⟨81, [.leaf (.clo 83 [.p])], [.leaf (.o (.sl))], slices_Collect_api_Edge⟩ := by
  refine ⟨⟨Tryz.f81, _, Tryz.func81, rfl, by decide⟩, ?_⟩
  intro t args Q h w hr g hF
  change Option Addr at t
  simp only [tysOf, Sh.tys, unpackL, shape, SV.of, SV.of0, unpackL0, List.cons_append, List.nil_append] at hr
  obtain ⟨y, us, rfl, hy, hr⟩ := relL_cons.1 hr
  rw [relL_nil] at hr
  subst hr
  simp only [rel] at hy
  obtain ⟨fv, cv, rfl, h1, h2⟩ := hy
  have h1 : fv = #[] := by simpa [relL] using h1
  have h2 : cv = #[.pointer t] := by
    obtain ⟨z, us, e, hz, hu⟩ := relL_cons.1 h2
    rw [relL_nil] at hu
    simp only [rel] at hz
    subst hz; subst hu
    exact Array.toList_inj.1 e
  subst h1; subst h2
  have hF : derefW t (fun (a : Addr) => loadL a fun (v : Sl) => collectPW v Q) h := hF
  unfold derefW at hF
  obtain ⟨Bx, ht, hF1⟩ := hF
  subst ht
  unfold loadL at hF1
  split at hF1
  case h_2 => exact hF1.elim
  rename_i a' l' c' hc
  refine (collect_core (v := ⟨a', l', c'⟩) g hc hF1).mono ?_
  rintro e w' ⟨r, h', rfl, hQ, hp, hk⟩
  exact ⟨r, _, h', rfl, by simp [retSV, shape, tysOf, Sh.tys, unpackL, SV.of, SV.of0, rel], hQ, hp, hk⟩
end Go.Cz.S
