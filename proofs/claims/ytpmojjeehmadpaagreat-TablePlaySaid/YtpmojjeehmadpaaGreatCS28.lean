/- Part of the proof of a law of 28: an engine that runs a function over an abstract heap, and what the functions compute; own work. -/
import Derived.Test.YtpmojjeehmadpaaGreatEngZ
import Derived.Test.YtpmojjeehmadpaaGreatB28
import Derived.Test.YtpmojjeehmadpaaGreatSpec1
import Derived.Shelf.SlSortCmp.NoneTotal
import Derived.Test.YtpmojjeehmadpaaGreatProg
set_option linter.unusedVariables false
set_option linter.unusedSimpArgs false
set_option linter.unusedSectionVars false
namespace Go.Cz.S
open Go.Proofs Go.Shelf
set_option maxRecDepth 100000
def sortEdge_ren : Go.Shelf.Ren := ⟨fun | 6 => 82 | 15 => 87 | 14 => 86 | 28 => 97 | 29 => 98 | 20 => 89 | 21 => 90 | 22 => 91 | 23 => 92 | 24 => 93 | 25 => 94 | 26 => 95 | 27 => 96 | 46 => 101 | 47 => 102 | 48 => 103 | 49 => 104 | 50 => 105 | 57 => 106 | n => n, fun | 22 => 33 | 24 => 72 | 25 => 132 | 3 => 3 | 39 => 141 | 0 => 0 | 53 => 153 | 55 => 103 | 4 => 4 | 46 => 146 | 45 => 145 | 50 => 150 | 5 => 5 | 9 => 9 | 66 => 159 | 70 => 163 | 76 => 165 | 77 => 166 | n => n, fun | n => n⟩
theorem sortEdge : Go.Proofs.SlLaysF0.n6 Tryz.prog sortEdge_ren where
  mixed := by kernel_rfl
  f6 := ⟨ "slices.SortFunc[[]carousel/api.Edge,carousel/api.Edge]", by decide, Tryz.func82.trans (congrArg some (by kernel_rfl))⟩
  f14 := ⟨ "slices.pdqsortCmpFunc[carousel/api.Edge]", by decide, Tryz.func86.trans (congrArg some (by kernel_rfl))⟩
  f15 := Tryz.func87.trans (congrArg some (by kernel_rfl))
  f20 := ⟨ "slices.insertionSortCmpFunc[carousel/api.Edge]", by decide, Tryz.func89.trans (congrArg some (by kernel_rfl))⟩
  f21 := ⟨ "slices.heapSortCmpFunc[carousel/api.Edge]", by decide, Tryz.func90.trans (congrArg some (by kernel_rfl))⟩
  f22 := ⟨ "slices.breakPatternsCmpFunc[carousel/api.Edge]", by decide, Tryz.func91.trans (congrArg some (by kernel_rfl))⟩
  f23 := ⟨ "slices.choosePivotCmpFunc[carousel/api.Edge]", by decide, Tryz.func92.trans (congrArg some (by kernel_rfl))⟩
  f24 := ⟨ "slices.reverseRangeCmpFunc[carousel/api.Edge]", by decide, Tryz.func93.trans (congrArg some (by kernel_rfl))⟩
  f25 := ⟨ "slices.partialInsertionSortCmpFunc[carousel/api.Edge]", by decide, Tryz.func94.trans (congrArg some (by kernel_rfl))⟩
  f26 := ⟨ "slices.partitionEqualCmpFunc[carousel/api.Edge]", by decide, Tryz.func95.trans (congrArg some (by kernel_rfl))⟩
  f27 := ⟨ "slices.partitionCmpFunc[carousel/api.Edge]", by decide, Tryz.func96.trans (congrArg some (by kernel_rfl))⟩
  f28 := Tryz.func97.trans (congrArg some (by kernel_rfl))
  f29 := Tryz.func98.trans (congrArg some (by kernel_rfl))
  f46 := ⟨ "slices.siftDownCmpFunc[carousel/api.Edge]", by decide, Tryz.func101.trans (congrArg some (by kernel_rfl))⟩
  f47 := Tryz.func102.trans (congrArg some (by kernel_rfl))
  f48 := Tryz.func103.trans (congrArg some (by kernel_rfl))
  f49 := ⟨ "slices.medianAdjacentCmpFunc[carousel/api.Edge]", by decide, Tryz.func104.trans (congrArg some (by kernel_rfl))⟩
  f50 := ⟨ "slices.medianCmpFunc[carousel/api.Edge]", by decide, Tryz.func105.trans (congrArg some (by kernel_rfl))⟩
  f57 := ⟨ "slices.order2CmpFunc[carousel/api.Edge]", by decide, Tryz.func106.trans (congrArg some (by kernel_rfl))⟩
  t0 := Tryz.underlying0
  a0 := Tryz.isAgg0
  z0 := Tryz.sizeOf0
  v0 := Tryz.zeroValue0
  t3 := Tryz.underlying3
  a3 := Tryz.isAgg3
  z3 := Tryz.sizeOf3
  v3 := Tryz.zeroValue3
  t4 := Tryz.underlying4
  a4 := Tryz.isAgg4
  z4 := Tryz.sizeOf4
  v4 := Tryz.zeroValue4
  t5 := Tryz.underlying5
  a5 := Tryz.isAgg5
  z5 := Tryz.sizeOf5
  v5 := Tryz.zeroValue5
  t9 := Tryz.underlying9
  a9 := Tryz.isAgg9
  z9 := Tryz.sizeOf9
  v9 := Tryz.zeroValue9
  t22 := Tryz.underlying33
  a22 := Tryz.isAgg33
  z22 := Tryz.sizeOf33
  v22 := Tryz.zeroValue33
  t25 := Tryz.underlying132
  a25 := Tryz.isAgg132
  z25 := Tryz.sizeOf132
  v25 := Tryz.zeroValue132
  t39 := Tryz.underlying141
  a39 := Tryz.isAgg141
  z39 := Tryz.sizeOf141
  v39 := Tryz.zeroValue141
  t45 := Tryz.underlying145
  a45 := Tryz.isAgg145
  z45 := Tryz.sizeOf145
  v45 := Tryz.zeroValue145
  t46 := Tryz.underlying146
  a46 := Tryz.isAgg146
  z46 := Tryz.sizeOf146
  v46 := Tryz.zeroValue146
  t50 := Tryz.underlying150
  a50 := Tryz.isAgg150
  z50 := Tryz.sizeOf150
  v50 := Tryz.zeroValue150
  t53 := Tryz.underlying153
  a53 := Tryz.isAgg153
  z53 := Tryz.sizeOf153
  v53 := Tryz.zeroValue153
  t55 := Tryz.underlying103
  a55 := Tryz.isAgg103
  z55 := Tryz.sizeOf103
  v55 := Tryz.zeroValue103
  t66 := Tryz.underlying159
  a66 := Tryz.isAgg159
  z66 := Tryz.sizeOf159
  v66 := Tryz.zeroValue159
  t70 := Tryz.underlying163
  a70 := Tryz.isAgg163
  z70 := Tryz.sizeOf163
  v70 := Tryz.zeroValue163
  t76 := Tryz.underlying165
  a76 := Tryz.isAgg165
  z76 := Tryz.sizeOf165
  v76 := Tryz.zeroValue165
  t77 := Tryz.underlying166
  a77 := Tryz.isAgg166
  z77 := Tryz.sizeOf166
  v77 := Tryz.zeroValue166
open Go.Lib Go.Sort
/-! ## slices.SortFunc -/
theorem flat2_len : ∀ l : List (Int × Int), (flat2 l).length = l.length * 2
  | [] => rfl
  | x :: r => by simp [flat2, flat2_len r]; omega
theorem flat2_get : ∀ (l : List (Int × Int)) (t : Nat), (flat2 l)[t]? = (l[t / 2]?).bind fun x => (enP x)[t % 2]?
  | [], t => by simp [flat2]
  | x :: r, 0 => by simp [flat2, enP]
  | x :: r, 1 => by simp [flat2, enP]
  | x :: r, t + 2 => by
    have e1 : (t + 2) / 2 = t / 2 + 1 := by omega
    have e2 : (t + 2) % 2 = t % 2 := by omega
    rw [e1, e2]
    simp only [flat2, List.getElem?_cons_succ]
    exact flat2_get r t
theorem flatK_flat2 (l : List (Int × Int)) : (flatK enP 2 l.toArray) = (flat2 l).toArray := by
  apply Array.ext_getElem?
  intro t
  simp only [List.getElem?_toArray]
  by_cases ht : t < l.length * 2
  · have h1 : t / 2 < l.length := by omega
    have h2 : t % 2 < 2 := Nat.mod_lt _ (by decide)
    rw [flat2_get, List.getElem?_eq_getElem h1]
    unfold flatK
    rw [Array.getElem?_map, Array.getElem?_range, if_pos (by simpa using ht)]
    simp only [Option.map_some, Option.bind_some]
    rw [getElem!_pos l.toArray (t / 2) (by simpa using h1)]
    simp only [List.getElem_toArray]
    rw [List.getElem?_eq_getElem (by simpa [enP] using h2), getElem!_pos _ _ (by simpa [enP] using h2)]
  · rw [Array.getElem?_eq_none (by simp; omega), List.getElem?_eq_none (by rw [flat2_len]; omega)]

theorem mergeSort_ne {l : List (Int × Int)} : (l.mergeSort leP).length = l.length := (List.mergeSort_perm l leP).length_eq
/-- the sorted world's heap -/
theorem sortWorld_heap {w : World} {blk off n : Nat} {l : List (Int × Int)} {os : Array Go.Obj} {c : List Value} {T : TypeId} {fz : Nat × Nat} (hb : w.heap[blk]? = some (.cells c.toArray T fz)) (hl : off + (flat2 l).length ≤ c.length) :
    (sortWorldK enP 2 w blk off n l.toArray os).heap[blk]? = some (.cells (c.take off ++ flat2 l ++ c.drop (off + (flat2 l).length)).toArray T fz) ∧
    (∀ b, b < w.heap.size → b ≠ blk → (sortWorldK enP 2 w blk off n l.toArray os).heap[b]? = w.heap[b]?) ∧ w.heap.size ≤ (sortWorldK enP 2 w blk off n l.toArray os).heap.size := by
  have hlt := (Array.getElem?_eq_some_iff.1 hb).1
  have hh : (sortWorldK enP 2 w blk off n l.toArray os).heap = w.heap.modify blk (onCells (putCells id off (flat2 l).toArray)) ++ os := by
    unfold sortWorldK putRowK
    rw [flatK_flat2]; rfl
  have hget : ∀ b, b < w.heap.size → (sortWorldK enP 2 w blk off n l.toArray os).heap[b]? = (w.heap.modify blk (onCells (putCells id off (flat2 l).toArray)))[b]? := fun b hb => by
    rw [hh, Array.getElem?_append, if_pos (by simpa using hb)]
  refine ⟨?_, ?_, ?_⟩
  · rw [hget _ hlt, Array.getElem?_modify, if_pos rfl, hb]
    simp only [Option.map_some, onCells]
    congr 2
    apply Array.ext_getElem?
    intro t
    simp only [putCells, Array.getElem?_mapIdx, List.getElem?_toArray, List.size_toArray, id_eq]
    have hgl : ∀ u, u < (flat2 l).length → (flat2 l).toArray[u]! = (flat2 l)[u]! := fun u hu => by simp [hu]
    rw [List.append_assoc, List.getElem?_append, List.length_take, Nat.min_eq_left (by omega)]
    by_cases h1 : t < off
    · rw [if_pos h1, List.getElem?_take, if_pos h1]
      cases c[t]? with
      | none => rfl
      | some y => simp only [Option.map_some]; rw [if_neg (by omega)]
    · rw [if_neg h1, List.getElem?_append]
      by_cases h2 : t - off < (flat2 l).length
      · rw [if_pos h2, List.getElem?_eq_getElem h2, List.getElem?_eq_getElem (show t < c.length by omega)]
        simp only [Option.map_some]
        rw [if_pos (by omega)]
        exact congrArg some (by rw [hgl _ h2, getElem!_pos (flat2 l) (t - off) h2])
      · rw [if_neg h2, List.getElem?_drop, show off + (flat2 l).length + (t - off - (flat2 l).length) = t by omega]
        cases c[t]? with
        | none => rfl
        | some y => simp only [Option.map_some]; rw [if_neg (by omega)]
  · intro b hbl hne
    rw [hget _ hbl, Array.getElem?_modify, if_neg (fun e => hne e.symm)]
  · rw [hh]; simp
theorem ltOf_eq : ltOf cfP = ltP := by funext x y; exact ltOf_cfP x y

theorem sort_core {v : Sl} {K : HProp} {h : H} {w : World} (g : Hpart Tryz.prog w h) (hF : sortPW v K h) :
    Calls Tryz.prog 82 #[.slice v.a v.len v.cap, .func (.func 77) #[] #[]] w fun e w' => ∃ h', e = .returned (.tuple #[]) ∧ K h' ∧ Hpart Tryz.prog w' h' ∧ Keeps w h w' h' := by
  unfold sortPW at hF
  obtain ⟨l, hlen, hsz, hrow, hnil, hne⟩ := hF
  by_cases e : l = []
  · have h0 : v.len = 0 := by rw [← hlen, e]; rfl
    have hc := AnyF.slices_SortFunc_none sortEdge v.a v.cap (.func (.func 77) #[] #[]) w
    change Calls Tryz.prog 82 _ _ _ at hc
    rw [h0]
    refine hc.mono ?_
    rintro e' w' ⟨rfl, rfl⟩
    exact ⟨h, rfl, hnil e, g, Nat.le_refl _, fun _ _ _ => ⟨rfl, rfl⟩, rfl, rfl, rfl, fun _ => Nat.le_refl _⟩
  · obtain ⟨a, ha, hst⟩ := hne e
    unfold storesW at hst
    split at hst
    case h_2 => exact hst.elim
    rename_i c hb
    obtain ⟨hsp, hle, hK⟩ := hst
    obtain ⟨T, fz, hw, hzf⟩ := g.cells _ c true hb
    have ea : a = ⟨a.block, a.off, none⟩ := by cases a; simp at hsp; simp [hsp]
    obtain ⟨k1, k3, k4⟩ := row_cells g hrow
    have hsl : (flat2 (l.mergeSort leP)).length = (flat2 l).length := by rw [flat2_len, flat2_len, mergeSort_ne]
    have hH : HoldsK enP 2 w a.block a.off l.toArray := by
      unfold HoldsK
      rw [flatK_flat2]
      intro j hj
      have hj : j < (flat2 l).length := by simpa using hj
      have h1 := k3 a ha j _ (List.getElem?_eq_getElem hj)
      rw [add_eq hsp] at h1
      refine ⟨?_, ?_⟩
      · rw [h1]
        simp [hj]
      · have h2 := hzf rfl (a.off + j) (by omega)
        simp only [World.frozen?, hw]
        simpa using h2
    have hlt := (Array.getElem?_eq_some_iff.1 hw).1
    have hc := AnyQ.slices_SortFunc_total sortEdge 2 Tryz.isAgg72 Tryz.sizeOf72 enP (fun _ => rfl) (fun x v hv => by simp [enP] at hv; rcases hv with rfl | rfl <;> rfl) cfP swoP 77 #[] a.block a.off v.cap l.toArray w
      (enters_of Tryz.func77 (by kernel_rfl) rfl) (fun _ _ _ _ x y => by_calls x y _) hH hlt (by simpa using hsz) totP
    change Calls Tryz.prog 82 _ _ _ at hc
    rw [← ea, ← ha, show l.toArray.size = v.len by simpa using hlen] at hc
    refine hc.mono ?_
    rintro e' w' ⟨rfl, n, os, rfl⟩
    rw [show (l.toArray.toList.mergeSort fun x y => !(ltOf cfP) y x) = l.mergeSort leP by rw [ltOf_eq]; rfl]
    obtain ⟨s1, s2, s3⟩ := sortWorld_heap (os := os) (n := n) hw hle
    refine ⟨_, rfl, hK, ⟨?_⟩, s3, ?_, rfl, rfl, rfl, fun _ => Nat.le_add_right _ _⟩
    · intro b c' wr hk
      unfold H.set at hk
      by_cases eb : b = a.block
      · subst eb
        rw [if_pos rfl] at hk
        cases hk
        refine ⟨T, fz, s1, fun hw i hi => hzf rfl i ?_⟩
        simp at hi; omega
      · rw [if_neg eb] at hk
        obtain ⟨T', fz', q1, q2⟩ := g.cells b c' wr hk
        exact ⟨T', fz', (s2 b (Array.getElem?_eq_some_iff.1 q1).1 eb).trans q1, q2⟩
    · intro b hbl hcalm
      have eb : b ≠ a.block := fun eb => by subst eb; exact hcalm _ hb
      exact ⟨by simp [H.set, eb], s2 b hbl eb⟩
theorem slices_SortFunc_api_Edge_api_Edge_hand : Linked Tryz.prog ⟨82, [.leaf (.o (.sl)), .leaf (.clo 77 [])], [], slices_SortFunc_api_Edge_api_Edge⟩ := by
  refine ⟨⟨Tryz.f82, _, Tryz.func82, rfl, by decide⟩, ?_⟩
  intro t args Q h w hr g hF
  obtain ⟨v, u⟩ := t
  simp only [tysOf, Sh.tys, unpackL, shape, SV.of, SV.of0, unpackL0, List.cons_append, List.nil_append] at hr
  obtain ⟨x, us, rfl, hx, hr⟩ := relL_cons.1 hr
  obtain ⟨y, us', rfl, hy, hr⟩ := relL_cons.1 hr
  rw [relL_nil] at hr
  subst hr
  simp only [rel] at hx hy
  obtain ⟨fv, cv, rfl, h1, h2⟩ := hy
  have h1 : fv = #[] := by simpa [relL] using h1
  have h2 : cv = #[] := by simpa [relL] using h2
  subst hx; subst h1; subst h2
  refine (sort_core g (v := v) (K := Q ()) hF).mono ?_
  rintro e w' ⟨h', rfl, hQ, hp, hk⟩
  exact ⟨(), _, h', rfl, by simp [retSV, shape, rel, relL], hQ, hp, hk⟩
end Go.Cz.S
