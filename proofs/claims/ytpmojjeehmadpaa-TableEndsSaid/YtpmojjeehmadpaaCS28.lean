/- Part of the proof of a law of 28: an engine that runs a function over an abstract heap, and what the functions compute; own work. -/
import Derived.Test.YtpmojjeehmadpaaEngZ
import Derived.Test.YtpmojjeehmadpaaB28
import Derived.Test.YtpmojjeehmadpaaSpec1
import Derived.Shelf.SlSortCmp.NoneTotal
import Derived.Test.YtpmojjeehmadpaaProg
set_option linter.unusedVariables false
set_option linter.unusedSimpArgs false
set_option linter.unusedSectionVars false
namespace Go.Cz.S
open Go.Proofs Go.Shelf
set_option maxRecDepth 100000
def sortEdge_ren : Go.Shelf.Ren := ⟨fun | 6 => 69 | 15 => 74 | 14 => 73 | 28 => 84 | 29 => 85 | 20 => 76 | 21 => 77 | 22 => 78 | 23 => 79 | 24 => 80 | 25 => 81 | 26 => 82 | 27 => 83 | 46 => 88 | 47 => 89 | 48 => 90 | 49 => 91 | 50 => 92 | 57 => 93 | n => n, fun | 22 => 22 | 24 => 79 | 25 => 130 | 3 => 3 | 39 => 140 | 0 => 0 | 53 => 152 | 55 => 132 | 4 => 4 | 46 => 145 | 45 => 144 | 50 => 149 | 5 => 5 | 9 => 9 | 66 => 158 | 70 => 162 | 76 => 164 | 77 => 165 | n => n, fun | n => n⟩
theorem sortEdge : Go.Proofs.SlLaysF0.n6 Try.prog sortEdge_ren where
  mixed := by kernel_rfl
  f6 := ⟨ "slices.SortFunc[[]carousel/api.Edge,carousel/api.Edge]", by decide, Try.func69.trans (congrArg some (by kernel_rfl))⟩
  f14 := ⟨ "slices.pdqsortCmpFunc[carousel/api.Edge]", by decide, Try.func73.trans (congrArg some (by kernel_rfl))⟩
  f15 := Try.func74.trans (congrArg some (by kernel_rfl))
  f20 := ⟨ "slices.insertionSortCmpFunc[carousel/api.Edge]", by decide, Try.func76.trans (congrArg some (by kernel_rfl))⟩
  f21 := ⟨ "slices.heapSortCmpFunc[carousel/api.Edge]", by decide, Try.func77.trans (congrArg some (by kernel_rfl))⟩
  f22 := ⟨ "slices.breakPatternsCmpFunc[carousel/api.Edge]", by decide, Try.func78.trans (congrArg some (by kernel_rfl))⟩
  f23 := ⟨ "slices.choosePivotCmpFunc[carousel/api.Edge]", by decide, Try.func79.trans (congrArg some (by kernel_rfl))⟩
  f24 := ⟨ "slices.reverseRangeCmpFunc[carousel/api.Edge]", by decide, Try.func80.trans (congrArg some (by kernel_rfl))⟩
  f25 := ⟨ "slices.partialInsertionSortCmpFunc[carousel/api.Edge]", by decide, Try.func81.trans (congrArg some (by kernel_rfl))⟩
  f26 := ⟨ "slices.partitionEqualCmpFunc[carousel/api.Edge]", by decide, Try.func82.trans (congrArg some (by kernel_rfl))⟩
  f27 := ⟨ "slices.partitionCmpFunc[carousel/api.Edge]", by decide, Try.func83.trans (congrArg some (by kernel_rfl))⟩
  f28 := Try.func84.trans (congrArg some (by kernel_rfl))
  f29 := Try.func85.trans (congrArg some (by kernel_rfl))
  f46 := ⟨ "slices.siftDownCmpFunc[carousel/api.Edge]", by decide, Try.func88.trans (congrArg some (by kernel_rfl))⟩
  f47 := Try.func89.trans (congrArg some (by kernel_rfl))
  f48 := Try.func90.trans (congrArg some (by kernel_rfl))
  f49 := ⟨ "slices.medianAdjacentCmpFunc[carousel/api.Edge]", by decide, Try.func91.trans (congrArg some (by kernel_rfl))⟩
  f50 := ⟨ "slices.medianCmpFunc[carousel/api.Edge]", by decide, Try.func92.trans (congrArg some (by kernel_rfl))⟩
  f57 := ⟨ "slices.order2CmpFunc[carousel/api.Edge]", by decide, Try.func93.trans (congrArg some (by kernel_rfl))⟩
  t0 := Try.underlying0
  a0 := Try.isAgg0
  z0 := Try.sizeOf0
  v0 := Try.zeroValue0
  t3 := Try.underlying3
  a3 := Try.isAgg3
  z3 := Try.sizeOf3
  v3 := Try.zeroValue3
  t4 := Try.underlying4
  a4 := Try.isAgg4
  z4 := Try.sizeOf4
  v4 := Try.zeroValue4
  t5 := Try.underlying5
  a5 := Try.isAgg5
  z5 := Try.sizeOf5
  v5 := Try.zeroValue5
  t9 := Try.underlying9
  a9 := Try.isAgg9
  z9 := Try.sizeOf9
  v9 := Try.zeroValue9
  t22 := Try.underlying22
  a22 := Try.isAgg22
  z22 := Try.sizeOf22
  v22 := Try.zeroValue22
  t25 := Try.underlying130
  a25 := Try.isAgg130
  z25 := Try.sizeOf130
  v25 := Try.zeroValue130
  t39 := Try.underlying140
  a39 := Try.isAgg140
  z39 := Try.sizeOf140
  v39 := Try.zeroValue140
  t45 := Try.underlying144
  a45 := Try.isAgg144
  z45 := Try.sizeOf144
  v45 := Try.zeroValue144
  t46 := Try.underlying145
  a46 := Try.isAgg145
  z46 := Try.sizeOf145
  v46 := Try.zeroValue145
  t50 := Try.underlying149
  a50 := Try.isAgg149
  z50 := Try.sizeOf149
  v50 := Try.zeroValue149
  t53 := Try.underlying152
  a53 := Try.isAgg152
  z53 := Try.sizeOf152
  v53 := Try.zeroValue152
  t55 := Try.underlying132
  a55 := Try.isAgg132
  z55 := Try.sizeOf132
  v55 := Try.zeroValue132
  t66 := Try.underlying158
  a66 := Try.isAgg158
  z66 := Try.sizeOf158
  v66 := Try.zeroValue158
  t70 := Try.underlying162
  a70 := Try.isAgg162
  z70 := Try.sizeOf162
  v70 := Try.zeroValue162
  t76 := Try.underlying164
  a76 := Try.isAgg164
  z76 := Try.sizeOf164
  v76 := Try.zeroValue164
  t77 := Try.underlying165
  a77 := Try.isAgg165
  z77 := Try.sizeOf165
  v77 := Try.zeroValue165
open Go.Lib Go.Sort
/-! ## slices.SortFunc -/
theorem flat2_len : ∀ l : List (Int × Int), (flat2 l).length = l.length * 2
  | [] => rfl
  | x :: r => by simp [flat2, flat2_len r]; omega
theorem flat2_get : ∀ (l : List (Int × Int)) (t : Nat), (flat2 l)[t]? = (l[t / 2]?).bind fun x => (enP x)[t % 2]?
  | [], t => by simp [flat2]
  | x :: r, 0 => by simp [flat2, enP]
  | x :: r, 1 => by simp [flat2, enP]
  | x :: r, t + 2 => by
    have e1 : (t + 2) / 2 = t / 2 + 1 := by omega
    have e2 : (t + 2) % 2 = t % 2 := by omega
    rw [e1, e2]
    simp only [flat2, List.getElem?_cons_succ]
    exact flat2_get r t
theorem flatK_flat2 (l : List (Int × Int)) : (flatK enP 2 l.toArray) = (flat2 l).toArray := by
  apply Array.ext_getElem?
  intro t
  simp only [List.getElem?_toArray]
  by_cases ht : t < l.length * 2
  · have h1 : t / 2 < l.length := by omega
    have h2 : t % 2 < 2 := Nat.mod_lt _ (by decide)
    rw [flat2_get, List.getElem?_eq_getElem h1]
    unfold flatK
    rw [Array.getElem?_map, Array.getElem?_range, if_pos (by simpa using ht)]
    simp only [Option.map_some, Option.bind_some]
    rw [getElem!_pos l.toArray (t / 2) (by simpa using h1)]
    simp only [List.getElem_toArray]
    rw [List.getElem?_eq_getElem (by simpa [enP] using h2), getElem!_pos _ _ (by simpa [enP] using h2)]
  · rw [Array.getElem?_eq_none (by simp; omega), List.getElem?_eq_none (by rw [flat2_len]; omega)]

theorem mergeSort_ne {l : List (Int × Int)} : (l.mergeSort leP).length = l.length := (List.mergeSort_perm l leP).length_eq
/-- the sorted world's heap -/
theorem sortWorld_heap {w : World} {blk off n : Nat} {l : List (Int × Int)} {os : Array Go.Obj} {c : List Value} {T : TypeId} {fz : Nat × Nat} (hb : w.heap[blk]? = some (.cells c.toArray T fz)) (hl : off + (flat2 l).length ≤ c.length) :
    (sortWorldK enP 2 w blk off n l.toArray os).heap[blk]? = some (.cells (c.take off ++ flat2 l ++ c.drop (off + (flat2 l).length)).toArray T fz) ∧
    (∀ b, b < w.heap.size → b ≠ blk → (sortWorldK enP 2 w blk off n l.toArray os).heap[b]? = w.heap[b]?) ∧ w.heap.size ≤ (sortWorldK enP 2 w blk off n l.toArray os).heap.size := by
  have hlt := (Array.getElem?_eq_some_iff.1 hb).1
  have hh : (sortWorldK enP 2 w blk off n l.toArray os).heap = w.heap.modify blk (onCells (putCells id off (flat2 l).toArray)) ++ os := by
    unfold sortWorldK putRowK
    rw [flatK_flat2]; rfl
  have hget : ∀ b, b < w.heap.size → (sortWorldK enP 2 w blk off n l.toArray os).heap[b]? = (w.heap.modify blk (onCells (putCells id off (flat2 l).toArray)))[b]? := fun b hb => by
    rw [hh, Array.getElem?_append, if_pos (by simpa using hb)]
  refine ⟨?_, ?_, ?_⟩
  · rw [hget _ hlt, Array.getElem?_modify, if_pos rfl, hb]
    simp only [Option.map_some, onCells]
    congr 2
    apply Array.ext_getElem?
    intro t
    simp only [putCells, Array.getElem?_mapIdx, List.getElem?_toArray, List.size_toArray, id_eq]
    have hgl : ∀ u, u < (flat2 l).length → (flat2 l).toArray[u]! = (flat2 l)[u]! := fun u hu => by simp [hu]
    rw [List.append_assoc, List.getElem?_append, List.length_take, Nat.min_eq_left (by omega)]
    by_cases h1 : t < off
    · rw [if_pos h1, List.getElem?_take, if_pos h1]
      cases c[t]? with
      | none => rfl
      | some y => simp only [Option.map_some]; rw [if_neg (by omega)]
    · rw [if_neg h1, List.getElem?_append]
      by_cases h2 : t - off < (flat2 l).length
      · rw [if_pos h2, List.getElem?_eq_getElem h2, List.getElem?_eq_getElem (show t < c.length by omega)]
        simp only [Option.map_some]
        rw [if_pos (by omega)]
        exact congrArg some (by rw [hgl _ h2, getElem!_pos (flat2 l) (t - off) h2])
      · rw [if_neg h2, List.getElem?_drop, show off + (flat2 l).length + (t - off - (flat2 l).length) = t by omega]
        cases c[t]? with
        | none => rfl
        | some y => simp only [Option.map_some]; rw [if_neg (by omega)]
  · intro b hbl hne
    rw [hget _ hbl, Array.getElem?_modify, if_neg (fun e => hne e.symm)]
  · rw [hh]; simp
theorem ltOf_eq : ltOf cfP = ltP := by funext x y; exact ltOf_cfP x y

theorem sort_core {v : Sl} {K : HProp} {h : H} {w : World} (g : Hpart Try.prog w h) (hF : sortPW v K h) :
    Calls Try.prog 69 #[.slice v.a v.len v.cap, .func (.func 64) #[] #[]] w fun e w' => ∃ h', e = .returned (.tuple #[]) ∧ K h' ∧ Hpart Try.prog w' h' ∧ Keeps w h w' h' := by
  unfold sortPW at hF
  obtain ⟨l, hlen, hsz, hrow, hnil, hne⟩ := hF
  by_cases e : l = []
  · have h0 : v.len = 0 := by rw [← hlen, e]; rfl
    have hc := AnyF.slices_SortFunc_none sortEdge v.a v.cap (.func (.func 64) #[] #[]) w
    change Calls Try.prog 69 _ _ _ at hc
    rw [h0]
    refine hc.mono ?_
    rintro e' w' ⟨rfl, rfl⟩
    exact ⟨h, rfl, hnil e, g, Nat.le_refl _, fun _ _ _ => ⟨rfl, rfl⟩, rfl, rfl, rfl, fun _ => Nat.le_refl _⟩
  · obtain ⟨a, ha, hst⟩ := hne e
    unfold storesW at hst
    split at hst
    case h_2 => exact hst.elim
    rename_i c hb
    obtain ⟨hsp, hle, hK⟩ := hst
    obtain ⟨T, fz, hw, hzf⟩ := g.cells _ c true hb
    have ea : a = ⟨a.block, a.off, none⟩ := by cases a; simp at hsp; simp [hsp]
    obtain ⟨k1, k3, k4⟩ := row_cells g hrow
    have hsl : (flat2 (l.mergeSort leP)).length = (flat2 l).length := by rw [flat2_len, flat2_len, mergeSort_ne]
    have hH : HoldsK enP 2 w a.block a.off l.toArray := by
      unfold HoldsK
      rw [flatK_flat2]
      intro j hj
      have hj : j < (flat2 l).length := by simpa using hj
      have h1 := k3 a ha j _ (List.getElem?_eq_getElem hj)
      rw [add_eq hsp] at h1
      refine ⟨?_, ?_⟩
      · rw [h1]
        simp [hj]
      · have h2 := hzf rfl (a.off + j) (by omega)
        simp only [World.frozen?, hw]
        simpa using h2
    have hlt := (Array.getElem?_eq_some_iff.1 hw).1
    have hc := AnyQ.slices_SortFunc_total sortEdge 2 Try.isAgg79 Try.sizeOf79 enP (fun _ => rfl) (fun x v hv => by simp [enP] at hv; rcases hv with rfl | rfl <;> rfl) cfP swoP 64 #[] a.block a.off v.cap l.toArray w
      (enters_of Try.func64 (by kernel_rfl) rfl) (fun _ _ _ _ x y => by_calls x y _) hH hlt (by simpa using hsz) totP
    change Calls Try.prog 69 _ _ _ at hc
    rw [← ea, ← ha, show l.toArray.size = v.len by simpa using hlen] at hc
    refine hc.mono ?_
    rintro e' w' ⟨rfl, n, os, rfl⟩
    rw [show (l.toArray.toList.mergeSort fun x y => !(ltOf cfP) y x) = l.mergeSort leP by rw [ltOf_eq]; rfl]
    obtain ⟨s1, s2, s3⟩ := sortWorld_heap (os := os) (n := n) hw hle
    refine ⟨_, rfl, hK, ⟨?_⟩, s3, ?_, rfl, rfl, rfl, fun _ => Nat.le_add_right _ _⟩
    · intro b c' wr hk
      unfold H.set at hk
      by_cases eb : b = a.block
      · subst eb
        rw [if_pos rfl] at hk
        cases hk
        refine ⟨T, fz, s1, fun hw i hi => hzf rfl i ?_⟩
        simp at hi; omega
      · rw [if_neg eb] at hk
        obtain ⟨T', fz', q1, q2⟩ := g.cells b c' wr hk
        exact ⟨T', fz', (s2 b (Array.getElem?_eq_some_iff.1 q1).1 eb).trans q1, q2⟩
    · intro b hbl hcalm
      have eb : b ≠ a.block := fun eb => by subst eb; exact hcalm _ hb
      exact ⟨by simp [H.set, eb], s2 b hbl eb⟩
theorem slices_SortFunc_api_Edge_api_Edge_hand : Linked Try.prog ⟨69, [.leaf (.o (.sl)), .leaf (.clo 64 [])], [], slices_SortFunc_api_Edge_api_Edge⟩ := by
  refine ⟨⟨Try.f69, _, Try.func69, rfl, by decide⟩, ?_⟩
  intro t args Q h w hr g hF
  obtain ⟨v, u⟩ := t
  simp only [tysOf, Sh.tys, unpackL, shape, SV.of, SV.of0, unpackL0, List.cons_append, List.nil_append] at hr
  obtain ⟨x, us, rfl, hx, hr⟩ := relL_cons.1 hr
  obtain ⟨y, us', rfl, hy, hr⟩ := relL_cons.1 hr
  rw [relL_nil] at hr
  subst hr
  simp only [rel] at hx hy
  obtain ⟨fv, cv, rfl, h1, h2⟩ := hy
  have h1 : fv = #[] := by simpa [relL] using h1
  have h2 : cv = #[] := by simpa [relL] using h2
  subst hx; subst h1; subst h2
  refine (sort_core g (v := v) (K := Q ()) hF).mono ?_
  rintro e w' ⟨h', rfl, hQ, hp, hk⟩
  exact ⟨(), _, h', rfl, by simp [retSV, shape, rel, relL], hQ, hp, hk⟩
end Go.Cz.S
