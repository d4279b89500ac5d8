/- Part of the proof of a law of 28: an engine that runs a function over an abstract heap, and what the functions compute; own work. -/
import Derived.Test.YtpmojjeehmadpaaP28f
set_option linter.unusedVariables false
set_option linter.unusedSimpArgs false
set_option linter.unusedSectionVars false
namespace Go.Cz
set_option maxRecDepth 100000
set_option maxHeartbeats 1000000
set_option linter.unusedSimpArgs false
set_option linter.unusedVariables false
theorem Arr.pair {h : H} {v : Sl} {L : List (Int × Int)} (A : Arr h v eP L) {i : Nat} (hi : i < L.length) {K : Int → Int → HProp} (hK : K L[i].1 L[i].2 h) :
    indexW (i : Int) v 2 (fun a => loadI IntKind.i64 (a.add 0) fun x => loadI IntKind.i64 (a.add 1) fun y => K x y) h := by
  refine A.index (by omega) (by omega) fun a ha => ?_
  have c0 := A.cell (i := i) (j := 0) (x := L[i]) (y := .int .i64 L[i].1) (by simpa [eP] using ha) (List.getElem?_eq_getElem hi) rfl
  have c1 := A.cell (i := i) (j := 1) (x := L[i]) (y := .int .i64 L[i].2) (by simpa [eP] using ha) (List.getElem?_eq_getElem hi) rfl
  exact loadI_i c0 (loadI_i c1 hK)
theorem eqPairs2 (a b c d : Int) : eqPairs [(a, b), (c, d)] = decide ((a, c) = (b, d)) := by
  simp [eqPairs, eqI_eq]
theorem Vec.view {α : Type} {h : H} {v : Sl} {E : Enc α} {C : List α} (V : Vec h v E C) {i : Nat} (hi : i ≤ C.length) :
    Arr h ⟨if v.cap = i then v.a else v.a.map (·.add (i * E.w)), C.length - i, v.cap - i⟩ E (C.drop i) := by
  have := V.arr.slice (w := E.w) rfl (lo := (i : Int)) (hi := (C.length : Int)) (K := fun u' _ => Arr h u' E (C.drop i)) (by omega) (by omega) (Int.le_refl _) (fun u hu _ _ _ => by
    have e : (C.drop (i : Int).toNat).take ((C.length : Int).toNat - (i : Int).toNat) = C.drop i := by
      simp only [Int.toNat_natCast]
      exact List.take_of_length_le (by simp)
    rwa [e] at hu)
  unfold sliceW at this
  simpa using this.2.2.2
theorem flat2_all : ∀ l : List (Int × Int), flat2 l = eP.all l
  | [] => rfl
  | x :: r => by
    have := flat2_all r
    simp only [flat2, this]
    rfl
end Go.Cz
namespace Go.Cz.S
set_option maxRecDepth 100000
set_option maxHeartbeats 1000000
set_option linter.unusedSimpArgs false
set_option linter.unusedVariables false

theorem may_spec {n : Int} {Q : Bool → HProp} {h : H} (hQ : Q (decide (1 ≤ n) && decide (n ≤ 256)) h) : edges_may n Q h := by
  unfold edges_may
  simp only [leI_eq]
  refine with_u (ite_i (fun h1 => ?_) fun h1 => ?_)
  · simpa [h1] using hQ
  · simpa [h1] using hQ
theorem within_spec {n v : Int} {Q : Bool → HProp} {h : H} (hQ : Q (decide (0 ≤ v) && decide (v < n)) h) : edges_within (n, v) Q h := by
  unfold edges_within
  simp only [leI_eq, ltI_eq]
  refine with_u (ite_i (fun h1 => ?_) fun h1 => ?_)
  · simpa [h1] using hQ
  · simpa [h1] using hQ
def badE (n : Int) (x : Int × Int) : Bool := !(decide (0 ≤ x.1) && decide (x.1 < n)) || !(decide (0 ≤ x.2) && decide (x.2 < n)) || decide (x.1 = x.2)
theorem bad_spec {n : Int} {x : Int × Int} {b : Nat} {h : H} (o : Obj h b [.int .i64 n]) {Q : Bool → HProp} (hQ : Q (badE n x) h) : edges_Normal_c1 (x.1, x.2, some (Addr.mk b 0 none)) Q h := by
  unfold edges_Normal_c1
  refine with_u (deref_i (loadI_i (n := n) (o.ld0 rfl) (within_spec (ite_i (fun h1 => ?_) fun h1 => deref_i (loadI_i (n := n) (o.ld0 rfl) (within_spec (ite_i (fun h2 => ?_) fun h2 => ?_)))))))
  · have : badE n x = true := by unfold badE; rw [h1]; rfl
    rw [this] at hQ; exact hQ
  · have : badE n x = true := by unfold badE; rw [h1, h2]; rfl
    rw [this] at hQ; exact hQ
  · have : badE n x = decide (x.1 = x.2) := by unfold badE; rw [h1, h2]; rfl
    rw [this] at hQ
    simp only [eqI_eq]
    exact hQ
theorem contains_spec {v : Sl} {L : List (Int × Int)} {h : H} (A : Arr h v eP L) (hL : L.length ≤ 1000000) {f : (Int × Int) → (Bool → HProp) → HProp} {p : Int × Int → Bool} (hf : ∀ x Q, Q (p x) h → f x Q h) {Q : Bool → HProp} (hQ : Q (L.any p) h) : slices_ContainsFunc_api_Edge_api_Edge (v, f) Q h := by
  unfold slices_ContainsFunc_api_Edge_api_Edge slices_IndexFunc_api_Edge_api_Edge
  simp only [A.len, ltI_eq, leI_eq]
  refine loop_i (fun (s : Int) h' => h' = h ∧ ∃ i : Nat, s = i ∧ i ≤ L.length ∧ ∀ j, (hj : j < i) → ∀ hl : j < L.length, p L[j] = false) (fun s => ((L.length : Int) - s).toNat) ⟨rfl, 0, rfl, Nat.zero_le _, fun j hj => by omega⟩ ?_
  rintro s h' ⟨rfl, i, rfl, hi, hp⟩ k hk
  refine ite_i (fun hlt => ?_) fun hge => ?_
  · have hlt : i < L.length := by simpa using hlt
    refine A.pair hlt (hf _ _ (ite_i (fun h1 => ?_) fun h1 => ?_))
    · have : L.any p = true := List.any_eq_true.2 ⟨L[i], List.getElem_mem hlt, h1⟩
      rw [this] at hQ
      have e : decide ((0 : Int) ≤ (i : Int)) = true := by simp
      rw [e]; exact hQ
    · rw [add_i64 (by omega) (by omega)]
      refine hk _ _ ⟨rfl, i + 1, by simp, by omega, fun j hj hl => ?_⟩ (by omega)
      by_cases e : j = i
      · subst e; exact h1
      · exact hp j (by omega) hl
  · have hi : i = L.length := by have : ¬ (i < L.length) := (by simpa using hge); omega
    have : L.any p = false := by
      rw [Bool.eq_false_iff]
      intro h
      obtain ⟨x, hx, hpx⟩ := List.any_eq_true.1 h
      obtain ⟨j, hj, rfl⟩ := List.getElem_of_mem hx
      rw [hp j (by omega) hj] at hpx; cases hpx
    rw [this] at hQ
    have e : decide ((0 : Int) ≤ -1) = false := by decide
    rw [e]; exact hQ

/-! ## sorting -/
theorem leP_iff {x y : Int × Int} : leP x y = true ↔ ¬ (y.1 < x.1 ∨ y.1 = x.1 ∧ y.2 < x.2) := by
  unfold leP ltP
  rw [Bool.not_eq_true', decide_eq_false_iff_not]
theorem ltP_iff' {x y : Int × Int} : ltP x y = true ↔ (x.1 < y.1 ∨ x.1 = y.1 ∧ x.2 < y.2) := by simp [ltP]
def Rising (L : List (Int × Int)) : Prop := L.Pairwise fun a b => ltP a b = true
theorem sort_rising {L : List (Int × Int)} (h : Rising L) : L.mergeSort leP = L :=
  List.mergeSort_of_pairwise (h.imp fun {a b} hab => by rw [ltP_iff'] at hab; rw [leP_iff]; omega)
theorem sort_le (L : List (Int × Int)) : (L.mergeSort leP).Pairwise fun a b => leP a b = true :=
  List.pairwise_mergeSort (fun a b c h1 h2 => by rw [leP_iff] at *; omega) (fun a b => by
    rw [Bool.or_eq_true, leP_iff, leP_iff]; omega) L

theorem collect_spec {v : Sl} {L : List (Int × Int)} {b : Nat} {h : H} (A : Arr h v eP L) (hL : L.length ≤ 1000000) (o : Obj h b [.slice v.a v.len v.cap]) {Q : Sl → HProp}
    (hQ : ∀ u h', Vec h' u eP L → New h u → Ext h h' → Q u h') : slices_Collect_api_Edge (some (Addr.mk b 0 none)) Q h := by
  unfold slices_Collect_api_Edge
  refine deref_i (loadL_i (v := v) (o.ld0 rfl) ?_)
  unfold collectPW
  have hrow : h.row? v.a (v.len * 2) = some (flat2 L) := by
    have := A.row (w := 2) rfl (K := fun l' _ => l' = eP.all L) rfl
    unfold rowW at this
    obtain ⟨l', q1, _, q2⟩ := this
    rw [q1, q2, flat2_all]
  refine ⟨L, A.len.symm, by omega, hrow, fun e => ?_, fun e cap' rest b' hcap hr hb' => ?_⟩
  · subst e
    exact hQ _ h Vec.nil0 New.nil0 (Ext.refl h)
  · refine hQ _ _ ⟨rfl, hcap, (fun e => by cases e), fun a ha => ?_⟩ ?_ (Ext.set hb')
    · cases ha
      refine ⟨rfl, _, set_same .., ?_, ?_⟩
      · rw [List.length_append, flat2_all, eP.all_len, hr]; simp only [eP]; omega
      · rw [List.drop_zero, flat2_all, List.take_left' (eP.all_len L)]
    · rintro b2 ⟨a, ha, rfl⟩
      cases ha; exact hb'
theorem sortF_spec {v : Sl} {L : List (Int × Int)} {h : H} (V : Vec h v eP L) (hL : L.length ≤ 1000000) {Q : Unit → HProp}
    (hQ : ∀ h', Vec h' v eP (L.mergeSort leP) → Fr v.on h h' → Q () h') : slices_SortFunc_api_Edge_api_Edge (v, ()) Q h := by
  unfold slices_SortFunc_api_Edge_api_Edge sortPW
  have A := V.arr
  have hrow : h.row? v.a (v.len * 2) = some (flat2 L) := by
    have := A.row (w := 2) rfl (K := fun l' _ => l' = eP.all L) rfl
    unfold rowW at this
    obtain ⟨l', q1, _, q2⟩ := this
    rw [q1, q2, flat2_all]
  have hsl : (L.mergeSort leP).length = L.length := (List.mergeSort_perm L leP).length_eq
  refine ⟨L, A.len.symm, by omega, hrow, fun e => ?_, fun e => ?_⟩
  · subst e
    exact hQ h (by simpa using V) (Fr.refl _ _)
  · cases ha : v.a with
    | none => exact absurd ha (A.ne e)
    | some a =>
    refine ⟨a, rfl, ?_⟩
    obtain ⟨k1, c, k2, k3, k4⟩ := V.blk a ha
    unfold storesW
    simp only [k2]
    have hlen : (flat2 (L.mergeSort leP)).length = L.length * 2 := by rw [flat2_all, eP.all_len, hsl]; rfl
    have hle : L.length ≤ v.cap := by rw [← V.len]; exact V.le
    have hw : eP.w = 2 := rfl
    rw [hw] at k3 k4
    rw [hlen]
    refine ⟨k1, by omega, hQ _ ⟨by rw [hsl]; exact V.len, V.le, V.nil, fun a' ha' => ?_⟩ (Fr.set.mono fun k hk => ⟨a, ha, hk.symm⟩)⟩
    rw [ha] at ha'; cases ha'
    refine ⟨k1, _, set_same .., ?_, ?_⟩
    · simp only [List.length_append, List.length_take, List.length_drop, hlen, hw]; omega
    · have h1 : (c.take a.off).length = a.off := by simp; omega
      rw [List.append_assoc, List.drop_left' h1, hsl, hw, List.take_left' hlen, flat2_all]

/-! ## Compact: nothing twice, or fewer -/
theorem compact_spec {v : Sl} {S : List (Int × Int)} {h : H} (V : Vec h v eP S) (hS : S.length ≤ 1000000) {Q : Sl → HProp}
    (h1 : (∀ j, (hj : j + 1 < S.length) → S[j + 1] ≠ S[j]) → Q v h)
    (h2 : ∀ u h' M, Arr h' u eP M → M.length < S.length → Fr v.on h h' → (∃ j, ∃ hj : j + 1 < S.length, S[j + 1] = S[j]) → Q u h') : slices_Compact_api_Edge_api_Edge v Q h := by
  unfold slices_Compact_api_Edge_api_Edge
  have A := V.arr
  simp only [A.len, ltI_eq]
  refine ite_i (fun hs => h1 fun j hj => by have : (S.length : Int) < 2 := (by simpa using hs); omega) fun hs => ?_
  have hs2 : 2 ≤ S.length := by have : ¬ ((S.length : Int) < 2) := (by simpa using hs); omega
  refine loop_i (fun (s : Int) h' => h' = h ∧ ∃ i : Nat, s = i ∧ 1 ≤ i ∧ i ≤ S.length ∧ ∀ j, (hj : j + 1 < i) → ∀ hl : j + 1 < S.length, S[j + 1] ≠ S[j]) (fun s => ((S.length : Int) - s).toNat) ⟨rfl, 1, rfl, Nat.le_refl _, by omega, fun j hj => by omega⟩ ?_
  rintro s h' ⟨rfl, i, rfl, hi1, hi, hp⟩ k hk
  refine ite_i (fun hlt => ?_) fun hge => h1 fun j hj => hp j (by have : ¬ (i < S.length) := (by simpa using hge); omega) hj
  have hlt : i < S.length := by simpa using hlt
  refine A.pair hlt ?_
  rw [show sub .i64 (i : Int) 1 = ((i - 1 : Nat) : Int) by rw [sub_i64 (by omega) (by omega)]; omega]
  refine A.pair (by omega) ?_
  rw [eqPairs2]
  refine ite_i (fun he => ?_) fun he => ?_
  · have he : S[i] = S[i - 1] := of_decide_eq_true he
    have hex : ∃ j, ∃ hj : j + 1 < S.length, S[j + 1] = S[j] := ⟨i - 1, by omega, by simpa [show i - 1 + 1 = i by omega] using he⟩
    have hcap : S.length ≤ v.cap := by rw [← A.len]; exact A.le
    unfold sliceW
    refine ⟨by omega, by omega, by omega, ?_⟩
    simp only [Int.toNat_natCast]
    refine loop_i (fun (p : Int × Int) h3 => ∃ (a b : Nat) (C : List (Int × Int)), p.1 = a ∧ p.2 = b ∧ 1 ≤ b ∧ i ≤ a ∧ a < i + b ∧ i + b ≤ S.length ∧ Vec h3 v eP C ∧ C.length = S.length ∧ Fr v.on h' h3) (fun p => ((S.length : Int) - p.2).toNat)
      ⟨i, 1, S, rfl, rfl, Nat.le_refl _, Nat.le_refl _, by omega, by omega, V, rfl, Fr.refl _ _⟩ ?_
    rintro ⟨a, b⟩ h3 ⟨a, b, C, rfl, rfl, hb1, hia, hab, hbl, V3, hC, F3⟩ k2 hk2
    simp only at *
    have U3 := V3.view (i := i) (by omega)
    rw [hC] at U3
    have hUl : (C.drop i).length = S.length - i := by simp [hC]
    have eb : add .i64 (b : Int) 1 = (b : Int) + 1 := add_i64 (by omega) (by omega)
    refine ite_i (fun hblt => ?_) fun hbge => ?_
    · have hblt : b < S.length - i := by
        have : (b : Int) < ((S.length - i : Nat) : Int) := by simpa using hblt
        omega
      refine with_u (U3.pair (by omega) ?_)
      rw [show sub .i64 (b : Int) 1 = ((b - 1 : Nat) : Int) by rw [sub_i64 (by omega) (by omega)]; omega]
      refine U3.pair (by omega) ?_
      rw [eb]
      refine ite_i (fun hx => ?_) fun hx => ?_
      · refine U3.pair (by omega) ?_
        refine V3.arr.index (by omega) (by omega) fun ad had => ?_
        refine V3.stores (E := eP) (i := a) (x := (C.drop i)[b]) (by simpa [eP] using had) (by omega) rfl fun h4 V4 F4 => ?_
        rw [add_i64 (by omega) (by omega)]
        exact hk2 _ _ ⟨a + 1, b + 1, _, by simp, by simp, by omega, by omega, by omega, by omega, V4, by simp [hC], F3.trans F4⟩ (by simp; omega)
      · exact hk2 _ _ ⟨a, b + 1, C, rfl, by simp, by omega, hia, by omega, by omega, V3, hC, F3⟩ (by simp; omega)
    · refine ⟨by omega, by omega, by omega, ?_⟩
      simp only [Int.toNat_natCast]
      have hne : v.a ≠ none := V3.arr.ne (by intro e; rw [e] at hC; simp at hC; omega)
      cases hva : v.a with
      | none => exact absurd hva hne
      | some ad =>
      obtain ⟨q1, c, q2, q3, q4⟩ := V3.blk ad hva
      have hw : eP.w = 2 := rfl
      rw [hw] at q3 q4
      rw [hC] at q4
      have hlast : ∀ h4, Arr h4 ⟨v.a, a, v.cap⟩ eP (C.take a) → Fr v.on h' h4 → sliceW v 2 0 (a : Int) Q h4 := fun h4 A4 F4 => by
        unfold sliceW
        refine ⟨by omega, by omega, by omega, ?_⟩
        have := h2 ⟨v.a, a, v.cap⟩ h4 (C.take a) A4 (by simp; omega) F4 hex
        simp only [Int.toNat_zero, Int.toNat_natCast, if_neg (show ¬ v.cap = 0 by omega), Nat.zero_mul, Nat.sub_zero]
        rw [hva] at this ⊢
        simp only [Option.map_some, add0]
        exact this
      unfold clearW
      by_cases hz : S.length - a = 0
      · rw [if_pos hz]
        omega
      · rw [if_neg hz]
        refine ⟨ad.add (a * 2), by rw [if_neg (by omega)]; rfl, ?_⟩
        rw [add_eq q1]
        unfold storesW
        simp only [q2]
        have hfl : (List.replicate (S.length - a) [Value.int IntKind.i64 0, Value.int IntKind.i64 0]).flatten.length = (S.length - a) * 2 := by simp
        rw [hfl]
        have A4 : Arr (h3.set ad.block (.cells (c.take (ad.off + a * 2) ++ (List.replicate (S.length - a) [Value.int IntKind.i64 0, Value.int IntKind.i64 0]).flatten ++ c.drop (ad.off + a * 2 + (S.length - a) * 2)) true)) ⟨v.a, a, v.cap⟩ eP (C.take a) := by
          refine ⟨by simp; omega, by simp; omega, (fun e => by rw [hva] at e; cases e), fun a' ha' _ => ?_⟩
          simp only [hva] at ha'
          cases ha'
          refine ⟨q1, _, _, set_same .., ?_, ?_⟩
          · simp only [List.length_append, List.length_take, List.length_drop, hfl, hw]; omega
          · have e1 : (C.take a).length = a := by simp; omega
            rw [e1, hw]
            have e2 : eP.all (C.take a) = ((c.drop ad.off).take (S.length * 2)).take (a * 2) := by
              have := eP.all_take C a
              rw [hw] at this
              rw [← this, ← q4]
            rw [e2, List.take_take, show min (a * 2) (S.length * 2) = a * 2 by omega]
            rw [List.append_assoc, List.drop_append_of_le_length (by simp; omega), List.take_append_of_le_length (by simp; omega), List.drop_take, List.take_take]
            congr 1
            omega
        refine ⟨trivial, by omega, ?_⟩
        have hl := hlast _ A4 (F3.trans (Fr.set.mono fun k hk => ⟨ad, hva, hk.symm⟩))
        unfold sliceW at hl
        rw [hva] at hl
        exact hl
  · rw [add_i64 (by omega) (by omega)]
    refine hk _ _ ⟨rfl, i + 1, by simp, by omega, by omega, fun j hj hl => ?_⟩ (by omega)
    by_cases e : j + 1 = i
    · have he : ¬ (S[i] = S[i - 1]) := of_decide_eq_false he
      subst e
      simpa using he
    · exact hp j (by omega) hl
end Go.Cz.S
