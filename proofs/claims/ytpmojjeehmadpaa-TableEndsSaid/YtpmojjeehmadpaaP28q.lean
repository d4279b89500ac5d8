/- Part of the proof of a law of 28: an engine that runs a function over an abstract heap, and what the functions compute; own work. -/
import Derived.Test.YtpmojjeehmadpaaP28m
set_option linter.unusedVariables false
set_option linter.unusedSimpArgs false
set_option linter.unusedSectionVars false
namespace Go.Cz.S
set_option maxRecDepth 100000
set_option maxHeartbeats 1000000
set_option linter.unusedSimpArgs false
set_option linter.unusedVariables false

/-! ## the document's list of edges -/
theorem less_spec {x y : Int × Int} {h : H} {Q : Bool → HProp} (hQ : Q (ltP x y) h) : ref08_Less (x.1, x.2, y.1, y.2) Q h := by
  unfold ref08_Less
  simp only [ltI_eq, eqI_eq]
  refine with_u (ite_i (fun h1 => ?_) fun h1 => ite_i (fun h2 => ?_) fun h2 => ?_)
  · have : ltP x y = true := ltP_iff'.2 (.inl (by simpa using h1))
    rw [this] at hQ; exact hQ
  · have h1 : ¬ x.1 < y.1 := by simpa using h1
    have h2 : x.1 = y.1 := by simpa using h2
    have : ltP x y = decide (x.2 < y.2) := by
      unfold ltP
      congr 1
      apply propext
      omega
    rw [this] at hQ; exact hQ
  · have h1 : ¬ x.1 < y.1 := by simpa using h1
    have h2 : ¬ x.1 = y.1 := by simpa using h2
    have : ltP x y = false := by
      rw [Bool.eq_false_iff]
      intro h
      rw [ltP_iff'] at h; omega
    rw [this] at hQ; exact hQ
theorem lt_trans' {a b c : Int × Int} (h1 : ltP a b = true) (h2 : ltP b c = true) : ltP a c = true := by rw [ltP_iff'] at *; omega
theorem lt_irr (a : Int × Int) : ltP a a ≠ true := by rw [Ne, ltP_iff']; omega
theorem lt_tri {a b : Int × Int} (h1 : ltP a b ≠ true) (h2 : b ≠ a) : ltP b a = true := by
  rw [Ne, ltP_iff'] at h1
  rw [ltP_iff']
  have : ¬ (b.1 = a.1 ∧ b.2 = a.2) := fun h => h2 (Prod.ext h.1 h.2)
  omega
theorem rising_split {M : List (Int × Int)} (h : Rising M) {e : Int × Int} {p : Nat} (hp : p ≤ M.length) (h1 : ∀ j, (hj : j < p) → ltP (M[j]'(by omega)) e = true) (h2 : ∀ j, p ≤ j → (hj : j < M.length) → ltP e M[j] = true) : Rising (M.take p ++ [e] ++ M.drop p) := by
  unfold Rising at *
  rw [List.pairwise_append, List.pairwise_append]
  refine ⟨⟨List.Pairwise.sublist (List.take_sublist _ _) h, List.pairwise_singleton _ _, fun a ha b hb => ?_⟩, List.Pairwise.sublist (List.drop_sublist _ _) h, fun a ha b hb => ?_⟩
  · rw [List.mem_singleton.1 hb]
    obtain ⟨j, hj, rfl⟩ := List.getElem_of_mem ha
    rw [List.getElem_take]
    exact h1 j (by simp at hj; omega)
  · obtain ⟨j, hj, rfl⟩ := List.getElem_of_mem hb
    rw [List.length_drop] at hj
    rw [List.getElem_drop]
    have hej := h2 (p + j) (by omega) (by omega)
    rcases List.mem_append.1 ha with ha | ha
    · obtain ⟨i, hi, rfl⟩ := List.getElem_of_mem ha
      rw [List.length_take] at hi
      rw [List.getElem_take]
      exact lt_trans' (h1 i (by omega)) hej
    · rw [List.mem_singleton.1 ha]; exact hej
theorem put_spec {v : Sl} {M : List (Int × Int)} {e : Int × Int} {h : H} (A : Arr h v eP M) (R : Rising M) (hl : M.length ≤ 1000) {Q : Sl → HProp}
    (hQ : ∀ u M' h', Arr h' u eP M' → Ext h h' → Rising M' → M'.length ≤ M.length + 1 → ((∀ m ∈ M, ltP m e = true) → M' = M ++ [e]) → (∀ m ∈ M', m ∈ M ∨ m = e) → Q u h') : ref08_put (v, e.1, e.2, true) Q h := by
  unfold ref08_put
  simp only [A.len, ltI_eq]
  refine loop_i (fun (s : Int) h' => h' = h ∧ ∃ p : Nat, s = p ∧ p ≤ M.length ∧ ∀ j, p ≤ j → (hj : j < M.length) → ltP e M[j] = true) (fun s => s.toNat) ⟨rfl, M.length, rfl, Nat.le_refl _, fun j h1 h2 => by omega⟩ ?_
  rintro s h' ⟨rfl, p, rfl, hp, hgt⟩ k hk
  -- what is done where the place is found
  have found : (0 < p → ∀ hp' : p - 1 < M.length, ltP e M[p - 1] ≠ true) → withK
            (fun (t_2 : Bool) =>
              iteW t_2 (Q v)
                (sliceW v 2 0 (p : Int) fun (u : Sl) =>
                  rowW u 2 fun (l : List Value) =>
                    appendW (Sl.mk none 0 0) [Value.int IntKind.i64 0, Value.int IntKind.i64 0] 16 u.len l
                      fun (u : Sl) =>
                      appendW u [Value.int IntKind.i64 0, Value.int IntKind.i64 0] 16 1
                        [Value.int IntKind.i64 e.1, Value.int IntKind.i64 e.2] fun (u : Sl) =>
                        sliceW v 2 (p : Int) (M.length : Int) fun (u_1 : Sl) =>
                          rowW u_1 2 fun (l : List Value) =>
                            appendW u [Value.int IntKind.i64 0, Value.int IntKind.i64 0] 16 u_1.len l Q))
            (fun (k : Bool → HProp) =>
            iteW true
              (iteW (decide (0 < (p : Int)))
                (indexW (sub IntKind.i64 (p : Int) 1) v 2 fun (a : Addr) =>
                  loadI IntKind.i64 (a.add 0) fun (x : Int) =>
                    loadI IntKind.i64 (a.add 1) fun (x_1 : Int) => k (eqPairs [(x, e.1), (x_1, e.2)]))
                (k false))
              (k false)) h' := by
    intro hnl
    refine with_b (decide (∃ hp' : p - 1 < M.length, 0 < p ∧ M[p - 1] = e)) (fun kk hkk => ite_t rfl (ite_i (fun h0 => ?_) fun h0 => ?_)) (ite_i (fun hb => ?_) fun hb => ?_)
    · have h0 : 0 < p := by have : (0 : Int) < p := (by simpa using h0); omega
      rw [show sub .i64 (p : Int) 1 = ((p - 1 : Nat) : Int) by rw [sub_i64 (by omega) (by omega)]; omega]
      refine A.pair (by omega) ?_
      rw [eqPairs2]
      have : decide ((M[p - 1].1, M[p - 1].2) = (e.1, e.2)) = decide (∃ hp' : p - 1 < M.length, 0 < p ∧ M[p - 1] = e) := by
        congr 1
        apply propext
        exact ⟨fun h => ⟨by omega, h0, h⟩, fun ⟨_, _, h⟩ => h⟩
      rw [this]; exact hkk
    · have h0 : ¬ (0 < p) := by have : ¬ ((0 : Int) < p) := (by simpa using h0); omega
      have : decide (∃ hp' : p - 1 < M.length, 0 < p ∧ M[p - 1] = e) = false := decide_eq_false fun ⟨_, h, _⟩ => h0 h
      rw [this] at hkk; exact hkk
    · obtain ⟨q1, q2, q3⟩ := of_decide_eq_true hb
      refine hQ v M h' A (Ext.refl _) R (by omega) (fun hall => ?_) fun m hm => .inl hm
      have := hall _ (List.getElem_mem q1)
      rw [q3] at this
      exact absurd this (lt_irr e)
    · have hb := of_decide_eq_false hb
      refine A.slice (w := 2) rfl (Int.le_refl _) (by omega) (by omega) fun u1 A1 _ hu1 _ => A1.row (w := 2) rfl ?_
      have e1 : (M.drop (0 : Int).toNat).take ((p : Int).toNat - (0 : Int).toNat) = M.take p := by simp
      rw [e1] at A1 ⊢
      have hul : u1.len = (M.take p).length := A1.len
      rw [hul]
      have N0 : Vec h' ⟨none, 0, 0⟩ eP [] := Vec.nil0
      refine N0.append_new (Ext.refl h') New.nil0 (m := M.take p) rfl rfl rfl (by simp; omega) fun u2 h2 V2 E2 N2 _ _ => ?_
      refine V2.append_new E2 N2 (m := [e]) rfl rfl rfl (by simp; omega) fun u3 h3 V3 E3 N3 _ _ => ?_
      have A3 := A.ext E3
      refine A3.slice (w := 2) rfl (by omega) (by omega) (Int.le_refl _) fun u4 A4 _ hu4 _ => A4.row (w := 2) rfl ?_
      have e4 : (M.drop (p : Int).toNat).take ((M.length : Int).toNat - (p : Int).toNat) = M.drop p := by
        simp only [Int.toNat_natCast]; exact List.take_of_length_le (by simp)
      rw [e4] at A4 ⊢
      have hul4 : u4.len = (M.drop p).length := A4.len
      rw [hul4]
      refine V3.append_new E3 N3 (m := M.drop p) rfl rfl rfl (by simp; omega) fun u5 h5 V5 E5 N5 _ _ => ?_
      have hlow : ∀ j, (hj : j < p) → ltP (M[j]'(by omega)) e = true := fun j hj => by
        have h1 := hnl (by omega) (by omega)
        have h2 : M[p - 1]'(by omega) ≠ e := fun h => hb ⟨by omega, by omega, h⟩
        have h3 := lt_tri h1 h2
        by_cases hjp : j = p - 1
        · subst hjp; exact h3
        · exact lt_trans' ((List.pairwise_iff_getElem.1 R) j (p - 1) (by omega) (by omega) (by omega)) h3
      refine hQ u5 (M.take p ++ [e] ++ M.drop p) h5 (by simpa using V5.arr) E5 (rising_split R hp hlow hgt) (by simp; omega) (fun hall => ?_) fun m hm => ?_
      · have : p = M.length := by
          by_cases hpl : p < M.length
          · have h1 := hgt p (Nat.le_refl _) hpl
            have h2 := hall _ (List.getElem_mem hpl)
            exact absurd (lt_trans' h1 h2) (lt_irr e)
          · omega
        subst this
        simp
      · rcases List.mem_append.1 hm with hm | hm
        · rcases List.mem_append.1 hm with hm | hm
          · exact .inl (List.mem_of_mem_take hm)
          · exact .inr (List.mem_singleton.1 hm)
        · exact .inl (List.mem_of_mem_drop hm)
  refine with_u (ite_i (fun h0 => ?_) fun h0 => ?_)
  · have h0 : 0 < p := by have : (0 : Int) < p := (by simpa using h0); omega
    have ep : sub .i64 (p : Int) 1 = ((p - 1 : Nat) : Int) := by rw [sub_i64 (by omega) (by omega)]; omega
    rw [ep]
    refine A.pair (by omega) (less_spec (x := e) (ite_i (fun hlt => ?_) fun hge => ?_))
    · refine hk _ _ ⟨rfl, p - 1, rfl, by omega, fun j h1 h2 => ?_⟩ (by omega)
      by_cases hj : j = p - 1
      · subst hj; exact hlt
      · exact hgt j (by omega) h2
    · have := found fun _ hp' => by rw [hge]; decide
      rw [ep] at this
      exact this
  · have h0 : ¬ (0 < p) := by have : ¬ ((0 : Int) < p) := (by simpa using h0); omega
    refine ite_f rfl ?_
    exact found fun h => absurd h h0
theorem refnormal_spec {n : Int} {v : Sl} {L : List (Int × Int)} {h : H} (A : Arr h v eP L) (hL : L.length ≤ 900) {Q : Sl × Int → HProp}
    (hbad : badG n L = true → ∀ h', Ext h h' → Q (Sl.mk none 0 0, 2) h')
    (hgood : badG n L = false → ∀ u M h', Arr h' u eP M → Ext h h' → (Rising L → M = L) → Rising M → M.length ≤ L.length → (∀ m ∈ M, m ∈ L) → Q (u, 0) h') : ref08_Normal (n, v) Q h := by
  unfold ref08_Normal
  simp only [A.len, ltI_eq, eqI_eq, leI_eq]
  refine with_b (!(decide (1 ≤ n) && decide (n ≤ 256))) (fun k hk => ?_) ?_
  · refine ite_i (fun h1 => ?_) fun h1 => ?_
    · have h1 : n < 1 := by simpa using h1
      rw [decide_eq_false (show ¬ (1 ≤ n) by omega)] at hk
      exact hk
    · have h1 : ¬ n < 1 := by simpa using h1
      rw [decide_eq_true (show 1 ≤ n by omega), Bool.true_and] at hk
      have : (!decide (n ≤ 256)) = decide (256 < n) := by
        by_cases h : n ≤ 256 <;> simp [h] <;> omega
      rw [this] at hk; exact hk
  · refine ite_i (fun hb => hbad (by unfold badG; rw [hb]; rfl) h (Ext.refl h)) fun hb => ?_
    have hbG : badG n L = L.any (badE n) := by unfold badG; rw [hb]; rfl
    refine loop_i (fun (s : Sl × Int) h' => ∃ (i : Nat) (M : List (Int × Int)), s.2 = i ∧ i ≤ L.length ∧ Arr h' s.1 eP M ∧ Ext h h' ∧ Rising M ∧ M.length ≤ i ∧ (∀ j, (hj : j < i) → ∀ hl : j < L.length, badE n L[j] = false) ∧ (Rising L → M = L.take i) ∧ (∀ m ∈ M, m ∈ L)) (fun s => ((L.length : Int) - s.2).toNat)
      ⟨0, [], rfl, Nat.zero_le _, Vec.nil0.arr, Ext.refl h, List.Pairwise.nil, Nat.le_refl _, fun j hj => by omega, fun _ => by simp, by simp⟩ ?_
    rintro ⟨u, i⟩ h' ⟨i, M, rfl, hi, U, E, R, hM, hgd, hsame, hmem⟩ k hk
    simp only at *
    refine ite_i (fun hlt => ?_) fun hge => ?_
    · have hlt : i < L.length := by simpa using hlt
      refine (A.ext E).pair hlt ?_
      have eb : badE n L[i] = (decide (L[i].1 < 0) || (decide (n ≤ L[i].1) || (decide (L[i].2 < 0) || (decide (n ≤ L[i].2) || decide (L[i].1 = L[i].2))))) := by
        unfold badE
        by_cases h1 : L[i].1 < 0 <;> by_cases h2 : n ≤ L[i].1 <;> by_cases h3 : L[i].2 < 0 <;> by_cases h4 : n ≤ L[i].2 <;> simp [h1, h2, h3, h4] <;> omega
      refine with_b (badE n L[i]) (fun kk hkk => ?_) (ite_i (fun hbe => ?_) fun hbe => ?_)
      · rw [eb] at hkk
        refine ite_i (fun h1 => ?_) fun h1 => ite_i (fun h2 => ?_) fun h2 => ite_i (fun h3 => ?_) fun h3 => ite_i (fun h4 => ?_) fun h4 => ?_
        · rw [h1] at hkk; exact hkk
        · rw [h1, h2] at hkk; exact hkk
        · rw [h1, h2, h3] at hkk; exact hkk
        · rw [h1, h2, h3, h4] at hkk; exact hkk
        · rw [h1, h2, h3, h4] at hkk; exact hkk
      · exact hbad (by rw [hbG]; exact List.any_eq_true.2 ⟨_, List.getElem_mem hlt, hbe⟩) h' E
      · refine put_spec (e := L[i]) U R (by omega) fun u' M' h2 U2 E2 R2 hl2 happ hm2 => ?_
        rw [add_i64 (by omega) (by omega)]
        refine hk _ _ ⟨i + 1, M', by simp, by omega, U2, E.trans E2, R2, by omega, fun j hj hl => ?_, fun hR => ?_, fun m hm => (hm2 m hm).elim (hmem m) fun e => e ▸ List.getElem_mem hlt⟩ (by simp; omega)
        · by_cases e : j = i
          · subst e; exact hbe
          · exact hgd j (by omega) hl
        · have hMi := hsame hR
          rw [happ fun m hm => ?_, hMi, List.take_add_one, List.getElem?_eq_getElem hlt]; rfl
          rw [hMi] at hm
          obtain ⟨j, hj, rfl⟩ := List.getElem_of_mem hm
          rw [List.length_take] at hj
          rw [List.getElem_take]
          exact (List.pairwise_iff_getElem.1 hR) j i (by omega) hlt (by omega)
    · have hi : i = L.length := by have : ¬ (i < L.length) := (by simpa using hge); omega
      subst hi
      refine ite_f (by rw [U.len]; simp; omega) ?_
      refine hgood ?_ u M h' U E (fun hR => by rw [hsame hR, List.take_length]) R hM hmem
      rw [hbG, Bool.eq_false_iff]
      intro h
      obtain ⟨x, hx, hpx⟩ := List.any_eq_true.1 h
      obtain ⟨j, hj, rfl⟩ := List.getElem_of_mem hx
      rw [hgd j hj hj] at hpx; cases hpx
end Go.Cz.S

namespace Go.Cz.S
set_option maxRecDepth 100000
set_option maxHeartbeats 1000000
set_option linter.unusedSimpArgs false
set_option linter.unusedVariables false

theorem same_spec {a b : Sl} {L M : List (Int × Int)} {h : H} (A : Arr h a eP L) (B : Arr h b eP M) (hL : L.length ≤ 1000000) {Q : Bool → HProp} (hQ : Q (decide (L = M)) h) : ref16_same (a, b) Q h := by
  unfold ref16_same
  simp only [A.len, B.len, ltI_eq, eqI_eq]
  refine ite_i (fun hne => ?_) fun heq => ?_
  · have : ¬ (L = M) := fun e => by subst e; simp at hne
    rw [decide_eq_false this] at hQ; exact hQ
  · have heq : L.length = M.length := by have : (L.length : Int) = M.length := (by simpa using heq); omega
    refine loop_i (fun (s : Int) h' => h' = h ∧ ∃ i : Nat, s = i ∧ i ≤ L.length ∧ ∀ j, (hj : j < i) → ∀ hl : j < L.length, ∀ hm : j < M.length, L[j] = M[j]) (fun s => ((L.length : Int) - s).toNat) ⟨rfl, 0, rfl, Nat.zero_le _, fun j hj => by omega⟩ ?_
    rintro s h' ⟨rfl, i, rfl, hi, hp⟩ k hk
    refine ite_i (fun hlt => ?_) fun hge => ?_
    · have hlt : i < L.length := by simpa using hlt
      refine A.pair hlt (B.pair (by omega) ?_)
      rw [eqPairs2]
      refine ite_i (fun hne => ?_) fun he => ?_
      · have hne : ¬ (L[i] = M[i]) := by
          rw [Bool.not_eq_true'] at hne
          exact of_decide_eq_false hne
        have : ¬ (L = M) := fun e => by subst e; exact hne rfl
        rw [decide_eq_false this] at hQ; exact hQ
      · have he : L[i] = M[i] := by
          rw [Bool.not_eq_false'] at he
          exact of_decide_eq_true he
        rw [add_i64 (by omega) (by omega)]
        refine hk _ _ ⟨rfl, i + 1, by simp, by omega, fun j hj hl hm => ?_⟩ (by omega)
        by_cases e : j = i
        · subst e; exact he
        · exact hp j (by omega) hl hm
    · have hi : i = L.length := by have : ¬ (i < L.length) := (by simpa using hge); omega
      have : L = M := List.ext_getElem heq fun j h1 h2 => hp j (by omega) h1 h2
      rw [decide_eq_true this] at hQ; exact hQ
theorem refcheck3 {n : Int} (n0 : 1 ≤ n) (n1 : n ≤ 256) {h : H} {Q : Int → HProp} (hQ : Q 0 h) : ref16_Check (3, 0, 0, 0, n) Q h := by
  unfold ref16_Check
  simp only [eqI_eq, ltI_eq]
  refine with_u (ite_f rfl (ite_f rfl (ite_t rfl (with_u ?_))))
  refine ite_f (by simp; omega) (ite_f (by simp; omega) (ite_f rfl (ite_f rfl (ite_f rfl (ite_f rfl hQ)))))
theorem refuses_spec {n : Int} {v : Sl} {L : List (Int × Int)} {h : H} (A : Arr h v eP L) (hL : L.length ≤ 900) {Q : Int → HProp}
    (hno : ¬ Valid n L → ∀ h', Ext h h' → Q 2 h') (hyes : Valid n L → ∀ h', Ext h h' → Q 0 h') : ref16_Refuses (n, v, 3, 0, 0, 0) Q h := by
  unfold ref16_Refuses
  simp only [eqI_eq]
  refine refnormal_spec A hL (fun hb h1 e1 => ?_) fun hb u M h1 U e1 hR1 hR hM _ => ?_
  · exact ite_t rfl (hno (fun hv => by rw [hv.1] at hb; cases hb) h1 e1)
  · refine ite_f rfl (same_spec (A.ext e1) U (by omega) (ite_i (fun hne => ?_) fun heq => ?_))
    · have hne : ¬ (L = M) := by
        rw [Bool.not_eq_true'] at hne
        exact of_decide_eq_false hne
      exact hno (fun hv => hne (hR1 hv.2).symm) h1 e1
    · have heq : L = M := by
        rw [Bool.not_eq_false'] at heq
        exact of_decide_eq_true heq
      have hv : Valid n L := ⟨hb, by rw [heq]; exact hR⟩
      exact refcheck3 hv.n.1 hv.n.2 (hyes hv h1 e1)
theorem refcut_spec {n k : Int} {h : H} {Q : Sl × Int → HProp} (hno : cutOk n k = false → Q (Sl.mk none 0 0, 2) h) (hyes : cutOk n k = true → ∀ v h', Ext h h' → Q (v, 0) h') : ref09_Cut (n, k) Q h := by
  unfold ref09_Cut
  simp only [ltI_eq]
  refine with_b (!cutOk n k) (fun kk hk => ?_) ?_
  · have e : (!cutOk n k) = (decide (n < 1) || (decide (256 < n) || (decide (k < 1) || (decide (n < k) || decide (16 < k))))) := by
      unfold cutOk
      by_cases h1 : n < 1 <;> by_cases h2 : 256 < n <;> by_cases h3 : k < 1 <;> by_cases h4 : n < k <;> by_cases h5 : 16 < k <;> simp [h1, h2, h3, h4, h5] <;> omega
    rw [e] at hk
    refine ite_i (fun h1 => ?_) fun h1 => ite_i (fun h2 => ?_) fun h2 => ite_i (fun h3 => ?_) fun h3 => ite_i (fun h4 => ?_) fun h4 => ?_
    · rw [h1] at hk; exact hk
    · rw [h1, h2] at hk; exact hk
    · rw [h1, h2, h3] at hk; exact hk
    · rw [h1, h2, h3, h4] at hk; exact hk
    · rw [h1, h2, h3, h4] at hk; exact hk
  · refine ite_i (fun hc => hno (by simpa using hc)) fun hc => ?_
    have hc : cutOk n k = true := by simpa using hc
    have hc' := hc
    unfold cutOk at hc'
    simp at hc'
    obtain ⟨k', rfl⟩ : ∃ k' : Nat, k = k' := ⟨k.toNat, by omega⟩
    refine loop_i (fun (s : Sl × Int) h' => ∃ (j : Nat) (l : List (Int × Int)), s.2 = j ∧ j ≤ k' ∧ l.length = j ∧ Vec h' s.1 eP l ∧ New h s.1 ∧ Ext h h') (fun s => ((k' : Int) - s.2).toNat) ⟨0, [], rfl, Nat.zero_le _, rfl, Vec.nil0, New.nil0, Ext.refl h⟩ ?_
    rintro ⟨v, j⟩ h' ⟨j, l, rfl, hj, hll, V, N, E⟩ kk hk
    simp only at *
    refine ite_i (fun hlt => ?_) fun hge => hyes hc v h' E
    have hlt : j < k' := by simpa using hlt
    refine must_i (by omega) (must_i (by omega) ?_)
    refine V.append_new E N (m := [(_, _)]) rfl rfl rfl (by omega) fun u h2 V2 E2 N2 _ _ => ?_
    rw [show add .i64 (j : Int) 1 = (j : Int) + 1 from add_i64 (by omega) (by omega)]
    exact hk _ _ ⟨j + 1, _, by simp, by omega, by simp [hll], V2, N2, E2⟩ (by simp; omega)
theorem refnew_spec {n : Int} {v : Sl} {L : List (Int × Int)} {k tot : Int} {h : H} (A : Arr h v eP L) (hL : L.length ≤ 900) {Q : Option Addr × Int → HProp}
    (hno : ¬ newOk n L k tot → ∀ h', Ext h h' → Q (none, 2) h') (hyes : newOk n L k tot → ∀ b h', Ext h h' → Q (some (at0 b), 0) h') : ref28_New (n, v, k, tot) Q h := by
  unfold ref28_New
  simp only [eqI_eq, ltI_eq]
  refine refuses_spec A hL (fun hx h1 E1 => ?_) fun hv h1 E1 => ?_
  · exact ite_t rfl (hno (fun hy => hx hy.1) h1 E1)
  · refine ite_f rfl (refcut_spec (fun hc => ?_) fun hc u h2 E2 => ?_)
    · exact ite_t rfl (hno (fun hy => by rw [hy.2.1] at hc; cases hc) h1 E1)
    · refine ite_f rfl ?_
      have E12 := E1.trans E2
      refine with_b (!decide (1 ≤ tot ∧ tot ≤ 1099511627776)) (fun k hk => ?_) ?_
      · refine ite_i (fun h1 => ?_) fun h1 => ?_
        · have h1 : tot < 1 := by simpa using h1
          rw [decide_eq_false (show ¬ (1 ≤ tot ∧ tot ≤ 1099511627776) by omega)] at hk
          exact hk
        · have h1 : ¬ tot < 1 := by simpa using h1
          have e : (!decide (1 ≤ tot ∧ tot ≤ 1099511627776)) = decide (1099511627776 < tot) := by
            by_cases h2 : tot ≤ 1099511627776
            · rw [decide_eq_true (show 1 ≤ tot ∧ tot ≤ 1099511627776 from ⟨by omega, h2⟩), decide_eq_false (show ¬ (1099511627776 < tot) by omega)]; rfl
            · rw [decide_eq_false (show ¬ (1 ≤ tot ∧ tot ≤ 1099511627776) by omega), decide_eq_true (show 1099511627776 < tot by omega)]; rfl
          rw [e] at hk
          exact hk
      · refine ite_i (fun ht => hno (fun hy => by rw [decide_eq_true hy.2.2] at ht; cases ht) h2 E12) fun ht => ?_
        have ht : 1 ≤ tot ∧ tot ≤ 1099511627776 := by simpa using ht
        refine Obj.new fun b0 h3 o3 n3 e3 => ?_
        refine ((A.ext E12).ext e3).row (w := 2) rfl ?_
        simp only [A.len]
        have V0 : Vec h3 ⟨some ⟨b0, 0, none⟩, 0, 0⟩ eP [] := ⟨rfl, Nat.le_refl _, (fun e => by cases e), fun a ha => by
          cases ha
          exact ⟨rfl, [], o3, by simp, by simp [Enc.all]⟩⟩
        refine V0.append_new e3 (fun x hx => by obtain ⟨a, ha, rfl⟩ := hx; cases ha; exact n3) (m := L) rfl rfl rfl (by simp; omega) fun u h4 V4 E4 N4 _ _ => ?_
        exact Obj.new fun b5 h5 o5 n5 e5 => hyes ⟨hv, hc, ht⟩ b5 h5 ((E12.trans E4).trans e5)
theorem tableNew_spec {n k tot : Int} {v : Sl} {L : List (Int × Int)} {h : H} (A : Arr h v eP L) {Q : Bool → HProp} (hQ : ∀ h', Ext h h' → Q true h') : law28_TableNew (n, v, k, tot) Q h := by
  unfold law28_TableNew
  simp only [eqI_eq, ltI_eq, leI_eq, A.len]
  refine ite_i (fun _ => keeps_spec hQ) fun hl => ?_
  have hl : L.length ≤ 200 := by have : ¬ ((200 : Int) < (L.length : Int)) := (by simpa using hl); omega
  refine ite_t rfl (ite_t rfl (ite_t rfl (ite_t rfl ?_)))
  by_cases hok : newOk n L k tot
  · refine new_spec A (by omega) (fun hx => absurd hok hx) fun _ b lv h2 T2 e2 nb => ?_
    refine refnew_spec (A.ext e2) (by omega) (fun hx => absurd hok hx) fun _ b3 h3 e3 => ?_
    refine with_u (ite_t rfl (ite_t (by rw [isNilP_some]; rfl) (keeps_spec fun h' e => hQ h' ((e2.trans e3).trans e))))
  · refine new_spec A (by omega) (fun _ h2 e2 => ?_) fun hx => absurd hx hok
    refine refnew_spec (A.ext e2) (by omega) (fun _ h3 e3 => ?_) fun hx => absurd hx hok
    refine with_u (ite_t rfl (ite_t (by rw [isNilP_none]; rfl) (keeps_spec fun h' e => hQ h' ((e2.trans e3).trans e))))
end Go.Cz.S
