/- Part of the proof of a law of 28: an engine that runs a function over an abstract heap, and what the functions compute; own work. -/
import Derived.Test.YtpmojjeehmadpaaP28g
set_option linter.unusedVariables false
set_option linter.unusedSimpArgs false
set_option linter.unusedSectionVars false
namespace Go.Cz.S
set_option maxRecDepth 100000
set_option maxHeartbeats 1000000
set_option linter.unusedSimpArgs false
set_option linter.unusedVariables false

def badG (n : Int) (L : List (Int × Int)) : Bool := !(decide (1 ≤ n) && decide (n ≤ 256)) || L.any (badE n)
theorem rising_of {S : List (Int × Int)} (hp : S.Pairwise fun a b => leP a b = true) (hd : ∀ j, (hj : j + 1 < S.length) → S[j + 1] ≠ S[j]) : Rising S := by
  unfold Rising
  rw [List.pairwise_iff_getElem] at *
  intro i j hi hj hij
  have h1 := hp i (i + 1) hi (by omega) (by omega)
  have h2 := hd i (by omega)
  rw [ltP_iff']
  rw [leP_iff] at h1
  have hne : ¬ (S[i + 1].1 = S[i].1 ∧ S[i + 1].2 = S[i].2) := fun h => h2 (Prod.ext h.1 h.2)
  by_cases e : i + 1 = j
  · subst e; omega
  · have h3 := hp (i + 1) j (by omega) hj (by omega)
    rw [leP_iff] at h3
    omega
theorem rising_ne {S : List (Int × Int)} (h : Rising S) (j : Nat) (hj : j + 1 < S.length) : S[j + 1] ≠ S[j] := fun e => by
  have := (List.pairwise_iff_getElem.1 h) j (j + 1) (by omega) hj (by omega)
  rw [e, ltP_iff'] at this
  omega
theorem normal_spec {n : Int} {v : Sl} {L : List (Int × Int)} {h : H} (A : Arr h v eP L) (hL : L.length ≤ 4096) {Q : Sl × Int → HProp}
    (hbad : badG n L = true → ∀ h', Ext h h' → Q (Sl.mk none 0 0, 2) h')
    (hgood : badG n L = false → ∀ u M h', Arr h' u eP M → Ext h h' → (Rising L → M = L) → (M = L → Rising L) → Q (u, 0) h') : edges_Normal (n, v) Q h := by
  unfold edges_Normal
  refine Obj.new fun b h1 o1 n1 e1 => ?_
  refine with_b (badG n L) (fun k hk => ?_) ?_
  · refine loadI_i (n := n) (o1.ld0 rfl) (may_spec (ite_i (fun hm => ?_) fun hm => ?_))
    · have : badG n L = true := by unfold badG; rw [hm]; rfl
      rw [this] at hk; exact hk
    · have : badG n L = L.any (badE n) := by unfold badG; rw [hm]; rfl
      rw [this] at hk
      exact contains_spec (p := badE n) (A.ext e1) (by omega) (fun x Q hQ => bad_spec o1 hQ) hk
  · refine ite_i (fun hb => hbad hb h1 e1) fun hb => ?_
    unfold slices_Values_api_Edge_api_Edge slices_SortedFunc_api_Edge
    refine Obj.new fun b2 h2 o2 n2 e2 => ?_
    refine collect_spec ((A.ext e1).ext e2) (by omega) o2 fun u h3 V3 N3 E3 => ?_
    refine sortF_spec V3 (by omega) fun h4 V4 F4 => ?_
    have N3' : New h u := fun b hb => e1.none (e2.none (N3 b hb))
    have E4 : Ext h h4 := ((e1.trans e2).trans E3).of_new F4 N3'
    have hsl : (L.mergeSort leP).length = L.length := (List.mergeSort_perm L leP).length_eq
    refine compact_spec V4 (by omega) (fun hd => ?_) fun u5 h5 M A5 hM F5 hex => ?_
    · refine ite_f (by simp only [ltI_eq, V4.len, decide_eq_false_iff_not]; omega) ?_
      refine hgood hb u _ h4 V4.arr E4 (fun h => sort_rising h) fun he => ?_
      have := rising_of (sort_le L) hd
      rwa [he] at this
    · refine ite_f (by simp only [ltI_eq, A5.len, decide_eq_false_iff_not]; omega) ?_
      refine hgood hb u5 M h5 A5 (E4.of_new F5 N3') (fun h => ?_) fun he => ?_
      · obtain ⟨j, hj, he⟩ := hex
        have := rising_ne h
        rw [← sort_rising h] at this
        exact absurd he (this j hj)
      · rw [he] at hM; omega
theorem equal_spec {a b : Sl} {L M : List (Int × Int)} {h : H} (A : Arr h a eP L) (B : Arr h b eP M) (hL : L.length ≤ 1000000) {Q : Bool → HProp} (hQ : Q (decide (L = M)) h) : slices_Equal_api_Edge_api_Edge (a, b) Q h := by
  unfold slices_Equal_api_Edge_api_Edge
  simp only [A.len, B.len, ltI_eq, eqI_eq]
  refine ite_i (fun hne => ?_) fun heq => ?_
  · have : ¬ (L = M) := fun e => by subst e; simp at hne
    rw [decide_eq_false this] at hQ; exact hQ
  · have heq : L.length = M.length := by have : (L.length : Int) = M.length := (by simpa using heq); omega
    refine loop_i (fun (s : Int) h' => h' = h ∧ ∃ i : Nat, s = i ∧ i ≤ L.length ∧ ∀ j, (hj : j < i) → ∀ hl : j < L.length, ∀ hm : j < M.length, L[j] = M[j]) (fun s => ((L.length : Int) - s).toNat) ⟨rfl, 0, rfl, Nat.zero_le _, fun j hj => by omega⟩ ?_
    rintro s h' ⟨rfl, i, rfl, hi, hp⟩ k hk
    refine ite_i (fun hlt => ?_) fun hge => ?_
    · have hlt : i < L.length := by simpa using hlt
      refine A.pair hlt (B.pair (by omega) ?_)
      rw [eqPairs2]
      refine ite_i (fun hne => ?_) fun he => ?_
      · have hne : ¬ (L[i] = M[i]) := by
          rw [Bool.not_eq_true'] at hne
          exact of_decide_eq_false hne
        have : ¬ (L = M) := fun e => by subst e; exact hne rfl
        rw [decide_eq_false this] at hQ; exact hQ
      · have he : L[i] = M[i] := by
          rw [Bool.not_eq_false'] at he
          exact of_decide_eq_true he
        rw [add_i64 (by omega) (by omega)]
        refine hk _ _ ⟨rfl, i + 1, by simp, by omega, fun j hj hl hm => ?_⟩ (by omega)
        by_cases e : j = i
        · subst e; exact he
        · exact hp j (by omega) hl hm
    · have hi : i = L.length := by have : ¬ (i < L.length) := (by simpa using hge); omega
      have : L = M := List.ext_getElem heq fun j h1 h2 => hp j (by omega) h1 h2
      rw [decide_eq_true this] at hQ; exact hQ
/-- the edges of a graph of n vertices, as they should be -/
def Valid (n : Int) (L : List (Int × Int)) : Prop := badG n L = false ∧ Rising L
theorem Valid.n {n : Int} {L : List (Int × Int)} (v : Valid n L) : 1 ≤ n ∧ n ≤ 256 := by
  have h := v.1
  unfold badG at h
  rw [Bool.or_eq_false_iff] at h
  have := h.1
  simp at this
  exact this
theorem Valid.e {n : Int} {L : List (Int × Int)} (v : Valid n L) : ∀ e ∈ L, 0 ≤ e.1 ∧ e.1 < n ∧ 0 ≤ e.2 ∧ e.2 < n := fun e he => by
  have h := v.1
  unfold badG at h
  rw [Bool.or_eq_false_iff] at h
  have h2 := List.any_eq_false.1 h.2 e he
  unfold badE at h2
  simp at h2
  omega
theorem run_spec {n : Int} {v : Sl} {L : List (Int × Int)} {kind arg prio need : Int} {h : H} (A : Arr h v eP L) (hL : L.length ≤ 4096) {Q : Sl × Int × Int → HProp}
    (hno : ¬ (Valid n L ∧ okReq kind arg prio n = true) → ∀ h', Ext h h' → Q (Sl.mk none 0 0, 0, 2) h')
    (hyes : Valid n L → okReq kind arg prio n = true → ∀ r m h' outL, Vec h' r (eI .u64) outL → outL.length = n.toNat → New h r → Ext h h' → 1 ≤ m → m ≤ 300 → (kind = 2 → m = arg) → Q (r, m, 0) h') :
    truth_run (n, v, kind, arg, prio, need) Q h := by
  unfold truth_run
  simp only [eqI_eq]
  refine normal_spec A hL (fun hb h1 e1 => ?_) fun hb u M h1 A1 e1 hr1 hr2 => ?_
  · refine with_u (with_u (ite_f rfl (ite_f rfl ?_)))
    refine with_u (ite_f rfl (ite_t rfl (hno (fun hv => ?_) h1 e1)))
    rw [hv.1.1] at hb; cases hb
  · refine with_u (with_u (ite_t rfl (equal_spec (A.ext e1) A1 (by omega) (ite_i (fun hne => ?_) fun heq => ?_))))
    · have hne : ¬ (L = M) := by
        rw [Bool.not_eq_true'] at hne
        exact of_decide_eq_false hne
      refine with_u (ite_f rfl (ite_t rfl (hno (fun hv => ?_) h1 e1)))
      exact hne (hr1 hv.1.2).symm
    · have heq : L = M := by
        rw [Bool.not_eq_false'] at heq
        exact of_decide_eq_true heq
      have hv : Valid n L := ⟨hb, hr2 heq.symm⟩
      refine with_u (ite_t rfl (check_spec ?_))
      by_cases hok : okReq kind arg prio n = true
      · rw [if_pos hok]
        refine ite_f rfl ?_
        obtain ⟨n1, n2⟩ := hv.n
        obtain ⟨m, rfl⟩ : ∃ m : Nat, n = m := ⟨n.toNat, by omega⟩
        refine of_spec (by omega) (by omega) (A.ext e1) hL hv.e fun vo va h2 Ro Ra e2 => ?_
        have E2 := e1.trans e2
        have hy := hyes hv hok
        simp only [eqI_eq, Int.toNat_natCast] at hy ⊢
        unfold okReq at hok
        refine ite_i (fun k1 => ?_) fun k1 => ite_i (fun k2 => ?_) fun k2 => ite_i (fun k3 => ?_) fun k3 => ?_
        · have k1 : kind = 1 := by simpa using k1
          subst k1
          simp at hok
          obtain ⟨a, rfl⟩ : ∃ a : Nat, arg = a := ⟨arg.toNat, by omega⟩
          refine far_spec (by omega) (by omega) (by omega) Ro fun r h3 outL V3 hl3 hd3 N3 E3 => ?_
          refine greatest_spec V3.arr (by omega) hd3 fun g g0 g1 => ?_
          rw [add_i64 (by omega) (by omega)]
          exact hy r _ h3 outL V3 hl3 (fun b hb => E2.none (N3 b hb)) (E2.trans E3) (by omega) (by omega) (fun e => by cases e)
        · have k2 : kind = 2 := by simpa using k2
          subst k2
          simp at hok
          refine rank_spec (by omega) (by omega) (by omega) Ro fun r h3 outL V3 hl3 N3 E3 => ?_
          exact hy r _ h3 outL V3 hl3 (fun b hb => E2.none (N3 b hb)) (E2.trans E3) (by omega) (by omega) (fun _ => rfl)
        · have k3 : kind = 3 := by simpa using k3
          subst k3
          refine labels_spec (by omega) (by omega) Ra fun r g h3 outL V3 hl3 g0 g1 N3 E3 => ?_
          simp only []
          rw [add_i64 (by omega) (by omega)]
          exact hy r _ h3 outL V3 hl3 (fun b hb => E2.none (N3 b hb)) (E2.trans E3) (by omega) (by omega) (fun e => by cases e)
        · have k2 : ¬ kind = 2 := by simpa using k2
          refine cores_spec (by omega) (by omega) Ra fun r g h3 outL V3 hl3 g0 g1 N3 E3 => ?_
          simp only []
          rw [add_i64 (by omega) (by omega)]
          exact hy r _ h3 outL V3 hl3 (fun b hb => E2.none (N3 b hb)) (E2.trans E3) (by omega) (by omega) (fun e => absurd e k2)
      · rw [if_neg hok]
        exact ite_t rfl (hno (fun h => hok h.2) h1 e1)
end Go.Cz.S
