/- Part of the proof of a law of 29: an engine that runs a function over an abstract heap, and what the functions compute; own work. -/
import Derived.Test.YtaoocldgpnmfkaaGreatDoorGD
import Derived.Test.YtaoocldgpnmfkaaGreatDoorGC
import Derived.Test.YtaoocldgpnmfkaaGreatDoorGR
set_option linter.unusedVariables false
set_option linter.unusedSimpArgs false
set_option linter.unusedSectionVars false
namespace Go.Cz.S
set_option maxRecDepth 100000
set_option maxHeartbeats 1000000
set_option linter.unusedSimpArgs false
set_option linter.unusedVariables false
def okReq (kind arg prio : Int) (n : Int) : Bool :=
  decide (1 ≤ n) && decide (n ≤ 256) && decide (0 ≤ prio) && decide (prio ≤ 7) &&
    (if kind = 1 then decide (0 ≤ arg) && decide (arg < n) else if kind = 2 then decide (1 ≤ arg) && decide (arg ≤ 64) else if kind = 3 then decide (arg = 0) else if kind = 4 then decide (0 ≤ arg) && decide (arg ≤ 4096) else false)
theorem check_spec {kind arg prio need n : Int} {Q : Int → HProp} {h : H} (hQ : Q (if okReq kind arg prio n then 0 else 2) h) : truth_Check (kind, arg, prio, need, n) Q h := by
  unfold truth_Check
  simp only [leI_eq, ltI_eq, eqI_eq]
  refine with_b (decide (1 ≤ n) && decide (n ≤ 256) && decide (0 ≤ prio) && decide (prio ≤ 7)) (fun k hk => ?_) ?_
  · refine ite_i (fun h1 => ite_i (fun h2 => ite_i (fun h3 => ?_) fun h3 => ?_) fun h2 => ?_) fun h1 => ?_
    · simpa [h1, h2, h3] using hk
    · simpa [h1, h2, h3] using hk
    · simpa [h1, h2] using hk
    · simpa [h1] using hk
  · generalize hg : (decide (1 ≤ n) && decide (n ≤ 256) && decide (0 ≤ prio) && decide (prio ≤ 7)) = g
    refine with_b (okReq kind arg prio n) (fun k hk => ?_) ?_
    · unfold okReq at hk
      rw [hg] at hk
      refine ite_i (fun k1 => ?_) fun k1 => ite_i (fun k2 => ?_) fun k2 => ite_i (fun k3 => ?_) fun k3 => ite_i (fun k4 => ?_) fun k4 => ?_
      · have k1 : kind = 1 := by simpa using k1
        rw [if_pos k1] at hk
        refine with_u (ite_i (fun h1 => ite_i (fun h2 => ?_) fun h2 => ?_) fun h1 => ?_)
        · simpa [h1, h2] using hk
        · simpa [h1, h2] using hk
        · simpa [h1] using hk
      · have k1 : ¬ kind = 1 := by simpa using k1
        have k2 : kind = 2 := by simpa using k2
        rw [if_neg k1, if_pos k2] at hk
        refine with_u (ite_i (fun h1 => ite_i (fun h2 => ?_) fun h2 => ?_) fun h1 => ?_)
        · simpa [h1, h2] using hk
        · simpa [h1, h2] using hk
        · simpa [h1] using hk
      · have k1 : ¬ kind = 1 := by simpa using k1
        have k2 : ¬ kind = 2 := by simpa using k2
        have k3 : kind = 3 := by simpa using k3
        rw [if_neg k1, if_neg k2, if_pos k3] at hk
        refine with_u (ite_i (fun h1 => ?_) fun h1 => ?_)
        · simpa [h1] using hk
        · simpa [h1] using hk
      · have k1 : ¬ kind = 1 := by simpa using k1
        have k2 : ¬ kind = 2 := by simpa using k2
        have k3 : ¬ kind = 3 := by simpa using k3
        have k4 : kind = 4 := by simpa using k4
        rw [if_neg k1, if_neg k2, if_neg k3, if_pos k4] at hk
        refine with_u (ite_i (fun h1 => ite_i (fun h2 => ?_) fun h2 => ?_) fun h1 => ?_)
        · simpa [h1, h2] using hk
        · simpa [h1, h2] using hk
        · simpa [h1] using hk
      · have k1 : ¬ kind = 1 := by simpa using k1
        have k2 : ¬ kind = 2 := by simpa using k2
        have k3 : ¬ kind = 3 := by simpa using k3
        have k4 : ¬ kind = 4 := by simpa using k4
        rw [if_neg k1, if_neg k2, if_neg k3, if_neg k4, Bool.and_false] at hk
        exact hk
    · refine ite_i (fun hc => ?_) fun hc => ?_
      · rw [if_neg (by simpa using hc)] at hQ; exact hQ
      · rw [if_pos (by simpa using hc)] at hQ; exact hQ
set_option maxRecDepth 100000
set_option maxHeartbeats 1000000
set_option linter.unusedSimpArgs false
set_option linter.unusedVariables false
theorem refcheck_spec {kind arg prio need n : Int} {h : H} {Q : Int → HProp} (hQ : Q (if okReq kind arg prio n then 0 else 2) h) : ref16_Check (kind, arg, prio, need, n) Q h := by
  unfold ref16_Check
  simp only [eqI_eq, ltI_eq]
  refine with_b (if kind = 1 then ((0 : Int), sub .i64 n 1) else if kind = 2 then (1, 64) else if kind = 3 then (0, 0) else if kind = 4 then (0, 4096) else (0, -1)) (fun k hk => ?_) ?_
  · refine ite_i (fun k1 => ?_) fun k1 => ite_i (fun k2 => ?_) fun k2 => ite_i (fun k3 => ?_) fun k3 => ite_i (fun k4 => ?_) fun k4 => ?_
    · rw [if_pos (by simpa using k1)] at hk; exact hk
    · rw [if_neg (by simpa using k1), if_pos (by simpa using k2)] at hk; exact hk
    · rw [if_neg (by simpa using k1), if_neg (by simpa using k2), if_pos (by simpa using k3)] at hk; exact hk
    · rw [if_neg (by simpa using k1), if_neg (by simpa using k2), if_neg (by simpa using k3), if_pos (by simpa using k4)] at hk; exact hk
    · rw [if_neg (by simpa using k1), if_neg (by simpa using k2), if_neg (by simpa using k3), if_neg (by simpa using k4)] at hk; exact hk
  · generalize hb : (if kind = 1 then ((0 : Int), sub .i64 n 1) else if kind = 2 then (1, 64) else if kind = 3 then (0, 0) else if kind = 4 then (0, 4096) else (0, -1)) = bo
    have hok : okReq kind arg prio n = decide (¬ (n < 1 ∨ 256 < n ∨ prio < 0 ∨ 7 < prio ∨ arg < bo.1 ∨ bo.2 < arg)) := by
      subst hb
      unfold okReq
      rw [Bool.eq_iff_iff]
      have hs : ¬ (1 ≤ n ∧ n ≤ 256) ∨ sub .i64 n 1 = n - 1 := by
        by_cases hn : 1 ≤ n ∧ n ≤ 256
        · exact .inr (sub_i64 (by omega) (by omega))
        · exact .inl hn
      by_cases k1 : kind = 1
      · simp only [k1, if_true, reduceIte, Bool.and_eq_true, decide_eq_true_eq]; omega
      by_cases k2 : kind = 2
      · rw [if_neg k1, if_pos k2, if_neg k1, if_pos k2]; simp only [Bool.and_eq_true, decide_eq_true_eq]; omega
      by_cases k3 : kind = 3
      · rw [if_neg k1, if_neg k2, if_pos k3, if_neg k1, if_neg k2, if_pos k3]; simp only [Bool.and_eq_true, decide_eq_true_eq]; omega
      by_cases k4 : kind = 4
      · rw [if_neg k1, if_neg k2, if_neg k3, if_pos k4, if_neg k1, if_neg k2, if_neg k3, if_pos k4]; simp only [Bool.and_eq_true, decide_eq_true_eq]; omega
      · rw [if_neg k1, if_neg k2, if_neg k3, if_neg k4, if_neg k1, if_neg k2, if_neg k3, if_neg k4]; simp only [Bool.and_eq_true, decide_eq_true_eq, Bool.false_eq_true, and_false, false_iff]; omega
    refine with_b (!okReq kind arg prio n) (fun k hk => ?_) ?_
    · rw [hok] at hk
      refine ite_i (fun a => ?_) fun a => ite_i (fun b => ?_) fun b => ite_i (fun c => ?_) fun c => ite_i (fun d => ?_) fun d => ite_i (fun e => ?_) fun e => ?_
      · have a := of_decide_eq_true a; simpa [a] using hk
      · have b := of_decide_eq_true b; simpa [b] using hk
      · have c := of_decide_eq_true c; simpa [c] using hk
      · have d := of_decide_eq_true d; simpa [d] using hk
      · have e := of_decide_eq_true e; simpa [e] using hk
      · have a := of_decide_eq_false a; have b := of_decide_eq_false b; have c := of_decide_eq_false c; have d := of_decide_eq_false d; have e := of_decide_eq_false e
        have : (!decide (¬ (n < 1 ∨ 256 < n ∨ prio < 0 ∨ 7 < prio ∨ arg < bo.1 ∨ bo.2 < arg))) = decide (bo.2 < arg) := by
          simp only [a, b, c, d, e, false_or, decide_not, Bool.not_not]
        rw [this] at hk
        exact hk
    · refine ite_i (fun hc => ?_) fun hc => ?_
      · rw [if_neg (by simpa using hc)] at hQ; exact hQ
      · rw [if_pos (by simpa using hc)] at hQ; exact hQ
def bnd (k a p n : Int) : Int := if okReq k a p n then (if k = 2 then a else n + 1) else 0
def dlv (k a p n s : Int) : Int := if 1 ≤ s ∧ s ≤ 16 then bnd k a p n * s else 0
theorem bnd_nn (k a p n : Int) : 0 ≤ bnd k a p n ∧ bnd k a p n ≤ 257 := by
  unfold bnd
  split
  · rename_i h
    unfold okReq at h
    split
    · rename_i hk
      rw [if_neg (by omega), if_pos hk] at h
      simp only [Bool.and_eq_true, decide_eq_true_eq] at h
      omega
    · simp only [Bool.and_eq_true, decide_eq_true_eq] at h
      omega
  · omega
theorem dlv_nn (k a p n s : Int) : 0 ≤ dlv k a p n s ∧ dlv k a p n s ≤ 4112 := by
  have h := bnd_nn k a p n
  unfold dlv
  split
  · rename_i hs
    have h1 := Int.mul_nonneg h.1 (show 0 ≤ s by omega)
    have h2 : bnd k a p n * s ≤ 257 * 16 := Int.mul_le_mul h.2 hs.2 (by omega) (by omega)
    omega
  · omega
theorem ok_n {k a p n : Int} (h : okReq k a p n = true) : 1 ≤ n ∧ n ≤ 256 := by
  unfold okReq at h
  simp only [Bool.and_eq_true, decide_eq_true_eq] at h
  omega
theorem bound_spec {n k a p m : Int} {h : H} {Q : Int → HProp} (hQ : Q (bnd k a p n) h) : truth_Bound (n, k, a, p, m) Q h := by
  unfold truth_Bound truth_Bound_F
  dsimp only
  simp only [eqI_eq]
  refine check_spec ?_
  cases ho : okReq k a p n with
  | false => refine ite_t (by simp) ?_; simpa [bnd, ho] using hQ
  | true =>
    refine ite_f (by simp) ?_
    have hn := ok_n ho
    refine ite_i (fun hk => ?_) fun hk => ?_
    · have hk : k = 2 := by simpa using hk
      unfold bnd at hQ; rw [if_pos ho, if_pos hk] at hQ; exact hQ
    · have hk : ¬ k = 2 := by simpa using hk
      rw [add_i64 (by omega) (by omega)]
      simpa [bnd, ho, hk] using hQ
theorem refbound_spec {n k a p m : Int} {h : H} {Q : Int → HProp} (hQ : Q (bnd k a p n) h) : ref16_Bound (n, k, a, p, m) Q h := by
  unfold ref16_Bound ref16_Bound_F
  dsimp only
  simp only [eqI_eq]
  refine refcheck_spec ?_
  cases ho : okReq k a p n with
  | false => refine ite_t (by simp) ?_; simpa [bnd, ho] using hQ
  | true =>
    refine ite_f (by simp) ?_
    have hn := ok_n ho
    refine ite_i (fun hk => ?_) fun hk => ?_
    · have hk : k = 2 := by simpa using hk
      unfold bnd at hQ; rw [if_pos ho, if_pos hk] at hQ; exact hQ
    · have hk : ¬ k = 2 := by simpa using hk
      rw [add_i64 (by omega) (by omega)]
      simpa [bnd, ho, hk] using hQ
theorem del_spec {k a p m n s : Int} {h : H} {Q : Int → HProp} (hQ : Q (dlv k a p n s) h) : fair_Deliveries (k, a, p, m, n, s) Q h := by
  unfold fair_Deliveries fair_Deliveries_F
  dsimp only
  simp only [ltI_eq]
  refine with_b (decide (s < 1 ∨ 16 < s)) (fun k hk => ?_) ?_
  · refine ite_i (fun h1 => ?_) fun h1 => ?_
    · simpa [of_decide_eq_true h1] using hk
    · simpa [of_decide_eq_false h1] using hk
  · refine ite_i (fun h1 => ?_) fun h1 => ?_
    · have h1 : s < 1 ∨ 16 < s := by simpa using h1
      unfold dlv at hQ; rw [if_neg (by omega)] at hQ; exact hQ
    · have h1 : ¬ (s < 1 ∨ 16 < s) := by simpa using h1
      refine bound_spec ?_
      have hd := dlv_nn k a p n s
      unfold dlv at hQ hd
      rw [if_pos (by omega)] at hQ hd
      rw [mul_i64 (by omega) (by omega)]
      exact hQ
theorem refdel_spec {k a p m n s : Int} {h : H} {Q : Int → HProp} (hQ : Q (dlv k a p n s) h) : ref29_Deliveries (k, a, p, m, n, s) Q h := by
  unfold ref29_Deliveries ref29_Deliveries_F
  dsimp only
  simp only [ltI_eq, leI_eq]
  have hb := bnd_nn k a p n
  refine loop_i (fun x g => g = h ∧ 0 ≤ x.2 ∧ x.1 = bnd k a p n * x.2 ∧ (x.2 = 0 ∨ (x.2 ≤ s ∧ s ≤ 16))) (fun x => (s - x.2).toNat) ⟨rfl, by simp, by simp, .inl rfl⟩ ?_
  rintro ⟨x, i⟩ g ⟨rfl, h0, hx, hs⟩ c hc
  dsimp only at h0 hx hs ⊢
  refine with_b (decide (i < s ∧ s ≤ 16)) (fun c hk => ?_) ?_
  · refine ite_i (fun h1 => ?_) fun h1 => ?_
    · simpa [of_decide_eq_true h1] using hk
    · simpa [of_decide_eq_false h1] using hk
  · refine ite_i (fun h1 => ?_) fun h1 => ?_
    · have h1 : i < s ∧ s ≤ 16 := by simpa using h1
      refine refbound_spec ?_
      have hm : bnd k a p n * i ≤ 257 * 16 := Int.mul_le_mul hb.2 (by omega) h0 (by omega)
      have hm0 := Int.mul_nonneg hb.1 h0
      rw [add_i64 (by omega) (by omega), add_i64 (by omega) (by omega)]
      refine hc _ _ ⟨rfl, by dsimp only; omega, ?_, .inr (by dsimp only; omega)⟩ (by dsimp only; omega)
      dsimp only
      rw [hx, Int.mul_add, Int.mul_one]
    · have h1 : ¬ (i < s ∧ s ≤ 16) := by simpa using h1
      unfold dlv at hQ
      by_cases h2 : 1 ≤ s ∧ s ≤ 16
      · rw [if_pos h2] at hQ
        have : i = s := by omega
        rw [hx, this]; exact hQ
      · rw [if_neg h2] at hQ
        have : i = 0 := by omega
        rw [hx, this, Int.mul_zero]; exact hQ
theorem steps_spec {k a p m n s : Int} {h : H} {Q : Int → HProp} (hQ : Q (5 * dlv k a p n s) h) : fair_Steps (k, a, p, m, n, s) Q h := by
  unfold fair_Steps fair_Steps_F
  dsimp only
  refine del_spec ?_
  have hd := dlv_nn k a p n s
  rw [mul_i64 (by omega) (by omega), Int.mul_comm]
  exact hQ
theorem refsteps_spec {k a p m n s : Int} {h : H} {Q : Int → HProp} (hQ : Q (5 * dlv k a p n s) h) : ref29_Steps (k, a, p, m, n, s) Q h := by
  unfold ref29_Steps ref29_Steps_F
  dsimp only
  refine refdel_spec ?_
  have hd := dlv_nn k a p n s
  rw [mul_i64 (by omega) (by omega)]
  exact hQ
def eR : Enc (Int × Int × Int × Int) := ⟨4, fun x => [.int .i64 x.1, .int .i64 x.2.1, .int .i64 x.2.2.1, .int .i64 x.2.2.2], fun _ => rfl, fun n v hv => by simp at hv; rcases hv with rfl | rfl | rfl | rfl <;> trivial, by decide⟩
def allD (n s : Int) : List (Int × Int × Int × Int) → Int
  | [] => 1
  | x :: r => allD n s r + 2 * dlv x.1 x.2.1 x.2.2.1 n s
def allTo (n s : Int) (l : List (Int × Int × Int × Int)) (i : Nat) : Int := allD n s (l.take i).reverse
theorem allTo_succ {n s : Int} {l : List (Int × Int × Int × Int)} {i : Nat} {x : Int × Int × Int × Int} (hx : l[i]? = some x) : allTo n s l (i + 1) = allTo n s l i + 2 * dlv x.1 x.2.1 x.2.2.1 n s := by
  unfold allTo
  rw [List.take_add_one, hx]
  simp [allD]
theorem allD_nn (n s : Int) : ∀ l : List (Int × Int × Int × Int), 1 ≤ allD n s l ∧ allD n s l ≤ 1 + 8224 * l.length
  | [] => by simp [allD]
  | x :: r => by
    have h1 := allD_nn n s r
    have h2 := dlv_nn x.1 x.2.1 x.2.2.1 n s
    simp only [allD, List.length_cons]
    omega
theorem allTo_nn (n s : Int) (l : List (Int × Int × Int × Int)) (i : Nat) : 1 ≤ allTo n s l i ∧ allTo n s l i ≤ 1 + 8224 * l.length := by
  have h := allD_nn n s (l.take i).reverse
  have h1 : (l.take i).reverse.length ≤ l.length := by simp; omega
  unfold allTo
  omega
theorem all_spec {v : Sl} {l : List (Int × Int × Int × Int)} {n s : Int} {h : H} (A : Arr h v eR l) (hl : l.length ≤ 200) {Q : Int → HProp} (hQ : Q (allTo n s l l.length) h) : fair_All (v, n, s) Q h := by
  unfold fair_All fair_All_F
  dsimp only
  simp only [ltI_eq]
  refine loop_i (fun x g => g = h ∧ ∃ i : Nat, x.2 = i ∧ i ≤ l.length ∧ x.1 = allTo n s l i) (fun x => l.length - x.2.toNat) ⟨rfl, 0, rfl, Nat.zero_le _, rfl⟩ ?_
  rintro ⟨x, j⟩ g ⟨rfl, i, rfl, hi, rfl⟩ c hc
  dsimp only
  refine ite_i (fun h1 => ?_) fun h1 => ?_
  · have h1 : (i : Int) < v.len := by simpa using h1
    rw [A.len] at h1
    have h1 : i < l.length := by omega
    refine A.index (by omega) (by omega) fun a hs => ?_
    rw [Int.toNat_natCast] at hs
    have hx : l[i]? = some l[i] := List.getElem?_eq_getElem h1
    refine loadI_i (A.cell (j := 0) hs hx rfl) (loadI_i (A.cell (j := 1) hs hx rfl) (loadI_i (A.cell (j := 2) hs hx rfl) (loadI_i (A.cell (j := 3) hs hx rfl) ?_)))
    refine del_spec ?_
    have h2 := dlv_nn l[i].1 l[i].2.1 l[i].2.2.1 n s
    have h3 := allTo_nn n s l i
    rw [mul_i64 (by omega) (by omega), add_i64 (by omega) (by omega), add_i64 (by omega) (by omega), ← allTo_succ hx]
    exact hc _ _ ⟨rfl, i + 1, by simp, by omega, rfl⟩ (by dsimp only; omega)
  · have h1 : ¬ ((i : Int) < v.len) := by simpa using h1
    rw [A.len] at h1
    have : i = l.length := by omega
    rw [this]; exact hQ
theorem refall_spec {v : Sl} {l : List (Int × Int × Int × Int)} {n s : Int} {h : H} (A : Arr h v eR l) (hl : l.length ≤ 200) {Q : Int → HProp} (hQ : Q (allTo n s l l.length) h) : ref29_All (v, n, s) Q h := by
  unfold ref29_All ref29_All_F
  dsimp only
  simp only [ltI_eq]
  refine loop_i (fun x g => g = h ∧ ∃ i : Nat, x.2 = i ∧ i ≤ l.length ∧ x.1 = allTo n s l i) (fun x => l.length - x.2.toNat) ⟨rfl, 0, rfl, Nat.zero_le _, rfl⟩ ?_
  rintro ⟨x, j⟩ g ⟨rfl, i, rfl, hi, rfl⟩ c hc
  dsimp only
  refine ite_i (fun h1 => ?_) fun h1 => ?_
  · have h1 : (i : Int) < v.len := by simpa using h1
    rw [A.len] at h1
    have h1 : i < l.length := by omega
    have hx : l[i]? = some l[i] := List.getElem?_eq_getElem h1
    refine A.index (by omega) (by omega) fun a hs => ?_
    rw [Int.toNat_natCast] at hs
    refine loadI_i (A.cell (j := 0) hs hx rfl) (loadI_i (A.cell (j := 1) hs hx rfl) (loadI_i (A.cell (j := 2) hs hx rfl) (loadI_i (A.cell (j := 3) hs hx rfl) ?_)))
    refine A.index (by omega) (by omega) fun a hs => ?_
    rw [Int.toNat_natCast] at hs
    refine loadI_i (A.cell (j := 0) hs hx rfl) (loadI_i (A.cell (j := 1) hs hx rfl) (loadI_i (A.cell (j := 2) hs hx rfl) (loadI_i (A.cell (j := 3) hs hx rfl) ?_)))
    refine refdel_spec ?_
    refine keeps_i (fun j u hj => ?_) ?_
    · match j, hj with
      | 0, hj => exact (A.cell (j := 0) hs hx rfl).trans hj
      | 1, hj => exact (A.cell (j := 1) hs hx rfl).trans hj
      | 2, hj => exact (A.cell (j := 2) hs hx rfl).trans hj
      | 3, hj => exact (A.cell (j := 3) hs hx rfl).trans hj
      | n + 4, hj => simp at hj
    refine refdel_spec ?_
    have h2 := dlv_nn l[i].1 l[i].2.1 l[i].2.2.1 n s
    have h3 := allTo_nn n s l i
    rw [add_i64 (a := allTo n s l i) (by omega) (by omega), add_i64 (by omega) (by omega), add_i64 (by omega) (by omega)]
    have e : allTo n s l i + dlv l[i].1 l[i].2.1 l[i].2.2.1 n s + dlv l[i].1 l[i].2.1 l[i].2.2.1 n s = allTo n s l (i + 1) := by rw [allTo_succ hx]; omega
    rw [e]
    exact hc _ _ ⟨rfl, i + 1, by simp, by omega, rfl⟩ (by dsimp only; omega)
  · have h1 : ¬ ((i : Int) < v.len) := by simpa using h1
    rw [A.len] at h1
    have : i = l.length := by omega
    rw [this]; exact hQ
theorem none_none {h : H} {Q : Bool → HProp} (hQ : Q true h) : service_Service_none none Q h := by
  unfold service_Service_none
  exact with_b true (fun k hk => ite_t isNilP_none hk) hQ
theorem run_none {h : H} {Q : Int × Bool → HProp} (hQ : Q (0, false) h) : fair_Run (none, ⟨none, 0, 0⟩, 5) Q h := by
  unfold fair_Run fair_Run_F
  dsimp only
  simp only [ltI_eq, eqI_eq, maxI_eq]
  refine loop_i (fun x g => g = h ∧ x = 0) (fun _ => 0) ⟨rfl, rfl⟩ ?_
  rintro x g ⟨rfl, rfl⟩ c _
  refine ite_t (by decide) ?_
  unfold service_Service_Waiting service_Service_Waiting_F
  dsimp only
  refine none_none (ite_t rfl ?_)
  unfold fair_place
  dsimp only
  simp only [eqI_eq]
  refine with_b true (fun k hk => ite_t (by decide) hk) (ite_t rfl ?_)
  unfold service_Service_Step service_Service_Step_F
  dsimp only
  refine none_none (ite_t rfl ?_)
  exact ite_t (by decide) hQ
theorem bounds_spec {h : H} {Q : Bool → HProp} (hQ : ∀ h', Ext h h' → Q true h') : law29_bounds () Q h := by
  unfold law29_bounds law29_bounds_F
  simp only [eqI_eq]
  refine run_none ?_
  refine with_i (fun x g => x = true ∧ Ext h g) (fun k hk => ?_) (fun x g hx => by rw [hx.1]; exact hQ _ hx.2)
  refine del_spec (ite_t (by decide) (del_spec (ite_t (by decide) (del_spec (ite_t (by decide) (steps_spec (ite_t (by decide) (steps_spec (ite_t (by decide) ?_)))))))))
  refine new_i (E := eR) (l := [(1, 0, 0, 0), (2, 3, 0, 0)]) rfl rfl ?_
  intro b h' V _ e
  refine all_spec V.arr (by decide) (ite_t (by decide) (ite_t (by decide) (ite_t (by decide) (del_spec ?_))))
  exact hk _ _ ⟨by decide, e⟩
theorem eqPairs_self : ∀ l : List (Int × Int), eqPairs (l.map fun x => (x.1, x.1)) = true
  | [] => by simp [eqPairs]
  | [x] => by simp [eqPairs, eqI_eq]
  | x :: y :: r => by
    have h := eqPairs_self (y :: r)
    simp only [List.map_cons] at h ⊢
    simp [eqPairs, eqI_eq, h]
theorem FairNumbers_holds (k a p m : Int) (v : Sl) (l : List (Int × Int × Int × Int)) (n s : Int) (h : H) (A : Arr h v eR l) : law29_FairNumbers (k, a, p, m, v, n, s) (fun r _ => r = true) h := by
  unfold law29_FairNumbers law29_FairNumbers_F
  dsimp only
  simp only [ltI_eq, leI_eq, eqI_eq]
  have hl := A.len
  refine ite_i (fun _ => bounds_spec fun _ _ => rfl) fun h1 => ?_
  have h1 : ¬ (200 < (v.len : Int)) := by simpa using h1
  have h2 : l.length ≤ 200 := by omega
  refine ite_t (by decide) (ite_t (by decide) (ite_t (by decide) (ite_t (by decide) ?_)))
  refine new_i (E := eR) (l := []) rfl rfl ?_
  intro b h' V nw e
  refine (A.ext e).row rfl ?_
  refine V.append_new e nw rfl rfl hl.symm (by simp; omega) ?_
  intro u g U e2 _ _ _
  rw [List.nil_append] at U
  refine with_b false (fun c hk => ?_) ?_
  · refine del_spec (refdel_spec (ite_f (by simp) (steps_spec (refsteps_spec (ite_f (by simp) (all_spec U.arr h2 (refall_spec (A.ext e2) h2 ?_)))))))
    simpa using hk
  refine ite_f rfl ?_
  have B := A.ext e2
  have hu := U.arr
  refine loop_i (fun x f => f = g ∧ ∃ i : Nat, x = i ∧ i ≤ l.length) (fun x => l.length - x.toNat) ⟨rfl, 0, rfl, Nat.zero_le _⟩ ?_
  rintro x f ⟨rfl, i, rfl, hi⟩ c hc
  refine ite_i (fun h3 => ?_) fun h3 => bounds_spec fun _ _ => rfl
  have h3 : (i : Int) < v.len := by simpa using h3
  have h3 : i < l.length := by omega
  have hx : l[i]? = some l[i] := List.getElem?_eq_getElem h3
  refine hu.index (by omega) (by omega) fun a hs => ?_
  rw [Int.toNat_natCast] at hs
  refine loadI_i (hu.cell (j := 0) hs hx rfl) (loadI_i (hu.cell (j := 1) hs hx rfl) (loadI_i (hu.cell (j := 2) hs hx rfl) (loadI_i (hu.cell (j := 3) hs hx rfl) ?_)))
  refine B.index (by omega) (by omega) fun a hs => ?_
  rw [Int.toNat_natCast] at hs
  refine loadI_i (B.cell (j := 0) hs hx rfl) (loadI_i (B.cell (j := 1) hs hx rfl) (loadI_i (B.cell (j := 2) hs hx rfl) (loadI_i (B.cell (j := 3) hs hx rfl) ?_)))
  refine ite_f ?_ ?_
  · have := eqPairs_self [(l[i].1, 0), (l[i].2.1, 0), (l[i].2.2.1, 0), (l[i].2.2.2, 0)]
    simpa using this
  · rw [add_i64 (by omega) (by omega)]
    exact hc _ _ ⟨rfl, i + 1, by simp, by omega⟩ (by omega)
end Go.Cz.S
namespace Go.Cz
open Go
theorem RdL_cons {h : H} {x : Lf} {r : List Lf} {v : SV} {us : List SV} : RdL h (x :: r) (v :: us) ↔ Rd h x v ∧ RdL h r us := by
  simp only [RdL]
  constructor
  · rintro ⟨_, _, e, h1, h2⟩; cases e; exact ⟨h1, h2⟩
  · rintro ⟨h1, h2⟩; exact ⟨_, _, rfl, h1, h2⟩
theorem Rd.arr {α : Type} {h : H} {e : List Lf} {v : Sl} {E : Enc α} (P : α → Prop) (hr : Rd h (.sl e) (.sl v)) (hw : e.length = E.w)
    (dec : ∀ r, RdL h e (r.map SV.ofA) → ∃ x, E.f x = r ∧ P x) : ∃ l, Arr h v E l ∧ (∀ x ∈ l, P x) ∧ v.cap ≤ maxLen := by
  simp only [Rd] at hr
  obtain ⟨u, eq, h1, h2, h3, rows, h4, h5, h6⟩ := hr
  cases eq
  have ex : ∀ rows : List (List Value), (∀ r ∈ rows, RdL h e (r.map SV.ofA)) → ∃ l : List α, l.map E.f = rows ∧ ∀ x ∈ l, P x := by
    intro rows
    induction rows with
    | nil => intro _; exact ⟨[], rfl, by simp⟩
    | cons r rs ih =>
      intro hh
      obtain ⟨x, hx, hp⟩ := dec r (hh r (by simp))
      obtain ⟨l, hl, hq⟩ := ih (fun r hr => hh r (by simp [hr]))
      refine ⟨x :: l, by simp [hx, hl], ?_⟩
      intro y hy
      rcases List.mem_cons.1 hy with rfl | hy
      · exact hp
      · exact hq y hy
  obtain ⟨l, hl, hp⟩ := ex rows h6
  have hlen : l.length = v.len := by rw [← h4, ← hl]; simp
  refine ⟨l, ⟨hlen.symm, h1, h3, fun a ha hne => ?_⟩, hp, h2⟩
  rw [hw] at h5
  unfold H.row? at h5
  have hpos : 0 < l.length := List.length_pos_iff.2 hne
  have := Nat.mul_pos hpos E.pos
  rw [← hlen, if_neg (by omega), ha] at h5
  simp only at h5
  split at h5
  · rename_i c wr hb
    split at h5
    · cases h5
    · rename_i hs
      split at h5
      · rename_i hle
        refine ⟨by cases hq : a.spot <;> simp_all, c, wr, hb, hle, ?_⟩
        have := Option.some.inj h5
        rw [this, ← hl, Enc.all, List.flatMap]
      · cases h5
  · cases h5
/-- one leaf -/
theorem RdL_one {h : H} {x : Lf} {r : List Value} (hr : RdL h [x] (r.map SV.ofA)) : ∃ v, r = [v] ∧ Rd h x (SV.ofA v) := by
  cases r with
  | nil => simp [RdL] at hr
  | cons v r =>
    simp only [List.map_cons] at hr
    obtain ⟨h1, h2⟩ := RdL_cons.1 hr
    cases r with
    | nil => exact ⟨v, rfl, h1⟩
    | cons w r => simp [RdL] at h2
theorem RdL_more {h : H} {x : Lf} {l : List Lf} {r : List Value} (hr : RdL h (x :: l) (r.map SV.ofA)) : ∃ v s, r = v :: s ∧ Rd h x (SV.ofA v) ∧ RdL h l (s.map SV.ofA) := by
  cases r with
  | nil => simp [RdL] at hr
  | cons v r =>
    simp only [List.map_cons] at hr
    obtain ⟨h1, h2⟩ := RdL_cons.1 hr
    exact ⟨v, r, rfl, h1, h2⟩
theorem ofA_int {h : H} {k : IntKind} {v : Value} (hr : Rd h (.i k) (SV.ofA v)) : ∃ n, v = .int k n ∧ (Lit.int k n).wf = true := by
  simp only [Rd] at hr
  obtain ⟨n, e, hw⟩ := hr
  refine ⟨n, ?_, hw⟩
  cases v <;> simp [SV.ofA] at e
  obtain ⟨rfl, rfl⟩ := e; rfl
end Go.Cz
namespace Go.Cz.S
open Go Go.Cz
theorem reqs {h : H} {v : Sl} (hr : Rd h (.sl [.i .i64, .i .i64, .i .i64, .i .i64]) (.sl v)) : ∃ l, Arr h v eR l := by
  obtain ⟨l, A, _⟩ := hr.arr (E := eR) (fun _ => True) rfl fun r hr => by
    obtain ⟨v0, s0, rfl, h0, k0⟩ := RdL_more hr
    obtain ⟨v1, s1, rfl, h1, k1⟩ := RdL_more k0
    obtain ⟨v2, s2, rfl, h2, k2⟩ := RdL_more k1
    obtain ⟨v3, rfl, h3⟩ := RdL_one k2
    obtain ⟨n0, rfl, _⟩ := ofA_int h0
    obtain ⟨n1, rfl, _⟩ := ofA_int h1
    obtain ⟨n2, rfl, _⟩ := ofA_int h2
    obtain ⟨n3, rfl, _⟩ := ofA_int h3
    exact ⟨⟨n0, n1, n2, n3⟩, rfl, trivial⟩
  exact ⟨l, A⟩
theorem law29_FairNumbers_row (h : H) (t : Int × Int × Int × Int × Sl × Int × Int) (hr : RdL h [.i .i64, .i .i64, .i .i64, .i .i64, .sl [.i .i64, .i .i64, .i .i64, .i .i64], .i .i64, .i .i64] [.i .i64 t.1, .i .i64 t.2.1, .i .i64 t.2.2.1, .i .i64 t.2.2.2.1, .sl t.2.2.2.2.1, .i .i64 t.2.2.2.2.2.1, .i .i64 t.2.2.2.2.2.2]) : law29_FairNumbers t (fun r _ => r = true) h := by
  obtain ⟨_, hr⟩ := RdL_cons.1 hr
  obtain ⟨_, hr⟩ := RdL_cons.1 hr
  obtain ⟨_, hr⟩ := RdL_cons.1 hr
  obtain ⟨_, hr⟩ := RdL_cons.1 hr
  obtain ⟨r4, hr⟩ := RdL_cons.1 hr
  obtain ⟨l, A⟩ := reqs r4
  exact FairNumbers_holds t.1 t.2.1 t.2.2.1 t.2.2.2.1 t.2.2.2.2.1 l t.2.2.2.2.2.1 t.2.2.2.2.2.2 h A
end Go.Cz.S
