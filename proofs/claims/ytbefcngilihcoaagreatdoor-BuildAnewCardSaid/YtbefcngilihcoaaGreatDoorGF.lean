/- Part of the proof of a law of 1312: an engine that runs a function over an abstract heap, and what the functions compute; own work. -/
import Derived.Test.YtbefcngilihcoaaGreatDoorGE
set_option linter.unusedVariables false
set_option linter.unusedSimpArgs false
set_option linter.unusedSectionVars false
namespace Go.Cz
set_option maxRecDepth 100000
set_option maxHeartbeats 1000000
set_option linter.unusedSimpArgs false
set_option linter.unusedVariables false
theorem Arr.pair {h : H} {v : Sl} {L : List (Int × Int)} (A : Arr h v eP L) {i : Nat} (hi : i < L.length) {K : Int → Int → HProp} (hK : K L[i].1 L[i].2 h) :
    indexW (i : Int) v 2 (fun a => loadI IntKind.i64 (a.add 0) fun x => loadI IntKind.i64 (a.add 1) fun y => K x y) h := by
  refine A.index (by omega) (by omega) fun a ha => ?_
  have c0 := A.cell (i := i) (j := 0) (x := L[i]) (y := .int .i64 L[i].1) (by simpa [eP] using ha) (List.getElem?_eq_getElem hi) rfl
  have c1 := A.cell (i := i) (j := 1) (x := L[i]) (y := .int .i64 L[i].2) (by simpa [eP] using ha) (List.getElem?_eq_getElem hi) rfl
  exact loadI_i c0 (loadI_i c1 hK)
theorem eqPairs2 (a b c d : Int) : eqPairs [(a, b), (c, d)] = decide ((a, c) = (b, d)) := by
  simp [eqPairs, eqI_eq]
theorem Vec.view {α : Type} {h : H} {v : Sl} {E : Enc α} {C : List α} (V : Vec h v E C) {i : Nat} (hi : i ≤ C.length) :
    Arr h ⟨if v.cap = i then v.a else v.a.map (·.add (i * E.w)), C.length - i, v.cap - i⟩ E (C.drop i) := by
  have := V.arr.slice (w := E.w) rfl (lo := (i : Int)) (hi := (C.length : Int)) (K := fun u' _ => Arr h u' E (C.drop i)) (by omega) (by omega) (Int.le_refl _) (fun u hu _ _ _ => by
    have e : (C.drop (i : Int).toNat).take ((C.length : Int).toNat - (i : Int).toNat) = C.drop i := by
      simp only [Int.toNat_natCast]
      exact List.take_of_length_le (by simp)
    rwa [e] at hu)
  unfold sliceW at this
  simpa using this.2.2.2
theorem flat2_all : ∀ l : List (Int × Int), flat2 l = eP.all l
  | [] => rfl
  | x :: r => by
    have := flat2_all r
    simp only [flat2, this]
    rfl
end Go.Cz
namespace Go.Cz.S
open Go Go.Cz
set_option maxRecDepth 100000
set_option maxHeartbeats 1000000
set_option linter.unusedSimpArgs false
set_option linter.unusedVariables false
theorem may_spec {n : Int} {Q : Bool → HProp} {h : H} (hQ : Q (decide (1 ≤ n) && decide (n ≤ 256)) h) : edges_may n Q h := by
  unfold edges_may
  simp only [leI_eq]
  refine with_u (ite_i (fun h1 => ?_) fun h1 => ?_)
  · simpa [h1] using hQ
  · simpa [h1] using hQ
theorem within_spec {n v : Int} {Q : Bool → HProp} {h : H} (hQ : Q (decide (0 ≤ v) && decide (v < n)) h) : edges_within (n, v) Q h := by
  unfold edges_within
  simp only [leI_eq, ltI_eq]
  refine with_u (ite_i (fun h1 => ?_) fun h1 => ?_)
  · simpa [h1] using hQ
  · simpa [h1] using hQ
def badE (n : Int) (x : Int × Int) : Bool := !(decide (0 ≤ x.1) && decide (x.1 < n)) || !(decide (0 ≤ x.2) && decide (x.2 < n)) || decide (x.1 = x.2)
theorem bad_spec {n : Int} {x : Int × Int} {b : Nat} {h : H} (o : Obj h b [.int .i64 n]) {Q : Bool → HProp} (hQ : Q (badE n x) h) : edges_Normal_c1 (x.1, x.2, some (Addr.mk b 0 none)) Q h := by
  unfold edges_Normal_c1 edges_Normal_c1_F
  refine with_u (deref_i (loadI_i (n := n) (o.ld0 rfl) (within_spec (ite_i (fun h1 => ?_) fun h1 => deref_i (loadI_i (n := n) (o.ld0 rfl) (within_spec (ite_i (fun h2 => ?_) fun h2 => ?_)))))))
  · have : badE n x = true := by unfold badE; rw [h1]; rfl
    rw [this] at hQ; exact hQ
  · have : badE n x = true := by unfold badE; rw [h1, h2]; rfl
    rw [this] at hQ; exact hQ
  · have : badE n x = decide (x.1 = x.2) := by unfold badE; rw [h1, h2]; rfl
    rw [this] at hQ
    simp only [eqI_eq]
    exact hQ
theorem contains_spec {v : Sl} {L : List (Int × Int)} {h : H} (A : Arr h v eP L) (hL : L.length ≤ 1000000) {f : (Int × Int) → (Bool → HProp) → HProp} {p : Int × Int → Bool} (hf : ∀ x Q, Q (p x) h → f x Q h) {Q : Bool → HProp} (hQ : Q (L.any p) h) : slices_ContainsFunc_api_Edge_api_Edge (v, f) Q h := by
  unfold slices_ContainsFunc_api_Edge_api_Edge slices_ContainsFunc_api_Edge_api_Edge_F slices_IndexFunc_api_Edge_api_Edge
  simp only [A.len, ltI_eq, leI_eq]
  refine loop_i (fun (s : Int) h' => h' = h ∧ ∃ i : Nat, s = i ∧ i ≤ L.length ∧ ∀ j, (hj : j < i) → ∀ hl : j < L.length, p L[j] = false) (fun s => ((L.length : Int) - s).toNat) ⟨rfl, 0, rfl, Nat.zero_le _, fun j hj => by omega⟩ ?_
  rintro s h' ⟨rfl, i, rfl, hi, hp⟩ k hk
  refine ite_i (fun hlt => ?_) fun hge => ?_
  · have hlt : i < L.length := by simpa using hlt
    refine A.pair hlt (hf _ _ (ite_i (fun h1 => ?_) fun h1 => ?_))
    · have : L.any p = true := List.any_eq_true.2 ⟨L[i], List.getElem_mem hlt, h1⟩
      rw [this] at hQ
      have e : decide ((0 : Int) ≤ (i : Int)) = true := by simp
      rw [e]; exact hQ
    · rw [add_i64 (by omega) (by omega)]
      refine hk _ _ ⟨rfl, i + 1, by simp, by omega, fun j hj hl => ?_⟩ (by omega)
      by_cases e : j = i
      · subst e; exact h1
      · exact hp j (by omega) hl
  · have hi : i = L.length := by have : ¬ (i < L.length) := (by simpa using hge); omega
    have : L.any p = false := by
      rw [Bool.eq_false_iff]
      intro h
      obtain ⟨x, hx, hpx⟩ := List.any_eq_true.1 h
      obtain ⟨j, hj, rfl⟩ := List.getElem_of_mem hx
      rw [hp j (by omega) hj] at hpx; cases hpx
    rw [this] at hQ
    have e : decide ((0 : Int) ≤ -1) = false := by decide
    rw [e]; exact hQ
theorem leP_iff {x y : Int × Int} : leP x y = true ↔ ¬ (y.1 < x.1 ∨ y.1 = x.1 ∧ y.2 < x.2) := by
  unfold leP ltP
  rw [Bool.not_eq_true', decide_eq_false_iff_not]
theorem ltP_iff' {x y : Int × Int} : ltP x y = true ↔ (x.1 < y.1 ∨ x.1 = y.1 ∧ x.2 < y.2) := by simp [ltP]
def Rising (L : List (Int × Int)) : Prop := L.Pairwise fun a b => ltP a b = true
theorem sort_le (L : List (Int × Int)) : (L.mergeSort leP).Pairwise fun a b => leP a b = true :=
  List.pairwise_mergeSort (fun a b c h1 h2 => by rw [leP_iff] at *; omega) (fun a b => by
    rw [Bool.or_eq_true, leP_iff, leP_iff]; omega) L
theorem collect_spec {v : Sl} {L : List (Int × Int)} {b : Nat} {h : H} (A : Arr h v eP L) (hL : L.length ≤ 1000000) (o : Obj h b [.slice v.a v.len v.cap]) {Q : Sl → HProp}
    (hQ : ∀ u h', Vec h' u eP L → New h u → Ext h h' → Q u h') : slices_Collect_api_Edge (some (Addr.mk b 0 none)) Q h := by
  unfold slices_Collect_api_Edge
  refine deref_i (loadL_i (v := v) (o.ld0 rfl) ?_)
  unfold collectPW
  have hrow : h.row? v.a (v.len * 2) = some (flat2 L) := by
    have := A.row (w := 2) rfl (K := fun l' _ => l' = eP.all L) rfl
    unfold rowW at this
    obtain ⟨l', q1, _, q2⟩ := this
    rw [q1, q2, flat2_all]
  refine ⟨L, A.len.symm, by omega, hrow, fun e => ?_, fun e cap' rest b' hcap hr hb' => ?_⟩
  · subst e
    exact hQ _ h Vec.nil0 New.nil0 (Ext.refl h)
  · refine hQ _ _ ⟨rfl, hcap, (fun e => by cases e), fun a ha => ?_⟩ ?_ (Ext.set hb')
    · cases ha
      refine ⟨rfl, _, set_same .., ?_, ?_⟩
      · rw [List.length_append, flat2_all, eP.all_len, hr]; simp only [eP]; omega
      · rw [List.drop_zero, flat2_all, List.take_left' (eP.all_len L)]
    · rintro b2 ⟨a, ha, rfl⟩
      cases ha; exact hb'
theorem sortF_spec {v : Sl} {L : List (Int × Int)} {h : H} (V : Vec h v eP L) (hL : L.length ≤ 1000000) {Q : Unit → HProp}
    (hQ : ∀ h', Vec h' v eP (L.mergeSort leP) → Fr v.on h h' → Q () h') : slices_SortFunc_api_Edge_api_Edge (v, ()) Q h := by
  unfold slices_SortFunc_api_Edge_api_Edge sortPW
  have A := V.arr
  have hrow : h.row? v.a (v.len * 2) = some (flat2 L) := by
    have := A.row (w := 2) rfl (K := fun l' _ => l' = eP.all L) rfl
    unfold rowW at this
    obtain ⟨l', q1, _, q2⟩ := this
    rw [q1, q2, flat2_all]
  have hsl : (L.mergeSort leP).length = L.length := (List.mergeSort_perm L leP).length_eq
  refine ⟨L, A.len.symm, by omega, hrow, fun e => ?_, fun e => ?_⟩
  · subst e
    exact hQ h (by simpa using V) (Fr.refl _ _)
  · cases ha : v.a with
    | none => exact absurd ha (A.ne e)
    | some a =>
    refine ⟨a, rfl, ?_⟩
    obtain ⟨k1, c, k2, k3, k4⟩ := V.blk a ha
    unfold storesW
    simp only [k2]
    have hlen : (flat2 (L.mergeSort leP)).length = L.length * 2 := by rw [flat2_all, eP.all_len, hsl]; rfl
    have hle : L.length ≤ v.cap := by rw [← V.len]; exact V.le
    have hw : eP.w = 2 := rfl
    rw [hw] at k3 k4
    rw [hlen]
    refine ⟨k1, by omega, hQ _ ⟨by rw [hsl]; exact V.len, V.le, V.nil, fun a' ha' => ?_⟩ (Fr.set.mono fun k hk => ⟨a, ha, hk.symm⟩)⟩
    rw [ha] at ha'; cases ha'
    refine ⟨k1, _, set_same .., ?_, ?_⟩
    · simp only [List.length_append, List.length_take, List.length_drop, hlen, hw]; omega
    · have h1 : (c.take a.off).length = a.off := by simp; omega
      rw [List.append_assoc, List.drop_left' h1, hsl, hw, List.take_left' hlen, flat2_all]
def cutL (n s : Int) : List (Int × Int) := (List.range s.toNat).map fun k : Nat => ((k : Int) * n / s, ((k : Int) + 1) * n / s)
def badCut (n s : Int) : Bool := decide (n < 1 ∨ n > 256 ∨ s < 1 ∨ s > n ∨ s > 16)
theorem mulb {a b A B : Int} (h0 : 0 ≤ a) (h1 : a ≤ A) (h2 : 0 ≤ b) (h3 : b ≤ B) : 0 ≤ a * b ∧ a * b ≤ A * B :=
  ⟨Int.mul_nonneg h0 h2, Int.mul_le_mul h1 h3 h2 (Int.le_trans h0 h1)⟩
theorem parts_Cut_spec {n s : Int} {h : H} {Q : Sl × Int → HProp}
    (hbad : badCut n s = true → Q (⟨none, 0, 0⟩, 2) h)
    (hok : badCut n s = false → ∀ v h', Ext h h' → New h v → Vec h' v eP (cutL n s) → Q (v, 0) h') : parts_Cut (n, s) Q h := by
  unfold parts_Cut
  refine with_b (badCut n s) (fun k hk => ?_) ?_
  · simp only [ltI_eq, minI_eq]
    have hk2 : ∀ b, b = badCut n s → k b h := fun b e => by rw [e]; exact hk
    refine ite_i (fun e => hk2 _ ?_) (fun e1 => ite_i (fun e => hk2 _ ?_) (fun e2 => ite_i (fun e => hk2 _ ?_) (fun e3 => hk2 _ ?_)))
    · simp at e; symm; simp [badCut]; omega
    · simp at e; symm; simp [badCut]; omega
    · simp at e; symm; simp [badCut]; omega
    · simp at e1 e2 e3
      simp only [badCut, decide_eq_decide]
      split <;> omega
  · refine ite_i hbad (fun hb => ?_)
    have hb' := hb
    simp [badCut] at hb'
    obtain ⟨b1, b2, b3, b4, b5⟩ := hb'
    refine make_i (E := eP) (x0 := (0, 0)) rfl (by omega) (by omega) (by omega) (by omega) ?_
    intro v h1 V _ hn hext hva
    refine loop_i (fun i h2 => 0 ≤ i ∧ i ≤ s ∧ Ext h h2 ∧ ∃ l, l.length = s.toNat ∧ Vec h2 v eP l ∧ ∀ j, j < i.toNat → l[j]? = (cutL n s)[j]?) (fun i => (s - i).toNat)
      ⟨Int.le_refl _, by omega, hext, _, by simp, V, fun j hj => by simp at hj⟩ ?_
    rintro i h2 ⟨i0, i1, hx2, l, hl, V2, hj⟩ k hk
    have hvl : (v.len : Int) = s := by rw [V2.len, hl]; omega
    refine ite_i (fun e => ?_) (fun e => ?_)
    · rw [ltI_eq] at e
      have hi : i < s := by simpa [hvl] using e
      refine must_i (by show s ≠ 0; omega) (must_i (by show s ≠ 0; omega) ?_)
      refine V2.arr.index i0 (by omega) (fun a ha => ?_)
      have m1 := mulb i0 (A := 16) (by omega) (by omega : 0 ≤ n) (B := 256) (by omega)
      have m2 := mulb (a := i + 1) (A := 16) (by omega) (by omega) (by omega : 0 ≤ n) (B := 256) (by omega)
      show storesW a [.int .i64 (quo .i64 (mul .i64 i n) s), .int .i64 (quo .i64 (mul .i64 (add .i64 i 1) n) s)] _ _
      rw [add_i64 (by omega) (by omega), mul_i64 (by omega) (by omega), mul_i64 (by omega) (by omega), quo_i64 m1.1 (by omega) (by omega), quo_i64 m2.1 (by omega) (by omega)]
      refine V2.stores (x := (i * n / s, (i + 1) * n / s)) ha (by rw [hl]; omega) rfl (fun h3 V3 f3 => ?_)
      refine hk _ _ ⟨by omega, by omega, hx2.of_new f3 hn, _, by simpa using hl, V3, fun j hj2 => ?_⟩ (by omega)
      by_cases e2 : j = i.toNat
      · subst e2
        rw [List.getElem?_set_self (by rw [hl]; omega)]
        have : i.toNat < s.toNat := by omega
        have e3 : ((i.toNat : Nat) : Int) = i := by omega
        simp only [cutL, List.getElem?_map, List.getElem?_range this, Option.map_some, e3]
      · rw [List.getElem?_set_ne (by omega)]
        exact hj j (by omega)
    · rw [ltI_eq] at e
      have hi : i = s := by have := of_decide_eq_false e; omega
      have : l = cutL n s := by
        apply List.ext_getElem?
        intro j
        by_cases h3 : j < i.toNat
        · exact hj j h3
        · rw [List.getElem?_eq_none (by omega), List.getElem?_eq_none (by simp [cutL]; omega)]
      subst this
      exact hok hb v h2 hx2 hn V2
theorem law09_Same_spec {a b : Sl} {l m : List (Int × Int)} {h : H} {Q : Bool → HProp} (A : Arr h a eP l) (B : Arr h b eP m) (hl : l.length ≤ 140737488355328) (hQ : Q (decide (l = m)) h) : law09_Same (a, b) Q h := by
  unfold law09_Same
  have la := A.len
  have lb := B.len
  simp only
  rw [eqI_eq]
  refine ite_i (fun e => ?_) (fun e => ?_)
  · have : l ≠ m := by rintro rfl; simp [la, lb] at e
    rw [decide_eq_false this] at hQ; exact hQ
  · have hlm : l.length = m.length := by simp at e; omega
    refine loop_i (fun i h2 => 0 ≤ i ∧ i ≤ l.length ∧ h2 = h ∧ l.take i.toNat = m.take i.toNat) (fun i => (l.length - i).toNat) ⟨Int.le_refl _, by omega, rfl, by simp⟩ ?_
    rintro i h2 ⟨i0, i1, rfl, hj⟩ k hk
    rw [ltI_eq]
    refine ite_i (fun e => ?_) (fun e => ?_)
    · have hi : i.toNat < l.length := by simp at e; omega
      refine A.index i0 (by omega) (fun p hp => ?_)
      have hx : l[i.toNat]? = some l[i.toNat] := by simp [hi]
      have hy : m[i.toNat]? = some m[i.toNat] := by simp [hlm ▸ hi]
      refine loadI_i (A.cell (j := 0) hp hx rfl) (loadI_i (A.cell (j := 1) hp hx rfl) ?_)
      refine B.index i0 (by omega) (fun q hq => ?_)
      refine loadI_i (B.cell (j := 0) hq hy rfl) (loadI_i (B.cell (j := 1) hq hy rfl) ?_)
      simp only [eqPairs, eqI_eq]
      refine ite_i (fun e2 => ?_) (fun e2 => ?_)
      · have : l ≠ m := by rintro rfl; simp at e2
        rw [decide_eq_false this] at hQ; exact hQ
      · rw [add_i64 (by omega) (by omega)]
        refine hk _ _ ⟨by omega, by omega, rfl, ?_⟩ (by omega)
        rw [show (i + 1).toNat = i.toNat + 1 by omega, List.take_add_one, List.take_add_one, hj, hx, hy]
        simp at e2
        rw [show l[i.toNat] = m[i.toNat] from Prod.ext e2.1 e2.2]
    · have hi : l.length ≤ i.toNat := by simp at e; omega
      have : l = m := by
        rw [List.take_of_length_le hi, List.take_of_length_le (by omega)] at hj; exact hj
      rw [decide_eq_true this] at hQ; exact hQ
def walkL : Int → List (Int × Int) → Option Int
  | a, [] => some a
  | a, p :: r => if p.1 = a ∧ a < p.2 then walkL p.2 r else none
def checkL (n : Int) (l : List (Int × Int)) : Int := if 1 ≤ n ∧ n ≤ 256 ∧ l.length ≤ 16 ∧ walkL 0 l = some n then 0 else 2
def at_ (l : List (Int × Int)) (i : Nat) : Int × Int := l.getD i (0, 0)
theorem walk_iff : ∀ (l : List (Int × Int)) (a n : Int), walkL a l = some n ↔
    (∀ i, i < l.length → (at_ l i).1 = (if i = 0 then a else (at_ l (i - 1)).2) ∧ (at_ l i).1 < (at_ l i).2) ∧ n = (if l.length = 0 then a else (at_ l (l.length - 1)).2)
  | [], a, n => by simp [walkL]; exact eq_comm
  | p :: r, a, n => by
    simp only [walkL]
    by_cases hp : p.1 = a ∧ a < p.2
    · rw [if_pos hp, walk_iff r p.2 n]
      constructor
      · rintro ⟨h1, h2⟩
        refine ⟨fun i hi => ?_, ?_⟩
        · cases i with
          | zero => simp [at_]; omega
          | succ i =>
            have := h1 i (by simpa using hi)
            cases i with
            | zero => simpa [at_] using this
            | succ i => simpa [at_] using this
        · rw [h2]
          cases r with
          | nil => simp [at_]
          | cons q r => simp [at_]
      · rintro ⟨h1, h2⟩
        refine ⟨fun i hi => ?_, ?_⟩
        · have := h1 (i + 1) (by simpa using hi)
          cases i with
          | zero => simpa [at_] using this
          | succ i => simpa [at_] using this
        · rw [h2]
          cases r with
          | nil => simp [at_]
          | cons q r => simp [at_]
    · rw [if_neg hp]
      constructor
      · intro h; cases h
      · rintro ⟨h1, h2⟩
        have := h1 0 (by simp)
        simp [at_] at this
        omega
theorem parts_Check_spec {n : Int} {a : Sl} {l : List (Int × Int)} {h : H} {Q : Int → HProp} (A : Arr h a eP l) (hQ : Q (checkL n l) h) : parts_Check (n, a) Q h := by
  unfold parts_Check
  have la := A.len
  refine with_b (decide (n < 1 ∨ 256 < n ∨ 16 < l.length)) (fun k hk => ?_) ?_
  · simp only [ltI_eq]
    have hk2 : ∀ b, b = decide (n < 1 ∨ 256 < n ∨ 16 < l.length) → k b h := fun b e => by rw [e]; exact hk
    refine ite_i (fun e => hk2 _ ?_) (fun e1 => ite_i (fun e => hk2 _ ?_) (fun e2 => hk2 _ ?_))
    · simp at e; symm; simp; omega
    · simp at e; symm; simp; omega
    · simp at e1 e2; simp only [decide_eq_decide, la]; omega
  refine ite_i (fun e => ?_) (fun e => ?_)
  · have : checkL n l = 2 := by
      unfold checkL; rw [if_neg]
      simp at e; omega
    rw [this] at hQ; exact hQ
  · simp at e
    obtain ⟨e1, e2, e3⟩ := e
    refine loop_i (fun (t : Int × Int) h2 => 0 ≤ t.2 ∧ t.2 ≤ l.length ∧ h2 = h ∧ walkL 0 l = walkL t.1 (l.drop t.2.toNat)) (fun t => (l.length - t.2).toNat) ⟨Int.le_refl _, by simp, rfl, by simp⟩ ?_
    rintro ⟨b, i⟩ h2 ⟨i0, i1, rfl, hj⟩ k hk
    simp only at i0 i1 hj
    simp only [ltI_eq, leI_eq, eqI_eq]
    refine ite_i (fun e => ?_) (fun e => ?_)
    · have hi : i.toNat < l.length := by simp at e; omega
      have hx : l[i.toNat]? = some l[i.toNat] := by simp [hi]
      rw [List.drop_eq_getElem_cons hi] at hj
      simp only [walkL] at hj
      refine A.index i0 (by omega) (fun q hq => loadI_i (A.cell (j := 0) hq hx rfl) (loadI_i (A.cell (j := 1) hq hx rfl) ?_))
      refine with_b (decide (l[i.toNat].1 ≠ b ∨ l[i.toNat].2 ≤ b)) (fun k2 hk2 => ?_) ?_
      · refine ite_i (fun e2 => ?_) (fun e2 => ?_)
        · simp at e2; rw [decide_eq_true (.inl e2)] at hk2; exact hk2
        · simp at e2; simpa [e2] using hk2
      refine ite_i (fun e2 => ?_) (fun e2 => ?_)
      · rw [if_neg (by simp at e2; omega)] at hj
        have : checkL n l = 2 := by unfold checkL; rw [hj]; simp
        rw [this] at hQ; exact hQ
      · rw [if_pos (by simp at e2; omega)] at hj
        rw [add_i64 (by omega) (by omega)]
        refine hk _ _ ⟨by show 0 ≤ i + 1; omega, by show i + 1 ≤ _; omega, rfl, ?_⟩ (by show (l.length - (i + 1)).toNat < (l.length - i).toNat; omega)
        rw [hj]; show _ = walkL _ (l.drop (i + 1).toNat)
        rw [show (i + 1).toNat = i.toNat + 1 by omega]
    · have hi : l.length ≤ i.toNat := by simp at e; omega
      rw [List.drop_eq_nil_of_le hi] at hj
      simp only [walkL] at hj
      refine ite_i (fun e4 => ?_) (fun e4 => ?_)
      · simp at e4
        have : checkL n l = 2 := by unfold checkL; rw [hj, if_neg]; rintro ⟨_, _, _, h⟩; cases h; exact e4 rfl
        rw [this] at hQ; exact hQ
      · simp at e4
        have : checkL n l = 0 := by unfold checkL; rw [hj, if_pos ⟨e1, e2, by omega, by rw [e4]⟩]
        rw [this] at hQ; exact hQ
end Go.Cz.S
namespace Go.Cz.S
open Go Go.Cz
set_option maxRecDepth 100000
set_option maxHeartbeats 1000000
set_option linter.unusedSimpArgs false
set_option linter.unusedVariables false
def ddA {α : Type} [DecidableEq α] : α → List α → List α
  | _, [] => []
  | p, x :: r => if x = p then ddA p r else x :: ddA x r
def dd {α : Type} [DecidableEq α] : List α → List α
  | [] => []
  | x :: r => x :: ddA x r
section
variable {α : Type} [DecidableEq α]
theorem ddA_snoc : ∀ (p : α) (l : List α) (y x : α), (p :: l).getLast? = some y → ddA p (l ++ [x]) = ddA p l ++ (if x = y then [] else [x])
  | p, [], y, x, h => by
    simp at h; subst h
    simp only [List.nil_append, ddA]
  | p, z :: r, y, x, h => by
    simp only [List.cons_append, ddA]
    rw [List.getLast?_cons_cons] at h
    by_cases hz : z = p
    · rw [if_pos hz, if_pos hz]; subst hz
      exact ddA_snoc z r y x h
    · rw [if_neg hz, if_neg hz, List.cons_append, ddA_snoc z r y x h]
theorem dd_step {S : List α} {j : Nat} (hj : j + 1 < S.length) : dd (S.take (j + 2)) = dd (S.take (j + 1)) ++ (if S[j + 1] = S[j] then [] else [S[j + 1]]) := by
  cases S with
  | nil => simp at hj
  | cons p r =>
    have hr : j < r.length := by simpa using hj
    rw [List.take_succ_cons, List.take_succ_cons, List.take_succ_eq_append_getElem hr]
    simp only [dd, List.cons_append]
    rw [ddA_snoc p (r.take j) ((p :: r)[j]) _ ?_]
    · rfl
    · rw [← List.take_succ_cons (as := r) (i := j)]
      rw [List.getLast?_eq_getElem?]
      have : ((p :: r).take (j + 1)).length - 1 = j := by simp; omega
      rw [this, List.getElem?_take, if_pos (by omega), List.getElem?_eq_getElem]
theorem dd_next {S : List α} {n : Nat} (h : 1 ≤ n) (hn : n < S.length) : dd (S.take (n + 1)) = dd (S.take n) ++ (if S[n] = S[n - 1] then [] else [S[n]]) := by
  obtain ⟨j, rfl⟩ : ∃ j, n = j + 1 := ⟨n - 1, by omega⟩
  exact dd_step hn
theorem dd_one {S : List α} (h : 1 ≤ S.length) : dd (S.take 1) = S.take 1 := by
  cases S with
  | nil => simp at h
  | cons p r => simp [dd, ddA]
theorem dd_free {S : List α} : ∀ (i : Nat), 1 ≤ i → i ≤ S.length → (∀ j, (hj : j + 1 < i) → ∀ hl : j + 1 < S.length, S[j + 1] ≠ S[j]) → dd (S.take i) = S.take i
  | 0, h, _, _ => by omega
  | 1, _, h, _ => dd_one h
  | i + 2, _, h, hp => by
    have := dd_free (i + 1) (by omega) (by omega) fun j hj hl => hp j (by omega) hl
    rw [dd_step (by omega), this, if_neg (hp i (by omega) (by omega)), List.take_succ_eq_append_getElem (by omega : i + 1 < S.length)]
theorem ddA_sub : ∀ (p : α) (l : List α), (ddA p l).Sublist l
  | _, [] => List.Sublist.refl _
  | p, x :: r => by
    simp only [ddA]
    split
    · exact (ddA_sub p r).cons _
    · exact (ddA_sub x r).cons_cons _
theorem dd_sub (l : List α) : (dd l).Sublist l := by
  cases l with
  | nil => exact List.Sublist.refl _
  | cons p r => exact (ddA_sub p r).cons_cons _
theorem dd_len (l : List α) : (dd l).length ≤ l.length := (dd_sub l).length_le
theorem ddA_mem : ∀ (p : α) (l : List α) (x : α), x ∈ l → x = p ∨ x ∈ ddA p l
  | p, y :: r, x, h => by
    simp only [ddA]
    by_cases hy : y = p
    · rw [if_pos hy]; subst hy
      rcases List.mem_cons.1 h with h | h
      · exact .inl h
      · exact ddA_mem y r x h
    · rw [if_neg hy]
      rcases List.mem_cons.1 h with h | h
      · exact .inr (by rw [h]; exact List.mem_cons_self ..)
      · rcases ddA_mem y r x h with h | h
        · exact .inr (by rw [h]; exact List.mem_cons_self ..)
        · exact .inr (List.mem_cons_of_mem _ h)
theorem dd_mem {l : List α} {x : α} : x ∈ dd l ↔ x ∈ l := by
  refine ⟨fun h => (dd_sub l).mem h, fun h => ?_⟩
  cases l with
  | nil => cases h
  | cons p r =>
    rcases List.mem_cons.1 h with h | h
    · rw [h]; exact List.mem_cons_self ..
    · rcases ddA_mem p r x h with h | h
      · rw [h]; exact List.mem_cons_self ..
      · exact List.mem_cons_of_mem _ h
theorem ddA_rise {lt : α → α → Prop} (ht : ∀ a b c, lt a b → lt b c → lt a c) : ∀ (p : α) (l : List α), (p :: l).Pairwise (fun a b => a = b ∨ lt a b) → (∀ x ∈ ddA p l, lt p x) ∧ (ddA p l).Pairwise lt
  | p, [], _ => ⟨by simp [ddA], by simp [ddA]⟩
  | p, x :: r, h => by
    rw [List.pairwise_cons] at h
    obtain ⟨h1, h2⟩ := h
    simp only [ddA]
    by_cases hx : x = p
    · rw [if_pos hx]
      refine ddA_rise ht p r ?_
      rw [List.pairwise_cons] at h2 ⊢
      exact ⟨fun a ha => h1 a (List.mem_cons_of_mem _ ha), h2.2⟩
    · rw [if_neg hx]
      have hpx : lt p x := by rcases h1 x (List.mem_cons_self ..) with h | h; exact absurd h.symm hx; exact h
      obtain ⟨i1, i2⟩ := ddA_rise ht x r h2
      refine ⟨fun a ha => ?_, List.pairwise_cons.2 ⟨i1, i2⟩⟩
      rcases List.mem_cons.1 ha with rfl | ha
      · exact hpx
      · exact ht _ _ _ hpx (i1 a ha)
theorem dd_rise {lt : α → α → Prop} (ht : ∀ a b c, lt a b → lt b c → lt a c) {l : List α} (h : l.Pairwise fun a b => a = b ∨ lt a b) : (dd l).Pairwise lt := by
  cases l with
  | nil => simp [dd]
  | cons p r =>
    obtain ⟨h1, h2⟩ := ddA_rise ht p r h
    exact List.pairwise_cons.2 ⟨h1, h2⟩
end
theorem trunc_i {α : Type} {E : Enc α} {h : H} {v : Sl} {C : List α} (V : Vec h v E C) {a : Nat} (ha : a < C.length) {z : List Value} (hz : z.length = E.w) {Q : Sl → HProp}
    (hQ : ∀ h', Vec h' ⟨v.a, a, v.cap⟩ E (C.take a) → Fr v.on h h' → Q ⟨v.a, a, v.cap⟩ h') : sliceW v E.w (a : Int) (C.length : Int) (fun u => clearW u z (sliceW v E.w 0 (a : Int) Q)) h := by
  have hle := V.le
  have hvl := V.len
  unfold sliceW
  refine ⟨by omega, by omega, by omega, ?_⟩
  simp only [Int.toNat_natCast]
  have hne : v.a ≠ none := V.arr.ne (by intro e; rw [e] at ha; simp at ha)
  cases hva : v.a with
  | none => exact absurd hva hne
  | some ad =>
  obtain ⟨q1, c, q2, q3, q4⟩ := V.blk ad hva
  have n1 : a * E.w + (C.length - a) * E.w = C.length * E.w := by rw [← Nat.add_mul]; congr 1; omega
  have n2 : C.length * E.w ≤ v.cap * E.w := Nat.mul_le_mul_right _ (by omega)
  unfold clearW
  dsimp only
  rw [if_neg (by omega)]
  refine ⟨ad.add (a * E.w), by rw [if_neg (by omega)]; rfl, ?_⟩
  rw [add_eq q1]
  unfold storesW
  simp only [q2]
  have hfl : (List.replicate (C.length - a) z).flatten.length = (C.length - a) * E.w := by simp [hz]
  rw [hfl]
  refine ⟨trivial, by omega, ?_⟩
  refine ⟨by omega, by omega, by omega, ?_⟩
  have := hQ _ ⟨by simp; omega, by simp; omega, (fun e => by simp only [hva] at e; cases e), fun a' ha' => ?_⟩ (Fr.set (h := h) (b := ad.block) (o := .cells (c.take (ad.off + a * E.w) ++ (List.replicate (C.length - a) z).flatten ++ c.drop (ad.off + a * E.w + (C.length - a) * E.w)) true) |>.mono fun k hk => ⟨ad, hva, hk.symm⟩)
  · simp only [Int.toNat_zero, Int.toNat_natCast, if_neg (show ¬ v.cap = 0 by omega), Nat.zero_mul, Nat.sub_zero]
    rw [hva] at this
    simpa only [Option.map_some, add0] using this
  · simp only [hva] at ha'
    cases ha'
    refine ⟨q1, _, set_same .., ?_, ?_⟩
    · simp only [List.length_append, List.length_take, List.length_drop, hfl]; omega
    · have e1 : (C.take a).length = a := by simp; omega
      rw [e1]
      have e2 : E.all (C.take a) = ((c.drop ad.off).take (C.length * E.w)).take (a * E.w) := by
        rw [← E.all_take C a, ← q4]
      rw [e2, List.take_take, show min (a * E.w) (C.length * E.w) = a * E.w by omega]
      rw [List.append_assoc, List.drop_append_of_le_length (by simp; omega), List.take_append_of_le_length (by simp; omega), List.drop_take, List.take_take]
      congr 1
      omega
theorem _root_.Go.Cz.Arr.one {h : H} {v : Sl} {k : IntKind} {L : List Int} (A : Arr h v (eI k) L) {i : Nat} (hi : i < L.length) {K : Int → HProp} (hK : K L[i] h) :
    indexW (i : Int) v 1 (fun a => loadI k a K) h := by
  refine A.index (by omega) (by omega) fun a ha => ?_
  have c0 := A.cell (i := i) (j := 0) (x := L[i]) (y := .int k L[i]) ha (List.getElem?_eq_getElem hi) rfl
  rw [add0] at c0
  exact loadI_i c0 hK
theorem _root_.Go.Cz.Vec.store' {h : H} {v : Sl} {k : IntKind} {C : List Int} (V : Vec h v (eI k) C) {i : Nat} {a : Addr} {x' : Int} {K : HProp} (hs : Slot v i 1 a) (hi : i < C.length)
    (hK : ∀ h', Vec h' v (eI k) (C.set i x') → Fr v.on h h' → K h') : storeW a (.int k x') K h := by
  have := V.store (i := i) (j := 0) (x := C[i]) (x' := x') (y := .int k x') hs (List.getElem?_eq_getElem hi) Nat.one_pos rfl hK
  rwa [add0] at this
theorem set_mid {α : Type} {D : List α} {S : List α} {n : Nat} (hn : D.length = n) (h : n < S.length) (x : α) : (D ++ S.drop n).set n x = D ++ [x] ++ S.drop (n + 1) := by
  rw [List.set_append_right _ _ (by omega), List.append_assoc]
  congr 1
  rw [List.drop_eq_getElem_cons h, hn, Nat.sub_self]
  rfl
theorem compactI_i {v : Sl} {S : List Int} {h : H} (V : Vec h v (eI .i64) S) (hS : S.length ≤ 1000000) {Q : Sl → HProp}
    (hQ : ∀ u h', Vec h' u (eI .i64) (dd S) → (∀ b, u.on b → v.on b) → Fr v.on h h' → Q u h') : slices_Compact_int_int v Q h := by
  unfold slices_Compact_int_int
  have A := V.arr
  simp only [A.len, ltI_eq, eqI_eq]
  have h1 : (∀ j, (hj : j + 1 < S.length) → S[j + 1] ≠ S[j]) → Q v h := fun hp => by
    refine hQ v h ?_ (fun b hb => hb) (Fr.refl _ _)
    have : dd S = S := by
      cases hS0 : S with
      | nil => rfl
      | cons x r =>
        have := dd_free (S := S) S.length (by rw [hS0]; simp) (Nat.le_refl _) fun j hj hl => hp j hl
        rw [List.take_length] at this
        rw [← hS0]; exact this
    rw [this]; exact V
  refine ite_i (fun hs => h1 fun j hj => by have : (S.length : Int) < 2 := (by simpa using hs); omega) fun hs => ?_
  have hs2 : 2 ≤ S.length := by have : ¬ ((S.length : Int) < 2) := (by simpa using hs); omega
  refine loop_i (fun (s : Int) h' => h' = h ∧ ∃ i : Nat, s = i ∧ 1 ≤ i ∧ i ≤ S.length ∧ ∀ j, (hj : j + 1 < i) → ∀ hl : j + 1 < S.length, S[j + 1] ≠ S[j]) (fun s => ((S.length : Int) - s).toNat) ⟨rfl, 1, rfl, Nat.le_refl _, by omega, fun j hj => by omega⟩ ?_
  rintro s h' ⟨rfl, i, rfl, hi1, hi, hp⟩ k hk
  refine ite_i (fun hlt => ?_) fun hge => h1 fun j hj => hp j (by have : ¬ (i < S.length) := (by simpa using hge); omega) hj
  have hlt : i < S.length := by simpa using hlt
  refine A.one hlt ?_
  rw [show sub .i64 (i : Int) 1 = ((i - 1 : Nat) : Int) by rw [sub_i64 (by omega) (by omega)]; omega]
  refine A.one (by omega) ?_
  refine ite_i (fun he => ?_) fun he => ?_
  · have he : S[i] = S[i - 1] := of_decide_eq_true he
    have hcap : S.length ≤ v.cap := by rw [← A.len]; exact A.le
    unfold sliceW
    refine ⟨by omega, by omega, by omega, ?_⟩
    simp only [Int.toNat_natCast]
    refine loop_i (fun (p : Int × Int) h3 => ∃ (a b : Nat), p.1 = a ∧ p.2 = b ∧ 1 ≤ b ∧ i + b ≤ S.length ∧ (dd (S.take (i + b))).length = a ∧ a < i + b ∧ Vec h3 v (eI .i64) (dd (S.take (i + b)) ++ S.drop a) ∧ Fr v.on h' h3) (fun p => ((S.length : Int) - p.2).toNat)
      ⟨i, 1, rfl, rfl, Nat.le_refl _, by omega, ?_, by omega, ?_, Fr.refl _ _⟩ ?_
    · obtain ⟨j, rfl⟩ : ∃ j, i = j + 1 := ⟨i - 1, by omega⟩
      rw [dd_step (by omega), if_pos (by simpa using he), List.append_nil, dd_free _ hi1 hi hp]
      simp; omega
    · obtain ⟨j, rfl⟩ : ∃ j, i = j + 1 := ⟨i - 1, by omega⟩
      rw [dd_step (by omega), if_pos (by simpa using he), List.append_nil, dd_free _ hi1 hi hp, List.take_append_drop]
      exact V
    rintro ⟨a, b⟩ h3 ⟨a, b, rfl, rfl, hb1, hbl, hD, hab, V3, F3⟩ k2 hk2
    simp only at *
    have hC : (dd (S.take (i + b)) ++ S.drop a).length = S.length := by simp [hD]; omega
    have U3 := V3.view (i := i) (by omega)
    rw [hC] at U3
    have hUl : ((dd (S.take (i + b)) ++ S.drop a).drop i).length = S.length - i := by rw [List.length_drop, hC]
    have eb : add .i64 (b : Int) 1 = (b : Int) + 1 := add_i64 (by omega) (by omega)
    have get : ∀ m, i + b - 1 ≤ i + m → (hm : m < ((dd (S.take (i + b)) ++ S.drop a).drop i).length) → ((dd (S.take (i + b)) ++ S.drop a).drop i)[m] = S[i + m]'(by omega) := by
      intro m h1 hm
      rw [List.getElem_drop, List.getElem_append_right (by omega), List.getElem_drop]
      congr 1; omega
    refine ite_i (fun hblt => ?_) fun hbge => ?_
    · have hblt : b < S.length - i := by
        have : (b : Int) < ((S.length - i : Nat) : Int) := by simpa using hblt
        omega
      refine with_u (U3.one (by omega) ?_)
      rw [show sub .i64 (b : Int) 1 = ((b - 1 : Nat) : Int) by rw [sub_i64 (by omega) (by omega)]; omega]
      refine U3.one (by omega) ?_
      rw [eb, get b (by omega) (by omega), get (b - 1) (by omega) (by omega)]
      have step := dd_next (S := S) (n := i + b) (by omega) (by omega)
      simp only [show i + b - 1 = i + (b - 1) by omega] at step
      refine ite_i (fun hx => ?_) fun hx => ?_
      · have hx : ¬ (S[i + b] = S[i + (b - 1)]) := by simpa using hx
        rw [if_neg hx] at step
        refine U3.one (by omega) ?_
        rw [get b (by omega) (by omega)]
        refine V3.arr.index (w := 1) (by omega) (by omega) fun ad had => ?_
        refine V3.store' (i := a) (x' := S[i + b]) had (by omega) fun h4 V4 F4 => ?_
        rw [add_i64 (by omega) (by omega)]
        refine hk2 _ _ ⟨a + 1, b + 1, by simp, by simp, by omega, by omega, ?_, by omega, ?_, F3.trans F4⟩ (by simp; omega)
        · show (dd (S.take (i + b + 1))).length = _
          rw [step]; simp [hD]
        · show Vec h4 v (eI .i64) (dd (S.take (i + b + 1)) ++ _)
          rw [step, ← set_mid hD (by omega)]; exact V4
      · have hx : S[i + b] = S[i + (b - 1)] := by simpa using hx
        rw [if_pos hx, List.append_nil] at step
        refine hk2 _ _ ⟨a, b + 1, rfl, by simp, by omega, by omega, ?_, by omega, ?_, F3⟩ (by simp; omega)
        · show (dd (S.take (i + b + 1))).length = _
          rw [step]; exact hD
        · show Vec h3 v (eI .i64) (dd (S.take (i + b + 1)) ++ _)
          rw [step]; exact V3
    · have hbge : S.length - i ≤ b := by
        have : ¬ ((b : Int) < ((S.length - i : Nat) : Int)) := by simpa using hbge
        omega
      have e : i + b = S.length := by omega
      rw [e, List.take_length] at V3 hD
      have ha : a < (dd S ++ S.drop a).length := by simp [hD]; omega
      have := trunc_i V3 ha (z := [.int .i64 0]) rfl (Q := Q) fun h4 V4 F4 => ?_
      · rw [show (dd S ++ S.drop a).length = S.length by simp [hD]; omega] at this
        unfold sliceW at this
        exact this
      · rw [List.take_left' hD] at V4
        exact hQ _ _ V4 (fun b ⟨x, hx, hb⟩ => ⟨x, hx, hb⟩) (F3.trans F4)
  · rw [add_i64 (by omega) (by omega)]
    refine hk _ _ ⟨rfl, i + 1, by simp, by omega, by omega, fun j hj hl => ?_⟩ (by omega)
    by_cases e : j + 1 = i
    · have he : ¬ (S[i] = S[i - 1]) := of_decide_eq_false he
      subst e
      simpa using he
    · exact hp j (by omega) hl
theorem compactP_i {v : Sl} {S : List (Int × Int)} {h : H} (V : Vec h v eP S) (hS : S.length ≤ 1000000) {Q : Sl → HProp}
    (hQ : ∀ u h', Vec h' u eP (dd S) → (∀ b, u.on b → v.on b) → Fr v.on h h' → Q u h') : slices_Compact_api_Edge_api_Edge v Q h := by
  unfold slices_Compact_api_Edge_api_Edge
  have A := V.arr
  simp only [A.len, ltI_eq, eqI_eq]
  have h1 : (∀ j, (hj : j + 1 < S.length) → S[j + 1] ≠ S[j]) → Q v h := fun hp => by
    refine hQ v h ?_ (fun b hb => hb) (Fr.refl _ _)
    have : dd S = S := by
      cases hS0 : S with
      | nil => rfl
      | cons x r =>
        have := dd_free (S := S) S.length (by rw [hS0]; simp) (Nat.le_refl _) fun j hj hl => hp j hl
        rw [List.take_length] at this
        rw [← hS0]; exact this
    rw [this]; exact V
  refine ite_i (fun hs => h1 fun j hj => by have : (S.length : Int) < 2 := (by simpa using hs); omega) fun hs => ?_
  have hs2 : 2 ≤ S.length := by have : ¬ ((S.length : Int) < 2) := (by simpa using hs); omega
  refine loop_i (fun (s : Int) h' => h' = h ∧ ∃ i : Nat, s = i ∧ 1 ≤ i ∧ i ≤ S.length ∧ ∀ j, (hj : j + 1 < i) → ∀ hl : j + 1 < S.length, S[j + 1] ≠ S[j]) (fun s => ((S.length : Int) - s).toNat) ⟨rfl, 1, rfl, Nat.le_refl _, by omega, fun j hj => by omega⟩ ?_
  rintro s h' ⟨rfl, i, rfl, hi1, hi, hp⟩ k hk
  refine ite_i (fun hlt => ?_) fun hge => h1 fun j hj => hp j (by have : ¬ (i < S.length) := (by simpa using hge); omega) hj
  have hlt : i < S.length := by simpa using hlt
  refine A.pair hlt ?_
  rw [show sub .i64 (i : Int) 1 = ((i - 1 : Nat) : Int) by rw [sub_i64 (by omega) (by omega)]; omega]
  refine A.pair (by omega) ?_
  rw [eqPairs2]
  refine ite_i (fun he => ?_) fun he => ?_
  · have he : S[i] = S[i - 1] := of_decide_eq_true he
    have hcap : S.length ≤ v.cap := by rw [← A.len]; exact A.le
    unfold sliceW
    refine ⟨by omega, by omega, by omega, ?_⟩
    simp only [Int.toNat_natCast]
    refine loop_i (fun (p : Int × Int) h3 => ∃ (a b : Nat), p.1 = a ∧ p.2 = b ∧ 1 ≤ b ∧ i + b ≤ S.length ∧ (dd (S.take (i + b))).length = a ∧ a < i + b ∧ Vec h3 v eP (dd (S.take (i + b)) ++ S.drop a) ∧ Fr v.on h' h3) (fun p => ((S.length : Int) - p.2).toNat)
      ⟨i, 1, rfl, rfl, Nat.le_refl _, by omega, ?_, by omega, ?_, Fr.refl _ _⟩ ?_
    · obtain ⟨j, rfl⟩ : ∃ j, i = j + 1 := ⟨i - 1, by omega⟩
      rw [dd_step (by omega), if_pos (by simpa using he), List.append_nil, dd_free _ hi1 hi hp]
      simp; omega
    · obtain ⟨j, rfl⟩ : ∃ j, i = j + 1 := ⟨i - 1, by omega⟩
      rw [dd_step (by omega), if_pos (by simpa using he), List.append_nil, dd_free _ hi1 hi hp, List.take_append_drop]
      exact V
    rintro ⟨a, b⟩ h3 ⟨a, b, rfl, rfl, hb1, hbl, hD, hab, V3, F3⟩ k2 hk2
    simp only at *
    have hC : (dd (S.take (i + b)) ++ S.drop a).length = S.length := by simp [hD]; omega
    have U3 := V3.view (i := i) (by omega)
    rw [hC] at U3
    have hUl : ((dd (S.take (i + b)) ++ S.drop a).drop i).length = S.length - i := by rw [List.length_drop, hC]
    have eb : add .i64 (b : Int) 1 = (b : Int) + 1 := add_i64 (by omega) (by omega)
    have get : ∀ m, i + b - 1 ≤ i + m → (hm : m < ((dd (S.take (i + b)) ++ S.drop a).drop i).length) → ((dd (S.take (i + b)) ++ S.drop a).drop i)[m] = S[i + m]'(by omega) := by
      intro m h1 hm
      rw [List.getElem_drop, List.getElem_append_right (by omega), List.getElem_drop]
      congr 1; omega
    refine ite_i (fun hblt => ?_) fun hbge => ?_
    · have hblt : b < S.length - i := by
        have : (b : Int) < ((S.length - i : Nat) : Int) := by simpa using hblt
        omega
      refine with_u (U3.pair (by omega) ?_)
      rw [show sub .i64 (b : Int) 1 = ((b - 1 : Nat) : Int) by rw [sub_i64 (by omega) (by omega)]; omega]
      refine U3.pair (by omega) ?_
      rw [eb, get b (by omega) (by omega), get (b - 1) (by omega) (by omega)]
      have step := dd_next (S := S) (n := i + b) (by omega) (by omega)
      simp only [show i + b - 1 = i + (b - 1) by omega] at step
      rw [eqPairs2]
      refine ite_i (fun hx => ?_) fun hx => ?_
      · have hx : ¬ (S[i + b] = S[i + (b - 1)]) := of_decide_eq_false (by simpa only [Bool.not_eq_true'] using hx)
        rw [if_neg hx] at step
        refine U3.pair (by omega) ?_
        rw [get b (by omega) (by omega)]
        refine V3.arr.index (w := 2) (by omega) (by omega) fun ad had => ?_
        refine V3.stores (i := a) (x := S[i + b]) had (by omega) rfl fun h4 V4 F4 => ?_
        rw [add_i64 (by omega) (by omega)]
        refine hk2 _ _ ⟨a + 1, b + 1, by simp, by simp, by omega, by omega, ?_, by omega, ?_, F3.trans F4⟩ (by simp; omega)
        · show (dd (S.take (i + b + 1))).length = _
          rw [step]; simp [hD]
        · show Vec h4 v eP (dd (S.take (i + b + 1)) ++ _)
          rw [step, ← set_mid hD (by omega)]; exact V4
      · have hx : S[i + b] = S[i + (b - 1)] := of_decide_eq_true (by simpa only [Bool.not_eq_false'] using hx)
        rw [if_pos hx, List.append_nil] at step
        refine hk2 _ _ ⟨a, b + 1, rfl, by simp, by omega, by omega, ?_, by omega, ?_, F3⟩ (by simp; omega)
        · show (dd (S.take (i + b + 1))).length = _
          rw [step]; exact hD
        · show Vec h3 v eP (dd (S.take (i + b + 1)) ++ _)
          rw [step]; exact V3
    · have hbge : S.length - i ≤ b := by
        have : ¬ ((b : Int) < ((S.length - i : Nat) : Int)) := by simpa using hbge
        omega
      have e : i + b = S.length := by omega
      rw [e, List.take_length] at V3 hD
      have ha : a < (dd S ++ S.drop a).length := by simp [hD]; omega
      have := trunc_i V3 ha (z := [.int .i64 0, .int .i64 0]) rfl (Q := Q) fun h4 V4 F4 => ?_
      · rw [show (dd S ++ S.drop a).length = S.length by simp [hD]; omega] at this
        unfold sliceW at this
        exact this
      · rw [List.take_left' hD] at V4
        exact hQ _ _ V4 (fun b ⟨x, hx, hb⟩ => ⟨x, hx, hb⟩) (F3.trans F4)
  · rw [add_i64 (by omega) (by omega)]
    refine hk _ _ ⟨rfl, i + 1, by simp, by omega, by omega, fun j hj hl => ?_⟩ (by omega)
    by_cases e : j + 1 = i
    · have he : ¬ (S[i] = S[i - 1]) := of_decide_eq_false he
      subst e
      simpa using he
    · exact hp j (by omega) hl
def badG (n : Int) (L : List (Int × Int)) : Bool := !(decide (1 ≤ n) && decide (n ≤ 256)) || L.any (badE n)
def normG (L : List (Int × Int)) : List (Int × Int) := dd (L.mergeSort leP)
def normE (n : Int) (L : List (Int × Int)) : Int := if badG n L then 2 else if 4096 < (normG L).length then 3 else 0
theorem norm_rise (L : List (Int × Int)) : Rising (normG L) := by
  refine dd_rise (lt := fun a b => ltP a b = true) (fun a b c h1 h2 => ?_) ((sort_le L).imp fun {a b} h => ?_)
  · rw [ltP_iff'] at *; omega
  · rw [leP_iff] at h
    rw [ltP_iff', Prod.ext_iff]
    omega
theorem norm_mem {L : List (Int × Int)} {x : Int × Int} : x ∈ normG L ↔ x ∈ L := by
  unfold normG
  rw [dd_mem, (List.mergeSort_perm L leP).mem_iff]
theorem norm_len (L : List (Int × Int)) : (normG L).length ≤ L.length := by
  have := dd_len (L.mergeSort leP)
  rw [(List.mergeSort_perm L leP).length_eq] at this
  exact this
theorem normal_i {n : Int} {v : Sl} {L : List (Int × Int)} {h : H} (A : Arr h v eP L) (hL : L.length ≤ 1000000) {Q : Sl × Int → HProp}
    (hbad : normE n L ≠ 0 → ∀ h', Ext h h' → Q (Sl.mk none 0 0, normE n L) h')
    (hgood : normE n L = 0 → ∀ u h', Vec h' u eP (normG L) → New h u → Ext h h' → Q (u, 0) h') : edges_Normal (n, v) Q h := by
  unfold edges_Normal edges_Normal_F
  refine Obj.new fun b h1 o1 n1 e1 => ?_
  refine with_b (badG n L) (fun k hk => ?_) ?_
  · refine loadI_i (n := n) (o1.ld0 rfl) (may_spec (ite_i (fun hm => ?_) fun hm => ?_))
    · have : badG n L = true := by unfold badG; rw [hm]; rfl
      rw [this] at hk; exact hk
    · have : badG n L = L.any (badE n) := by unfold badG; rw [hm]; rfl
      rw [this] at hk
      exact contains_spec (p := badE n) (A.ext e1) (by omega) (fun x Q hQ => bad_spec o1 hQ) hk
  · refine ite_i (fun hb => ?_) fun hb => ?_
    · have e : normE n L = 2 := by unfold normE; rw [if_pos hb]
      rw [e] at hbad
      exact hbad (by decide) h1 e1
    unfold slices_Values_api_Edge_api_Edge slices_SortedFunc_api_Edge slices_SortedFunc_api_Edge_F
    refine Obj.new fun b2 h2 o2 n2 e2 => ?_
    refine collect_spec ((A.ext e1).ext e2) (by omega) o2 fun u h3 V3 N3 E3 => ?_
    refine sortF_spec V3 (by omega) fun h4 V4 F4 => ?_
    have N3' : New h u := fun b hb => e1.none (e2.none (N3 b hb))
    have E4 : Ext h h4 := ((e1.trans e2).trans E3).of_new F4 N3'
    have hsl : (L.mergeSort leP).length = L.length := (List.mergeSort_perm L leP).length_eq
    refine compactP_i V4 (by omega) fun u5 h5 V5 hu F5 => ?_
    have hl := norm_len L
    simp only [ltI_eq, V5.len]
    refine ite_i (fun e => ?_) fun e => ?_
    · have e : 4096 < (normG L).length := by have e := of_decide_eq_true e; unfold normG; omega
      have e3 : normE n L = 3 := by unfold normE; rw [if_neg (by rw [hb]; decide), if_pos e]
      rw [e3] at hbad
      exact hbad (by decide) h5 (E4.of_new F5 N3')
    · have e : ¬ 4096 < (normG L).length := by have e := of_decide_eq_false e; unfold normG; omega
      exact hgood (by unfold normE; rw [if_neg (by rw [hb]; decide), if_neg e]) u5 h5 V5 (fun b hb => N3' b (hu b hb)) (E4.of_new F5 N3')
end Go.Cz.S
namespace Go.Cz.S
open Go Go.Cz
set_option maxRecDepth 100000
set_option maxHeartbeats 1000000
set_option linter.unusedSimpArgs false
set_option linter.unusedVariables false
theorem sts_i {h : H} {c : Nat} {cs vs : List Value} (o : Obj h c cs) (hl : vs.length = cs.length) {K : HProp} (hK : ∀ h', Obj h' c vs → Fr (fun k => k = c) h h' → K h') : storesW ⟨c, 0, none⟩ vs K h := by
  unfold storesW
  unfold Obj at o
  simp only [o]
  refine ⟨trivial, by omega, hK _ ?_ Fr.set⟩
  unfold Obj
  rw [set_same, List.take_zero, List.nil_append, List.drop_of_length_le (by omega), List.append_nil]
structure GridB (h0 h : H) (v : Sl) (svs : List Sl) (rows : List (List Int)) : Prop where
  vec : Vec h v eL svs
  len : svs.length = rows.length
  new : New h0 v
  news : ∀ w ∈ svs, New h0 w ∧ ∀ k, w.on k → ¬ v.on k
  row : ∀ (i : Nat) (w : Sl) (l : List Int), svs[i]? = some w → rows[i]? = some l → Vec h w (eI .i64) l
  apart : ∀ (i j : Nat) (w u : Sl), svs[i]? = some w → svs[j]? = some u → i ≠ j → ∀ k, w.on k → ¬ u.on k
theorem GridB.fr {h0 h h' : H} {v : Sl} {svs : List Sl} {rows : List (List Int)} {S : Nat → Prop} (G : GridB h0 h v svs rows) (f : Fr S h h') (h1 : ∀ k, v.on k → ¬ S k) (h2 : ∀ w ∈ svs, ∀ k, w.on k → ¬ S k) : GridB h0 h' v svs rows :=
  ⟨G.vec.fr f h1, G.len, G.new, G.news, fun i w l e1 e2 => (G.row i w l e1 e2).fr f (h2 w (List.mem_of_getElem? e1)), G.apart⟩
theorem GridB.ext {h0 h h' : H} {v : Sl} {svs : List Sl} {rows : List (List Int)} (G : GridB h0 h v svs rows) (f : Ext h h') : GridB h0 h' v svs rows := G.fr f (fun _ _ h => h) fun _ _ _ _ h => h
theorem GridB.put {h0 h h1 : H} {v : Sl} {svs : List Sl} {rows : List (List Int)} (G : GridB h0 h v svs rows) (g : Ext h0 h) {i : Nat} {w w' : Sl} {l' : List Int} (hw : svs[i]? = some w) (f : Fr w.on h h1) (V : Vec h1 w' (eI .i64) l') (hn : ∀ k, w'.on k → w.on k ∨ h k = none)
    {a : Addr} (hs : Slot v i 1 a) {K : HProp} (hK : ∀ h2, GridB h0 h2 v (svs.set i w') (rows.set i l') → Fr (fun k => v.on k ∨ w.on k) h h2 → K h2) : storeW a (.slice w'.a w'.len w'.cap) K h1 := by
  have hil : i < svs.length := (List.getElem?_eq_some_iff.1 hw).1
  have wm := List.mem_of_getElem? hw
  have V1 : Vec h1 v eL svs := G.vec.fr f fun k hk hk2 => (G.news w wm).2 k hk2 hk
  have nv : ∀ k, w'.on k → ¬ v.on k := fun k hk hv => by
    rcases hn k hk with h | h
    · exact (G.news w wm).2 k h hv
    · obtain ⟨o, ho⟩ := G.vec.there hv
      rw [h] at ho; cases ho
  have := V1.store (i := i) (j := 0) (x := w) (x' := w') (y := .slice w'.a w'.len w'.cap) hs hw Nat.one_pos rfl (K := K) fun h2 V2 F2 => ?_
  · rwa [add0] at this
  refine hK h2 ⟨V2, by simp [G.len], G.new, ?_, ?_, ?_⟩ ((f.mono fun k hk => .inr hk).trans (F2.mono fun k hk => .inl hk))
  · intro u hu
    rcases List.mem_or_eq_of_mem_set hu with hu | rfl
    · exact G.news u hu
    · refine ⟨fun k hk => ?_, nv⟩
      rcases hn k hk with h | h
      · exact (G.news w wm).1 k h
      · exact g.none h
  · intro j u l e1 e2
    by_cases hj : i = j
    · subst hj
      rw [List.getElem?_set_self hil] at e1
      rw [List.getElem?_set_self (by rw [← G.len]; exact hil)] at e2
      cases e1; cases e2
      exact V.fr F2 nv
    · rw [List.getElem?_set_ne hj] at e1 e2
      refine ((G.row j u l e1 e2).fr f fun k hk hw2 => G.apart j i u w e1 hw (Ne.symm hj) k hk hw2).fr F2 fun k hk => (G.news u (List.mem_of_getElem? e1)).2 k hk
  · intro j j2 u u2 e1 e2 hne k hk hk2
    have out : ∀ m x, m ≠ i → svs[m]? = some x → ∀ k, x.on k → ¬ w'.on k := fun m x hm hx k hk hk2 => by
      rcases hn k hk2 with h | h
      · exact G.apart m i x w hx hw hm k hk h
      · have hml : m < rows.length := by rw [← G.len]; exact (List.getElem?_eq_some_iff.1 hx).1
        obtain ⟨o, ho⟩ := (G.row m x _ hx (List.getElem?_eq_getElem hml)).there hk
        rw [h] at ho; cases ho
    by_cases hj : i = j
    · subst hj
      rw [List.getElem?_set_self hil] at e1; cases e1
      rw [List.getElem?_set_ne hne] at e2
      exact out j2 u2 (Ne.symm hne) e2 k hk2 hk
    · rw [List.getElem?_set_ne hj] at e1
      by_cases hj2 : i = j2
      · subst hj2
        rw [List.getElem?_set_self hil] at e2; cases e2
        exact out j u hne e1 k hk hk2
      · rw [List.getElem?_set_ne hj2] at e2
        exact G.apart j j2 u u2 e1 e2 hne k hk hk2
theorem GridB.rows2 {h0 h : H} {v : Sl} {svs : List Sl} {rows : List (List Int)} (G : GridB h0 h v svs rows) : Rows2 h v rows := ⟨svs, G.vec.arr, G.len, fun i w l h1 h2 => (G.row i w l h1 h2).arr⟩
theorem sortI_i {v : Sl} {L : List Int} {h : H} (V : Vec h v (eI .i64) L) (hL : L.length ≤ 1000000) (hr : L.Pairwise fun a b => a < b) {Q : Unit → HProp}
    (hQ : ∀ h', Vec h' v (eI .i64) L → Fr v.on h h' → Q () h') : slices_Sort_int_int v Q h := by
  unfold slices_Sort_int_int sortIW
  have A := V.arr
  have hrow : h.row? v.a v.len = some (L.map (Value.int .i64)) := by
    have := A.row (w := 1) rfl (K := fun l' _ => l' = (eI .i64).all L) rfl
    unfold rowW at this
    obtain ⟨l', q1, _, q2⟩ := this
    rw [Nat.mul_one] at q1
    rw [q1, q2, eI_all]
  have hs : L.mergeSort (fun x y => decide (x ≤ y)) = L := List.mergeSort_of_pairwise (hr.imp fun {a b} h => by simpa using Int.le_of_lt h)
  refine ⟨L, A.len.symm, by omega, hrow, fun e => hQ h V (Fr.refl _ _), fun e => ?_⟩
  cases ha : v.a with
  | none => exact absurd ha (A.ne e)
  | some a =>
  refine ⟨a, rfl, ?_⟩
  obtain ⟨k1, c, k2, k3, k4⟩ := V.blk a ha
  have hle : L.length ≤ v.cap := by rw [← V.len]; exact V.le
  have hw : (eI .i64).w = 1 := rfl
  rw [hw] at k3 k4
  rw [hs]
  unfold storesW
  simp only [k2, List.length_map]
  refine ⟨k1, by omega, hQ _ ⟨V.len, V.le, V.nil, fun a' ha' => ?_⟩ (Fr.set.mono fun k hk => ⟨a, ha, hk.symm⟩)⟩
  rw [ha] at ha'; cases ha'
  refine ⟨k1, _, set_same .., ?_, ?_⟩
  · simp only [List.length_append, List.length_take, List.length_drop, List.length_map, hw]; omega
  · have h1 : (c.take a.off).length = a.off := by simp; omega
    rw [List.append_assoc, List.drop_left' h1, hw, List.take_left' (by simp), eI_all]
def rowE (L : List (Int × Int)) (v : Int) : List Int := (L.filter fun x => decide (x.1 = v)).map (·.2)
def outE (L : List (Int × Int)) (a b : Int) : List (List Int) := (List.range (b - a).toNat).map fun i : Nat => rowE L (a + i)
theorem outE_len (L : List (Int × Int)) (a b : Int) : (outE L a b).length = (b - a).toNat := by simp [outE]
theorem outE_at {L : List (Int × Int)} {a b : Int} {i : Nat} (hi : i < (b - a).toNat) : (outE L a b)[i]? = some (rowE L (a + i)) := by
  unfold outE
  rw [List.getElem?_map, List.getElem?_range hi]; rfl
theorem rowE_rise {L : List (Int × Int)} (hR : Rising L) (v : Int) : (rowE L v).Pairwise fun a b => a < b := by
  unfold rowE
  rw [List.pairwise_map]
  refine List.Pairwise.imp_of_mem (fun {a b} ha hb h => ?_) (hR.filter _)
  have h1 := of_decide_eq_true (List.mem_filter.1 ha).2
  have h2 := of_decide_eq_true (List.mem_filter.1 hb).2
  rw [ltP_iff'] at h
  omega
theorem rowE_len (L : List (Int × Int)) (v : Int) : (rowE L v).length ≤ L.length := by
  unfold rowE; rw [List.length_map]; exact List.length_filter_le ..
theorem rowE_snoc (L : List (Int × Int)) (x : Int × Int) (v : Int) : rowE (L ++ [x]) v = if x.1 = v then rowE L v ++ [x.2] else rowE L v := by
  unfold rowE
  rw [List.filter_append, List.map_append, List.filter_cons]
  split
  · rename_i h; rw [if_pos (of_decide_eq_true h)]; rfl
  · rename_i h; rw [if_neg (by simpa using h)]; simp
theorem dd_rising {L : List Int} (h : L.Pairwise fun a b => a < b) : dd L = L := by
  cases hS0 : L with
  | nil => rfl
  | cons x r =>
    have := dd_free (S := L) L.length (by rw [hS0]; simp) (Nat.le_refl _) fun j hj hl e => by
      have := List.pairwise_iff_getElem.1 h j (j + 1) (by omega) hl (by omega)
      omega
    rw [List.take_length] at this
    rw [← hS0]; exact this
theorem make_i' {v : Sl} {L : List (Int × Int)} {a b : Int} {h : H} (A : Arr h v eP L) (hL : L.length ≤ 1000000) (hR : Rising L) (hb : ∀ x ∈ L, 0 ≤ x.1 ∧ x.1 ≤ 1000) (hp : okPart a b = true) {Q : Int × Int × Sl → HProp}
    (hQ : ∀ w h', Rows2 h' w (outE L a b) → Ext h h' → Q (a, b, w) h') : shards_Make (v, a, b) Q h := by
  unfold shards_Make shards_Make_F
  refine may_i ?_
  rw [hp]
  refine ite_f rfl ?_
  unfold okPart at hp
  simp only [Bool.and_eq_true, decide_eq_true_eq] at hp
  have e1 : sub .i64 b a = b - a := sub_i64 (by omega) (by omega)
  have hn : ∃ n : Nat, b - a = n ∧ (b - a).toNat = n ∧ n ≤ 1000 := ⟨(b - a).toNat, by omega, rfl, by omega⟩
  obtain ⟨n, en, en2, hn⟩ := hn
  simp only [e1, en, ltI_eq, leI_eq]
  refine with_i (fun (t : Option Addr) h' => ∃ c w, t = some (at0 c) ∧ Obj h' c [.int .i64 a, .int .i64 b, .slice w.a w.len w.cap] ∧ GridB h h' w (List.replicate n ⟨none, 0, 0⟩) (List.replicate n []) ∧ Ext h h' ∧ h c = none ∧ ¬ w.on c) (fun k hk => ?_) ?_
  · have GB : ∀ (h1 h2 : H) (w : Sl), Vec h1 w eL (List.replicate n ⟨none, 0, 0⟩) → New h w → Ext h1 h2 → GridB h h2 w (List.replicate n ⟨none, 0, 0⟩) (List.replicate n []) := by
      intro h1 h2 w V nw e
      refine ⟨V.ext e, by simp, nw, fun u hu => ?_, fun i u l h1 h2 => ?_, fun i j u u2 h1 h2 hne k hk => ?_⟩
      · rw [(List.mem_replicate.1 hu).2]
        exact ⟨New.nil0, fun k hk => by obtain ⟨a, ha, _⟩ := hk; cases ha⟩
      · have := (List.mem_replicate.1 (List.mem_of_getElem? h1)).2
        have h3 := (List.mem_replicate.1 (List.mem_of_getElem? h2)).2
        subst this; subst h3
        exact Vec.nil0
      · have := (List.mem_replicate.1 (List.mem_of_getElem? h1)).2
        subst this
        obtain ⟨a, ha, _⟩ := hk; cases ha
    refine both_i ?_ ?_
    · refine make_i (E := eL) (x0 := ⟨none, 0, 0⟩) rfl (by omega) (by omega) (by omega) (by omega) ?_
      intro w h1 V _ nw e1 _
      refine Obj.new fun c h2 oc hc e2 => sts_i oc (by rfl) fun h3 o3 f3 => ?_
      have nc : ¬ w.on c := fun hw => by obtain ⟨o, ho⟩ := V.there hw; rw [hc] at ho; cases ho
      refine hk _ _ ⟨c, w, rfl, o3, ?_, (e1.trans e2).of_new f3 fun k hk => by subst hk; exact e1.none hc, e1.none hc, nc⟩
      simp only [Int.toNat_natCast] at V
      have g := GB h1 h1 w V nw (Ext.refl _)
      refine (g.ext e2).fr f3 (fun k hk e => by subst e; exact nc hk) fun u hu k hk e => ?_
      rw [(List.mem_replicate.1 hu).2] at hk
      obtain ⟨a, ha, _⟩ := hk; cases ha
    · refine Obj.new fun c h1 oc hc e1 => ?_
      refine make_i (E := eL) (x0 := ⟨none, 0, 0⟩) rfl (by omega) (by omega) (by omega) (by omega) ?_
      intro w h2 V _ nw e2 _
      have nc : ¬ w.on c := fun hw => by have := nw c hw; rw [show h1 c = _ from oc] at this; cases this
      refine sts_i (oc.ext e2) (by rfl) fun h3 o3 f3 => ?_
      refine hk _ _ ⟨c, w, rfl, o3, ?_, (e1.trans e2).of_new f3 fun k hk => by subst hk; exact hc, hc, nc⟩
      simp only [Int.toNat_natCast] at V
      have g := GB h2 h2 w V (New.mono e1 nw) (Ext.refl _)
      refine g.fr f3 (fun k hk e => by subst e; exact nc hk) fun u hu k hk e => ?_
      rw [(List.mem_replicate.1 hu).2] at hk
      obtain ⟨a, ha, _⟩ := hk; cases ha
  rintro t h1 ⟨c, w, rfl, oc, G, E1, hc, nc⟩
  have hvl := A.len
  have hwl := G.vec.len
  rw [List.length_replicate] at hwl
  refine loop_i (fun (s : Int) h' => ∃ (i : Nat) (svs : List Sl), s = i ∧ i ≤ L.length ∧ Obj h' c [.int .i64 a, .int .i64 b, .slice w.a w.len w.cap] ∧ GridB h h' w svs (outE (L.take i) a b) ∧ (∀ u ∈ svs, ¬ u.on c) ∧ Ext h h') (fun s => ((L.length : Int) - s).toNat)
    ⟨0, List.replicate n ⟨none, 0, 0⟩, rfl, by omega, oc, ?_, ?_, E1⟩ ?_
  · have : outE (L.take 0) a b = List.replicate n [] := by
      apply List.ext_getElem?
      intro i
      by_cases hi : i < n
      · rw [outE_at (by omega), List.getElem?_replicate, if_pos hi]; rfl
      · rw [List.getElem?_eq_none (by rw [outE_len]; omega), List.getElem?_eq_none (by simp; omega)]
    rw [this]; exact G
  · intro u hu hk
    rw [(List.mem_replicate.1 hu).2] at hk
    obtain ⟨a, ha, _⟩ := hk; cases ha
  rintro s h2 ⟨i, svs, rfl, hi, oc2, G2, ncs, E2⟩ k hk
  refine ite_i (fun e => ?_) (fun e => ?_)
  · have e := of_decide_eq_true e
    have hlt : i < L.length := by omega
    refine with_u ((A.ext E2).pair hlt ?_)
    obtain ⟨x0, x1⟩ := hb _ (List.getElem_mem hlt)
    have htk := List.take_succ_eq_append_getElem hlt
    generalize L[i] = x at *
    rw [add_i64 (by omega) (by omega)]
    refine with_b (decide (a ≤ x.1) && decide (x.1 < b)) (fun k2 hk2 => ite_i (fun e => by rw [e] at hk2; simpa using hk2) (fun e => by rw [e] at hk2; simpa using hk2)) ?_
    refine ite_i (fun e => ?_) (fun e => ?_)
    · simp only [Bool.and_eq_true, decide_eq_true_eq] at e
      refine deref_i (loadL_i (v := w) (oc2.ld (j := 2) rfl) (deref_i (loadL_i (v := w) (oc2.ld (j := 2) rfl) ?_)))
      rw [sub_i64 (by omega) (by omega)]
      obtain ⟨j, ej⟩ : ∃ j : Nat, x.1 - a = j := ⟨(x.1 - a).toNat, by omega⟩
      rw [ej]
      have hjl : j < svs.length := by rw [G2.len, outE_len]; omega
      refine G2.vec.arr.index (w := 1) (by omega) (by omega) fun p hp => ?_
      have hget := List.getElem?_eq_getElem hjl
      have hcell := G2.vec.arr.cell (j := 0) (x := svs[j]) hp hget rfl
      rw [add0] at hcell
      refine loadL_i hcell ?_
      have V := G2.row j _ _ hget (outE_at (by omega))
      have hrl := rowE_len (L.take i) (a + j)
      rw [List.length_take] at hrl
      refine keeps1 (oc2.ld (j := 2) rfl) (keeps1 (oc2.ld (j := 2) rfl) (keeps1 hcell ?_))
      refine Vec.append V (m := [x.2]) rfl rfl rfl (by omega) fun u h3 V3 f3 ub => ?_
      have oc3 : Obj h3 c _ := oc2.fr f3 (ncs _ (List.getElem_mem hjl))
      refine keeps1 (oc3.ld (j := 2) rfl) ?_
      have V4 := G2.vec.fr f3 fun k hk hk2 => (G2.news _ (List.getElem_mem hjl)).2 k hk2 hk
      refine V4.arr.index (w := 1) (by omega) (by omega) fun p hp => ?_
      refine G2.put E2 hget f3 V3 ub hp fun h4 G4 f4 => ?_
      refine hk _ _ ⟨i + 1, svs.set j u, rfl, by omega, oc2.fr f4 fun h => ?_, ?_, ?_, E2.of_new f4 fun k hk => ?_⟩ (by omega)
      · rcases h with h | h
        · exact nc h
        · exact ncs _ (List.getElem_mem hjl) h
      · have : outE (L.take (i + 1)) a b = (outE (L.take i) a b).set j (rowE (L.take i) (a + j) ++ [x.2]) := by
          apply List.ext_getElem?
          intro m
          by_cases hm : m < n
          · rw [outE_at (by omega), htk, rowE_snoc]
            by_cases hmj : j = m
            · subst hmj
              rw [List.getElem?_set_self (by rw [outE_len]; omega), if_pos (by omega)]
            · rw [List.getElem?_set_ne hmj, outE_at (by omega), if_neg (by omega)]
          · rw [List.getElem?_eq_none (by rw [outE_len]; omega), List.getElem?_eq_none (by rw [List.length_set, outE_len]; omega)]
        rw [this]
        exact G4
      · intro u' hu'
        rcases List.mem_or_eq_of_mem_set hu' with h | rfl
        · exact ncs _ h
        · intro hk'
          rcases ub c hk' with h | h
          · exact ncs _ (List.getElem_mem hjl) h
          · unfold Obj at oc2; rw [oc2] at h; cases h
      · rcases hk with h | h
        · exact G2.new k h
        · exact (G2.news _ (List.getElem_mem hjl)).1 k h
    · refine hk _ _ ⟨i + 1, svs, rfl, by omega, oc2, ?_, ncs, E2⟩ (by omega)
      have : outE (L.take (i + 1)) a b = outE (L.take i) a b := by
        apply List.ext_getElem?
        intro m
        by_cases hm : m < n
        · rw [outE_at (by omega), outE_at (by omega), htk, rowE_snoc, if_neg]
          simp only [Bool.and_eq_false_iff, decide_eq_false_iff_not] at e
          omega
        · rw [List.getElem?_eq_none (by rw [outE_len]; omega), List.getElem?_eq_none (by rw [outE_len]; omega)]
      rw [this]; exact G2
  · have e := of_decide_eq_false e
    rw [List.take_of_length_le (by omega)] at G2
    refine deref_i (loadL_i (v := w) (oc2.ld (j := 2) rfl) ?_)
    have hwl2 : w.len = n := by rw [G2.vec.len, G2.len, outE_len]; omega
    refine loop_i (fun (s : Int) h' => ∃ (i : Nat) (svs : List Sl), s = i ∧ i ≤ n ∧ Obj h' c [.int .i64 a, .int .i64 b, .slice w.a w.len w.cap] ∧ GridB h h' w svs (outE L a b) ∧ (∀ u ∈ svs, ¬ u.on c) ∧ Ext h h') (fun s => ((n : Int) - s).toNat)
      ⟨0, svs, rfl, by omega, oc2, G2, ncs, E2⟩ ?_
    rintro s h3 ⟨i, svs, rfl, hi, oc3, G3, ncs3, E3⟩ k3 hk3
    refine ite_i (fun e => ?_) (fun e => ?_)
    · have e := of_decide_eq_true e
      have hjl : i < svs.length := by rw [G3.len, outE_len]; omega
      refine G3.vec.arr.index (w := 1) (by omega) (by omega) fun p hp => ?_
      have hget := List.getElem?_eq_getElem hjl
      have hcell := G3.vec.arr.cell (j := 0) (x := svs[i]) hp hget rfl
      rw [add0] at hcell
      refine loadL_i hcell ?_
      have V := G3.row i _ _ hget (outE_at (by omega))
      have hrl := rowE_len L (a + i)
      have hri := rowE_rise hR (a + i)
      refine sortI_i V (by omega) hri fun h4 V4 f4 => ?_
      have oc4 : Obj h4 c _ := oc3.fr f4 (ncs3 _ (List.getElem_mem hjl))
      refine deref_i (loadL_i (v := w) (oc4.ld (j := 2) rfl) ?_)
      refine compactI_i V4 (by omega) fun u h5 V5 hu f5 => ?_
      rw [dd_rising hri] at V5
      have f35 := f4.trans f5
      have oc5 : Obj h5 c _ := oc3.fr f35 (ncs3 _ (List.getElem_mem hjl))
      refine keeps1 (oc5.ld (j := 2) rfl) ?_
      have V6 := G3.vec.fr f35 fun k hk hk2 => (G3.news _ (List.getElem_mem hjl)).2 k hk2 hk
      refine V6.arr.index (w := 1) (by omega) (by omega) fun p hp => ?_
      rw [add_i64 (by omega) (by omega)]
      refine G3.put E3 hget f35 V5 (fun k hk => .inl (hu k hk)) hp fun h7 G7 f7 => ?_
      refine hk3 _ _ ⟨i + 1, svs.set i u, rfl, by omega, oc3.fr f7 fun h => ?_, ?_, ?_, E3.of_new f7 fun k hk => ?_⟩ (by omega)
      · rcases h with h | h
        · exact nc h
        · exact ncs3 _ (List.getElem_mem hjl) h
      · have : (outE L a b).set i (rowE L (a + i)) = outE L a b := by
          apply List.ext_getElem?
          intro m
          by_cases hm : i = m
          · subst hm
            rw [List.getElem?_set_self (by rw [outE_len]; omega), outE_at (by omega)]
          · rw [List.getElem?_set_ne hm]
        rw [this] at G7
        exact G7
      · intro u' hu'
        rcases List.mem_or_eq_of_mem_set hu' with h | rfl
        · exact ncs3 _ h
        · exact fun hk' => ncs3 _ (List.getElem_mem hjl) (hu c hk')
      · rcases hk with h | h
        · exact G3.new k h
        · exact (G3.news _ (List.getElem_mem hjl)).1 k h
    · refine deref_i (loadI_i (n := a) ?_ (loadI_i (n := b) (oc3.ld (j := 1) rfl) (loadL_i (v := w) (oc3.ld (j := 2) rfl) (hQ w h3 G3.rows2 E3))))
      exact oc3.ld (j := 0) rfl
def edgesS (a : Int) : List (List Int) → List (Int × Int)
  | [] => []
  | l :: r => (l.map fun x => (a, x)) ++ edgesS (a + 1) r
theorem edgesS_snoc : ∀ (a : Int) (out : List (List Int)) (l : List Int), edgesS a (out ++ [l]) = edgesS a out ++ l.map fun x => (a + out.length, x)
  | a, [], l => by simp [edgesS]
  | a, m :: r, l => by
    simp only [List.cons_append, edgesS, edgesS_snoc (a + 1) r l, List.append_assoc, List.length_cons]
    congr 2
    apply List.map_congr_left
    intro x _
    rw [Prod.mk.injEq]
    exact ⟨by omega, rfl⟩
theorem edgesS_len : ∀ (a : Int) (out : List (List Int)), (edgesS a out).length = manyS out
  | a, [] => rfl
  | a, l :: r => by
    have := edgesS_len (a + 1) r
    simp only [edgesS, List.length_append, List.length_map, this, manyS, List.map_cons, List.sum_cons]
theorem Rows2.at' {h h1 : H} {v : Sl} {out : List (List Int)} (R : Rows2 h v out) (E : Ext h h1) {i : Nat} (hi : i < out.length) {K : Sl → HProp} (hK : ∀ w, Arr h w (eI .i64) out[i] → K w h1) :
    indexW (i : Int) v 1 (fun a => loadL a K) h1 := by
  obtain ⟨svs, A, hl, hr⟩ := R
  have hi' : i < svs.length := by omega
  refine (A.ext E).index (by omega) (by omega) fun a hs => ?_
  refine loadL_i ((A.ext E).cell (j := 0) (x := svs[i]) hs (by simp [hi']) rfl) ?_
  exact hK _ (hr i _ _ (List.getElem?_eq_getElem hi') (List.getElem?_eq_getElem hi))
theorem edges_i {a b : Int} {v : Sl} {out : List (List Int)} {h : H} (R : Rows2 h v out) (ha : 0 ≤ a ∧ a ≤ 1000) (hm : manyS out ≤ 1000000) (hl : out.length ≤ 1000000) {Q : Sl → HProp}
    (hQ : ∀ u h', Vec h' u eP (edgesS a out) → New h u → Ext h h' → Q u h') : shards_Edges (a, b, v) Q h := by
  unfold shards_Edges
  simp only [ltI_eq]
  have hvl := R.len
  refine loop_i (fun (s : Sl × Int) h' => ∃ i : Nat, s.2 = i ∧ i ≤ out.length ∧ Vec h' s.1 eP (edgesS a (out.take i)) ∧ New h s.1 ∧ Ext h h') (fun s => (out.length - s.2).toNat) ⟨0, rfl, by omega, Vec.nil0, New.nil0, Ext.refl h⟩ ?_
  rintro ⟨u, i'⟩ h1 ⟨i, hi, hil, V, nw, E⟩ k hk
  simp only at hi V nw
  subst hi
  dsimp only
  refine ite_i (fun e => ?_) (fun e => ?_)
  · have e := of_decide_eq_true e
    have hlt : i < out.length := by omega
    refine R.at' E hlt fun w A => ?_
    have hms := manyS_take hlt
    have hmle := manyS_le (out := out) (i + 1)
    have hel := edgesS_len a (out.take i)
    have hsn := edgesS_snoc a (out.take i) out[i]
    have htl : (out.take i).length = i := by simp; omega
    have htk := List.take_succ_eq_append_getElem hlt
    have hwl := A.len
    rw [add_i64 (a := a) (by omega) (by omega), add_i64 (by omega) (by omega)]
    generalize out[i] = l at *
    refine loop_i (fun (s : Sl × Int) h' => ∃ j : Nat, s.2 = j ∧ j ≤ l.length ∧ Vec h' s.1 eP (edgesS a (out.take i) ++ (l.take j).map fun x => (a + i, x)) ∧ New h s.1 ∧ Ext h h') (fun s => (l.length - s.2).toNat) ⟨0, rfl, by omega, by simpa using V, nw, E⟩ ?_
    rintro ⟨u2, j'⟩ h2 ⟨j, hj, hjl, V2, nw2, E2⟩ k2 hk2
    simp only at hj V2 nw2
    subst hj
    dsimp only
    refine ite_i (fun e => ?_) (fun e => ?_)
    · have e := of_decide_eq_true e
      have hlt2 : j < l.length := by omega
      refine (A.ext E2).one hlt2 ?_
      have hll : (edgesS a (out.take i) ++ (l.take j).map fun x => (a + (i : Int), x)).length + 1 ≤ 1000000 := by simp; omega
      refine V2.append_new E2 nw2 (m := [(a + i, l[j])]) rfl rfl rfl (by omega) ?_
      intro u3 h3 V3 E3 nw3 f3 _
      rw [add_i64 (by omega) (by omega)]
      refine hk2 _ _ ⟨j + 1, rfl, by omega, ?_, nw3, E3⟩ (by show (l.length - ((j : Int) + 1)).toNat < (l.length - (j : Int)).toNat; omega)
      show Vec h3 u3 eP _
      rw [List.take_succ_eq_append_getElem hlt2, List.map_append, ← List.append_assoc]
      exact V3
    · have e := of_decide_eq_false e
      rw [List.take_of_length_le (l := l) (by omega)] at V2
      refine hk _ _ ⟨i + 1, rfl, by omega, ?_, nw2, E2⟩ (by show (out.length - ((i : Int) + 1)).toNat < (out.length - (i : Int)).toNat; omega)
      show Vec h2 u2 eP _
      rw [htk, hsn, htl]
      exact V2
  · have e := of_decide_eq_false e
    rw [List.take_of_length_le (by omega)] at V
    exact hQ _ _ V nw E
end Go.Cz.S
namespace Go.Cz.S
open Go Go.Cz Go.Cz.Crc
set_option maxRecDepth 100000
set_option maxHeartbeats 1000000
set_option linter.unusedSimpArgs false
set_option linter.unusedVariables false
structure Man where
  n : Int
  e : Int
  L : List (Int × Int)
def okMan (m : Man) : Bool := decide (0 ≤ m.e) && decide (m.e ≤ 4096) && decide (checkL m.n m.L = 0)
def endsM (L : List (Int × Int)) : List Int := L.map (·.2)
def textM (m : Man) : List UInt8 := [99, 97, 114] ++ putN m.n.toNat ++ putN m.e.toNat ++ listB (endsM m.L)
def encM (m : Man) : List UInt8 := sealed (textM m)
def betw : Int → List Int → List (Int × Int)
  | _, [] => []
  | a, x :: r => (a, x) :: betw x r
def sealM (z : ByteArray) : Bool := decide (7 ≤ z.size) && decide (z.data.toList.take 3 = [99, 97, 114]) && decide (z.data.toList.drop (z.size - 4) = crc4 (mkB (z.data.toList.take (z.size - 4))))
def bodyM (z : ByteArray) : ByteArray := mkB (z.data.toList.take (z.size - 4))
def decM (z : ByteArray) : Option Man :=
  if sealM z then
    match getA (bodyM z) 3 with
    | none => none
    | some (n, k) => match getA (bodyM z) (3 + k) with
      | none => none
      | some (e, k2) => match listA (bodyM z) (3 + k + k2) with
        | none => none
        | some (l, k3) => if ((3 + k + k2 + k3 : Nat) : Int) = (bodyM z).size ∧ okMan ⟨n, e, betw 0 l⟩ = true then some ⟨n, e, betw 0 l⟩ else none
  else none
theorem walk_betw : ∀ (L : List (Int × Int)) (a n : Int), walkL a L = some n → betw a (endsM L) = L
  | [], a, n, _ => rfl
  | p :: r, a, n, h => by
    simp only [walkL] at h
    split at h
    · rename_i hp
      show (a, p.2) :: betw p.2 (endsM r) = p :: r
      rw [walk_betw r p.2 n h, ← hp.1]
    · cases h
theorem walk_rises : ∀ (L : List (Int × Int)) (a n : Int), walkL a L = some n → rises a (endsM L) = true ∧ a ≤ n ∧ ∀ x ∈ endsM L, a < x ∧ x ≤ n
  | [], a, n, h => by
    simp only [walkL, Option.some.injEq] at h
    exact ⟨rfl, by omega, fun x hx => by cases hx⟩
  | p :: r, a, n, h => by
    simp only [walkL] at h
    split at h
    · rename_i hp
      obtain ⟨h1, h2, h3⟩ := walk_rises r p.2 n h
      refine ⟨?_, by omega, fun x hx => ?_⟩
      · show (decide (a < p.2) && rises p.2 (endsM r)) = true
        rw [h1]; simp [hp.2]
      · rcases List.mem_cons.1 hx with rfl | hx
        · exact ⟨hp.2, h2⟩
        · have := h3 x hx
          omega
    · cases h
theorem rises_down : ∀ {l : List Int} {a b : Int}, b ≤ a → rises a l = true → rises b l = true
  | [], _, _, _, _ => rfl
  | x :: r, a, b, h, g => by
    simp only [rises, Bool.and_eq_true, decide_eq_true_eq] at g ⊢
    exact ⟨by omega, g.2⟩
theorem check_facts {n : Int} {L : List (Int × Int)} (h : checkL n L = 0) : 1 ≤ n ∧ n ≤ 256 ∧ L.length ≤ 16 ∧ walkL 0 L = some n := by
  unfold checkL at h
  split at h
  · assumption
  · cases h
theorem okMan_facts {m : Man} (h : okMan m = true) : 0 ≤ m.e ∧ m.e ≤ 4096 ∧ 1 ≤ m.n ∧ m.n ≤ 256 ∧ m.L.length ≤ 16 ∧ walkL 0 m.L = some m.n ∧ rises (-1) (endsM m.L) = true ∧ (∀ x ∈ endsM m.L, 0 < x ∧ x ≤ m.n) := by
  unfold okMan at h
  simp only [Bool.and_eq_true, decide_eq_true_eq] at h
  obtain ⟨h1, h2, h3, h4⟩ := check_facts h.2
  obtain ⟨w1, w2, w3⟩ := walk_rises _ _ _ h4
  exact ⟨h.1.1, h.1.2, h1, h2, h3, h4, rises_down (by decide) w1, w3⟩
theorem textM_len {m : Man} (h : okMan m = true) : (textM m).length ≤ 400 ∧ 3 ≤ (textM m).length := by
  obtain ⟨_, _, _, _, h5, _⟩ := okMan_facts h
  have h1 := putN_len m.n.toNat
  have h2 := putN_len m.e.toNat
  have h3 := listB_len (endsM m.L)
  have h4 : (endsM m.L).length = m.L.length := by simp [endsM]
  simp only [textM, List.length_append, List.length_cons, List.length_nil]
  omega
theorem decM_enc {m : Man} (h : okMan m = true) : decM (mkB (encM m)) = some m := by
  obtain ⟨e1, e2, n1, n2, hl, hw, hr, hx⟩ := okMan_facts h
  have hle : (endsM m.L).length = m.L.length := by simp [endsM]
  have ht := textM_len h
  have hz : (mkB (encM m)).size = (textM m).length + 4 := by rw [mkB_size]; simp [encM, sealed, crc4_len]
  have hd : (mkB (encM m)).data.toList = textM m ++ crc4 (mkB (textM m)) := by rw [mkB_data]; rfl
  have hb : bodyM (mkB (encM m)) = mkB (textM m) := by
    unfold bodyM
    rw [hz, hd, Nat.add_sub_cancel, List.take_left' rfl]
  have hs : sealM (mkB (encM m)) = true := by
    unfold sealM
    rw [hz, hd, Nat.add_sub_cancel, List.take_left' rfl, List.drop_left' rfl]
    simp only [Bool.and_eq_true, decide_eq_true_eq]
    refine ⟨⟨by omega, ?_⟩, trivial⟩
    rfl
  have s0 : (mkB (textM m)).size = (textM m).length := mkB_size _
  have g1 : getA (mkB (textM m)) 3 = some (m.n.toNat, (putN m.n.toNat).length) := by
    unfold getA
    rw [if_pos ⟨by omega, by omega⟩, mkB_data]
    show getN ((textM m).drop 3) = _
    have : (textM m).drop 3 = putN m.n.toNat ++ (putN m.e.toNat ++ listB (endsM m.L)) := by simp [textM]
    rw [this]
    exact getN_put (by omega) _
  have l1 : (textM m).length = 3 + (putN m.n.toNat).length + (putN m.e.toNat).length + (listB (endsM m.L)).length := by simp [textM]; omega
  have g2 : getA (mkB (textM m)) (3 + (putN m.n.toNat).length) = some (m.e.toNat, (putN m.e.toNat).length) := by
    unfold getA
    rw [if_pos ⟨by omega, by omega⟩, mkB_data]
    have : (textM m).drop ((3 : Int) + (putN m.n.toNat).length).toNat = putN m.e.toNat ++ listB (endsM m.L) := by
      rw [show ((3 : Int) + (putN m.n.toNat).length).toNat = ([99, 97, 114] ++ putN m.n.toNat : List UInt8).length by simp; omega]
      unfold textM
      rw [List.append_assoc, List.drop_left]
    rw [this]
    exact getN_put (by omega) _
  have g3 : listA (mkB (textM m)) (3 + (putN m.n.toNat).length + (putN m.e.toNat).length) = some (endsM m.L, (listB (endsM m.L)).length) := by
    unfold listA
    rw [if_pos ⟨by omega, by omega⟩, mkB_data]
    have : (textM m).drop ((3 : Int) + (putN m.n.toNat).length + (putN m.e.toNat).length).toNat = listB (endsM m.L) ++ [] := by
      rw [show ((3 : Int) + (putN m.n.toNat).length + (putN m.e.toNat).length).toNat = ([99, 97, 114] ++ putN m.n.toNat ++ putN m.e.toNat : List UInt8).length by simp; omega]
      unfold textM
      rw [List.drop_left, List.append_nil]
    rw [this]
    exact unlist_listB hr (fun x hx2 => by have := hx x hx2; omega) (by omega) _
  unfold decM
  rw [if_pos hs, hb, g1]
  dsimp only
  rw [g2]
  dsimp only
  rw [g3]
  dsimp only
  have em : (⟨(m.n.toNat : Int), (m.e.toNat : Int), betw 0 (endsM m.L)⟩ : Man) = m := by
    rw [walk_betw _ _ _ hw, show (m.n.toNat : Int) = m.n by omega, show (m.e.toNat : Int) = m.e by omega]
  rw [em, if_pos ⟨by rw [s0]; omega, h⟩]
theorem manCheck_i {n e : Int} {v : Sl} {L : List (Int × Int)} {h : H} (A : Arr h v eP L) {Q : Int → HProp} (hQ : Q (if okMan ⟨n, e, L⟩ then 0 else 2) h) : manifest_Check (n, e, v) Q h := by
  unfold manifest_Check manifest_Check_F
  simp only [ltI_eq]
  have hc : checkL n L = 0 ∨ checkL n L = 2 := by unfold checkL; split <;> simp
  refine with_b (!(decide (0 ≤ e) && decide (e ≤ 4096))) (fun k hk => ?_) ?_
  · refine ite_i (fun h1 => ?_) fun h1 => ?_
    · have h1 := of_decide_eq_true h1
      rw [decide_eq_false (by omega)] at hk; exact hk
    · have h1 := of_decide_eq_false h1
      rw [decide_eq_true (by omega : 0 ≤ e)] at hk
      by_cases h2 : e ≤ 4096
      · rw [decide_eq_true h2] at hk; rw [decide_eq_false (by omega)]; exact hk
      · rw [decide_eq_false h2] at hk; rw [decide_eq_true (by omega)]; exact hk
  unfold okMan at hQ
  refine ite_i (fun h1 => ?_) fun h1 => ?_
  · have : (decide (0 ≤ e) && decide (e ≤ 4096)) = false := by simpa only [Bool.not_eq_true'] using h1
    rw [this] at hQ; exact hQ
  · have : (decide (0 ≤ e) && decide (e ≤ 4096)) = true := by simpa only [Bool.not_eq_false'] using h1
    rw [this] at hQ
    refine parts_Check_spec A ?_
    rcases hc with h | h
    · rw [h] at hQ ⊢; exact hQ
    · rw [h] at hQ ⊢; exact hQ
theorem ends_i {v : Sl} {L : List (Int × Int)} {h : H} (A : Arr h v eP L) (hL : L.length ≤ 1000000) {Q : Sl → HProp} (hQ : ∀ u h', Vec h' u (eI .i64) (endsM L) → New h u → Ext h h' → Q u h') : manifest_ends v Q h := by
  unfold manifest_ends
  simp only [ltI_eq]
  have hvl := A.len
  refine loop_i (fun (s : Sl × Int) h' => ∃ i : Nat, s.2 = i ∧ i ≤ L.length ∧ Vec h' s.1 (eI .i64) (endsM (L.take i)) ∧ New h s.1 ∧ Ext h h') (fun s => (L.length - s.2).toNat) ⟨0, rfl, by omega, Vec.nil0, New.nil0, Ext.refl h⟩ ?_
  rintro ⟨u, i'⟩ h1 ⟨i, hi, hil, V, nw, E⟩ k hk
  simp only at hi V nw
  subst hi
  dsimp only
  refine ite_i (fun e => ?_) (fun e => ?_)
  · have e := of_decide_eq_true e
    have hlt : i < L.length := by omega
    refine (A.ext E).pair hlt ?_
    have hel : (endsM (L.take i)).length ≤ 1000000 := by simp [endsM]; omega
    refine V.int1 nw E hel fun u2 h2 V2 nw2 E2 _ => ?_
    rw [add_i64 (by omega) (by omega)]
    refine hk (u2, _) _ ⟨i + 1, rfl, by omega, ?_, nw2, E2⟩ (by show (L.length - ((i : Int) + 1)).toNat < (L.length - (i : Int)).toNat; omega)
    show Vec h2 u2 _ (endsM (L.take (i + 1)))
    rw [List.take_succ_eq_append_getElem hlt]
    have : endsM (L.take i ++ [L[i]]) = endsM (L.take i) ++ [L[i].2] := by unfold endsM; rw [List.map_append]; rfl
    rw [this]
    exact V2
  · have e := of_decide_eq_false e
    rw [List.take_of_length_le (by omega)] at V
    exact hQ _ _ V nw E
def lastI (a : Int) : List Int → Int
  | [] => a
  | x :: r => lastI x r
theorem betw_snoc : ∀ (a : Int) (l : List Int) (x : Int), betw a (l ++ [x]) = betw a l ++ [(lastI a l, x)]
  | a, [], x => rfl
  | a, y :: r, x => by
    show (a, y) :: betw y (r ++ [x]) = (a, y) :: betw y r ++ [(lastI y r, x)]
    rw [betw_snoc y r x]; rfl
theorem lastI_snoc : ∀ (a : Int) (l : List Int) (x : Int), lastI a (l ++ [x]) = x
  | a, [], x => rfl
  | a, y :: r, x => lastI_snoc y r x
theorem betw_len : ∀ (a : Int) (l : List Int), (betw a l).length = l.length
  | a, [] => rfl
  | a, y :: r => by show (betw y r).length + 1 = r.length + 1; rw [betw_len]
theorem between_i {v : Sl} {l : List Int} {h : H} (A : Arr h v (eI .i64) l) (hl : l.length ≤ 1000000) {Q : Sl → HProp} (hQ : ∀ u h', Vec h' u eP (betw 0 l) → New h u → Ext h h' → Q u h') : manifest_between v Q h := by
  unfold manifest_between
  simp only [ltI_eq]
  have hvl := A.len
  refine loop_i (fun (s : Sl × Int × Int) h' => ∃ i : Nat, s.2.2 = i ∧ i ≤ l.length ∧ s.2.1 = lastI 0 (l.take i) ∧ Vec h' s.1 eP (betw 0 (l.take i)) ∧ New h s.1 ∧ Ext h h') (fun s => (l.length - s.2.2).toNat) ⟨0, rfl, by omega, rfl, Vec.nil0, New.nil0, Ext.refl h⟩ ?_
  rintro ⟨u, p, i'⟩ h1 ⟨i, hi, hil, hp, V, nw, E⟩ k hk
  simp only at hi hp V nw
  subst hi
  dsimp only
  refine ite_i (fun e => ?_) (fun e => ?_)
  · have e := of_decide_eq_true e
    have hlt : i < l.length := by omega
    refine (A.ext E).one hlt ?_
    have hel : (betw 0 (l.take i)).length ≤ 1000000 := by rw [betw_len]; simp; omega
    refine V.append_new E nw (m := [(p, l[i])]) rfl rfl rfl (by omega) ?_
    intro u2 h2 V2 E2 nw2 _ _
    rw [add_i64 (by omega) (by omega)]
    have htk := List.take_succ_eq_append_getElem hlt
    refine hk (u2, _, _) _ ⟨i + 1, rfl, by omega, ?_, ?_, nw2, E2⟩ (by show (l.length - ((i : Int) + 1)).toNat < (l.length - (i : Int)).toNat; omega)
    · show l[i] = _
      rw [htk, lastI_snoc]
    · show Vec h2 u2 _ (betw 0 (l.take (i + 1)))
      rw [htk, betw_snoc, ← hp]
      exact V2
  · have e := of_decide_eq_false e
    rw [List.take_of_length_le (by omega)] at V
    exact hQ _ _ V nw E
theorem eS_all : ∀ l : List ByteArray, eS.all l = l.map Value.string
  | [] => rfl
  | x :: r => by
    have := eS_all r
    show Value.string x :: eS.all r = _
    rw [this]; rfl
theorem join_i {b : Nat} {xs : List ByteArray} {h : H} (A : Arr h ⟨some ⟨b, 0, none⟩, xs.length, xs.length⟩ eS xs) (hx : ((xs.map (·.data.toList)).flatten).length ≤ 1000000) (hl : xs.length ≤ 1000000) {Q : ByteArray → HProp} (hQ : Q (mkB ((xs.map (·.data.toList)).flatten)) h) : manifest_join ⟨some ⟨b, 0, none⟩, xs.length, xs.length⟩ Q h := by
  unfold manifest_join manifest_join_F strings_Join joinW
  have hj : ∀ l : List (List UInt8), Lib.join l [] = l.flatten := by
    intro l
    induction l with
    | nil => rfl
    | cons x r ih =>
      cases r with
      | nil => simp [Lib.join]
      | cons y s =>
        have ih' : (List.intersperse [] (y :: s)).flatten = (y :: s).flatten := ih
        show (List.intersperse [] (x :: y :: s)).flatten = _
        rw [show List.intersperse [] (x :: y :: s) = x :: [] :: List.intersperse [] (y :: s) from rfl, List.flatten_cons, List.flatten_cons, List.nil_append, ih']
        rfl
  have hrow : h.row? (some ⟨b, 0, none⟩) xs.length = some (xs.map Value.string) := by
    have := A.row (w := 1) rfl (K := fun l' _ => l' = eS.all xs) rfl
    unfold rowW at this
    obtain ⟨l', q1, _, q2⟩ := this
    rw [Nat.mul_one] at q1
    rw [q1, q2, eS_all]
  have e0 : (ByteArray.mk #[]).data.toList = [] := rfl
  refine ⟨xs, rfl, Nat.le_refl _, by show xs.length ≤ _; omega, hrow, ?_, ?_⟩
  · rw [e0, hj]; omega
  · rw [e0, hj]; exact hQ
theorem manSum_i {z : ByteArray} (hz : z.size ≤ 140737488355328) {Q : ByteArray → HProp} {h : H} (hQ : ∀ h', Ext h h' → Q (mkB (crc4 z)) h') : manifest_sum z Q h := by
  unfold manifest_sum manifest_sum_F
  refine Sum_spec hz ?_
  exact must_i (by decide) (must_i (by decide) (must_i (by decide) (four_spec hQ)))
theorem manEnc_i {n e : Int} {v : Sl} {L : List (Int × Int)} {h : H} (A : Arr h v eP L) {Q : ByteArray × Int → HProp} (hQ : ∀ h', Ext h h' → Q (if okMan ⟨n, e, L⟩ then (mkB (encM ⟨n, e, L⟩), 0) else (⟨#[]⟩, 2)) h') : manifest_Encode (n, e, v) Q h := by
  unfold manifest_Encode manifest_Encode_F
  simp only [eqI_eq]
  refine manCheck_i A ?_
  by_cases hm : okMan ⟨n, e, L⟩ = true
  · rw [hm] at hQ ⊢
    simp only [if_true] at hQ ⊢
    refine ite_f (by rfl) ?_
    obtain ⟨e1, e2, n1, n2, hl, hw, hr, hx⟩ := okMan_facts hm
    have ht := textM_len hm
    simp only at *
    have hle : (endsM L).length = L.length := by simp [endsM]
    refine ends_i A (by omega) fun u h1 V1 nw1 E1 => ?_
    refine gapsE_i V1.arr (by omega) (fun x hx2 => by have := hx x hx2; omega) ?_
    rw [if_pos hr]
    refine ite_f (by rfl) ?_
    obtain ⟨n', rfl⟩ : ∃ n' : Nat, n = n' := ⟨n.toNat, by omega⟩
    obtain ⟨e', rfl⟩ : ∃ e' : Nat, e = e' := ⟨e.toNat, by omega⟩
    refine Put_spec (by omega) fun h2 E2 => Put_spec (by omega) fun h3 E3 => ?_
    refine new_i (E := eS) (l := [mkB [99, 97, 114], mkB (putN n'), mkB (putN e'), mkB (listB (endsM L))]) rfl rfl ?_
    intro b h4 V4 nw4 E4
    have E14 := ((E1.trans E2).trans E3).trans E4
    have hf : (([mkB [99, 97, 114], mkB (putN n'), mkB (putN e'), mkB (listB (endsM L))] : List ByteArray).map (·.data.toList)).flatten = textM ⟨n', e', L⟩ := by
      simp [textM, mkB_data]
    refine join_i V4.arr (by rw [hf]; omega) (by simp) ?_
    rw [hf]
    refine manSum_i (by rw [mkB_size]; omega) fun h5 E5 => ?_
    refine must_i (by rw [mkB_size, mkB_size, crc4_len]; omega) ?_
    rw [ba_cat]
    exact hQ h5 (E14.trans E5)
  · have hm : okMan ⟨n, e, L⟩ = false := by simpa using hm
    rw [hm] at hQ ⊢
    exact ite_t (by rfl) (hQ h (Ext.refl h))
def gA (z : ByteArray) (at_ : Int) : Int × Int × Bool := match getA z at_ with | some (v, n) => ((v : Int), at_ + n, true) | none => (0, 0, false)
theorem gA_bd (z : ByteArray) (at_ : Int) : 0 ≤ (gA z at_).2.1 ∧ (gA z at_).2.1 ≤ z.size := by
  unfold gA
  cases h : getA z at_ with
  | none => simp
  | some p =>
    obtain ⟨v, n⟩ := p
    have := getA_len h
    simp only
    omega
theorem gA_true {z : ByteArray} {at_ : Int} (h : (gA z at_).2.2 = true) : ∃ v n : Nat, getA z at_ = some (v, n) ∧ (gA z at_).1 = v ∧ (gA z at_).2.1 = at_ + n := by
  unfold gA at *
  cases e : getA z at_ with
  | none => rw [e] at h; cases h
  | some p => exact ⟨p.1, p.2, rfl, rfl, rfl⟩
theorem gA_false {z : ByteArray} {at_ : Int} (h : (gA z at_).2.2 = false) : getA z at_ = none := by
  unfold gA at h
  cases e : getA z at_ with
  | none => rfl
  | some p => rw [e] at h; cases h
theorem Get_specG {z : ByteArray} {at_ : Int} (hz : z.size ≤ 1000000) (ha : -1000000 ≤ at_ ∧ at_ ≤ 1000000000) {Q : Int × Int × Bool → HProp} {h : H} (hQ : Q (gA z at_) h) : ints_Get (z, at_) Q h := Get_spec hz ha hQ
theorem manDec_i {z : ByteArray} (hz : z.size ≤ 1000000) {Q : Int × Int × Sl × Int → HProp} {h : H}
    (h1 : ∀ m, decM z = some m → ∀ v h', Vec h' v eP m.L → New h v → Ext h h' → Q (m.n, m.e, v, 0) h') (h2 : decM z = none → ∀ h', Ext h h' → Q (0, 0, ⟨none, 0, 0⟩, 10) h') : manifest_Decode z Q h := by
  unfold manifest_Decode manifest_Decode_F manifest_sealed manifest_sealed_F
  simp only [leI_eq, eqI_eq, eqS_eq]
  have hzl : z.data.toList.length = z.size := size_data z
  refine with_i (fun (r : Bool) h' => Ext h h' ∧ r = sealM z) (fun k hk => ?_) ?_
  · unfold sealM at hk
    rw [sub_i64 (by omega) (by omega)]
    refine ite_i (fun e => ?_) (fun e => ?_)
    · have e := of_decide_eq_true e
      rw [decide_eq_true (by omega : 7 ≤ z.size)] at hk
      refine cut_i (by omega) (by omega) (by omega) ?_
      rw [extract_mkB]
      have e3 : (List.take (Int.toNat 3) z.data.toList).drop (Int.toNat 0) = z.data.toList.take 3 := rfl
      rw [e3]
      have e4 : (mkB (z.data.toList.take 3) = (ByteArray.mk #[99, 97, 114])) ↔ z.data.toList.take 3 = [99, 97, 114] := by
        constructor
        · intro h
          have := congrArg (fun b : ByteArray => b.data.toList) h
          simpa [mkB_data] using this
        · intro h; rw [h]; rfl
      refine ite_i (fun e5 => ?_) (fun e5 => ?_)
      · rw [decide_eq_true (e4.1 (of_decide_eq_true e5))] at hk
        refine cut_i (by omega) (by omega) (by omega) (cut_i (by omega) (by omega) (by omega) ?_)
        rw [extract_mkB, extract_mkB]
        refine manSum_i (by rw [mkB_size]; simp; omega) fun h' g => hk _ _ ⟨g, ?_⟩
        simp only [Bool.true_and, decide_eq_decide]
        have a1 : ((z.size : Int) - 4).toNat = z.size - 4 := by omega
        have a2 : (z.size : Int).toNat = z.size := by omega
        rw [a1, a2, List.take_of_length_le (by omega), Int.toNat_zero, List.drop_zero]
        constructor
        · intro h
          have := congrArg (fun b : ByteArray => b.data.toList) h
          simpa only [mkB_data] using this
        · intro h; rw [h]
      · rw [decide_eq_false (fun h => by rw [e4.2 h] at e5; simp at e5)] at hk
        exact hk _ _ ⟨Ext.refl h, rfl⟩
    · have e := of_decide_eq_false e
      rw [decide_eq_false (by omega : ¬ 7 ≤ z.size)] at hk
      exact hk _ _ ⟨Ext.refl h, rfl⟩
  rintro r h1' ⟨E1, rfl⟩
  by_cases hs : sealM z = true
  · rw [hs]
    refine ite_f (by rfl) ?_
    have h7 : 7 ≤ z.size := by
      unfold sealM at hs
      simp only [Bool.and_eq_true, decide_eq_true_eq] at hs
      exact hs.1.1
    rw [sub_i64 (by omega) (by omega)]
    refine cut_i (by omega) (by omega) (by omega) ?_
    have eb : z.extract (Int.toNat 0) ((z.size : Int) - 4).toNat = bodyM z := by
      rw [extract_mkB, show ((z.size : Int) - 4).toNat = z.size - 4 by omega]; rfl
    rw [eb]
    have hbz : (bodyM z).size ≤ 1000000 := by unfold bodyM; rw [mkB_size]; simp; omega
    have dec : decM z = (match getA (bodyM z) 3 with
      | none => none
      | some (n, k) => match getA (bodyM z) (3 + k) with
        | none => none
        | some (e, k2) => match listA (bodyM z) (3 + k + k2) with
          | none => none
          | some (l, k3) => if ((3 + k + k2 + k3 : Nat) : Int) = (bodyM z).size ∧ okMan ⟨n, e, betw 0 l⟩ = true then some ⟨n, e, betw 0 l⟩ else none) := by
      unfold decM; rw [if_pos hs]
    generalize bodyM z = u at *
    refine Get_specG hbz (by omega) ?_
    have b1 := gA_bd u 3
    have t1 := gA_true (z := u) (at_ := 3)
    have f1 := gA_false (z := u) (at_ := 3)
    generalize gA u 3 = r1 at *
    obtain ⟨v1, p1, o1⟩ := r1
    dsimp only at *
    refine Get_specG hbz (by omega) ?_
    have b2 := gA_bd u p1
    have t2 := gA_true (z := u) (at_ := p1)
    have f2 := gA_false (z := u) (at_ := p1)
    generalize gA u p1 = r2 at *
    obtain ⟨v2, p2, o2⟩ := r2
    dsimp only at *
    -- what is told in the end
    have fin : ∀ (w : Sl) (l : List Int) (at3 err : Int) (h' : H), Vec h' w (eI .i64) l → New h w → Ext h h' → l.length ≤ 1000000 → (err = 0 → ∃ n, listA u p2 = some (l, n) ∧ at3 = p2 + n) → (err ≠ 0 → listA u p2 = none) →
        manifest_between w (fun (r_3 : Sl) =>
                withK (fun (t : Bool) => iteW t (Q (0, 0, Sl.mk none 0 0, 10)) (Q (v1, v2, r_3, 0)))
                  fun (k : Bool → HProp) =>
                  iteW (!o1) (k !o1)
                    (iteW (!o2) (k !o2)
                      (iteW (!decide (err = 0)) (k !decide (err = 0))
                        (iteW (!decide (at3 = ↑u.size)) (k !decide (at3 = ↑u.size))
                          (manifest_Check (v1, v2, r_3) fun (r : Int) => k !decide (r = 0)))))) h' := by
      intro w l at3 err h' V nw E hl hgood hbad
      refine between_i V.arr hl fun x h3 X nx E3 => ?_
      have E03 := E.trans E3
      refine with_i (fun (r : Bool) h'' => h'' = h3 ∧ (r = true → decM z = none) ∧ (r = false → decM z = some ⟨v1, v2, betw 0 l⟩)) (fun k hk => ?_) ?_
      · refine ite_i (fun e => ?_) (fun e => ?_)
        · refine hk _ _ ⟨rfl, fun _ => ?_, fun h => by rw [e] at h; cases h⟩
          rw [dec, f1 (by simpa using e)]
        have e : o1 = true := by simpa using e
        obtain ⟨n1, k1, g1, ev1, ep1⟩ := t1 e
        subst ev1; subst ep1
        refine ite_i (fun e => ?_) (fun e => ?_)
        · refine hk _ _ ⟨rfl, fun _ => ?_, fun h => by rw [e] at h; cases h⟩
          rw [dec, g1]
          dsimp only
          rw [f2 (by simpa using e)]
        have e : o2 = true := by simpa using e
        obtain ⟨n2, k2, g2, ev2, ep2⟩ := t2 e
        subst ev2; subst ep2
        refine ite_i (fun e => ?_) (fun e => ?_)
        · refine hk _ _ ⟨rfl, fun _ => ?_, fun h => by rw [e] at h; cases h⟩
          rw [dec, g1]
          dsimp only
          rw [g2]
          dsimp only
          rw [hbad (by simpa using e)]
        have e : err = 0 := by simpa using e
        obtain ⟨n3, g3, ea⟩ := hgood e
        have dec' : decM z = if ((3 + k1 + k2 + n3 : Nat) : Int) = u.size ∧ okMan ⟨n1, n2, betw 0 l⟩ = true then some ⟨n1, n2, betw 0 l⟩ else none := by
          rw [dec, g1]
          dsimp only
          rw [g2]
          dsimp only
          rw [g3]
        refine ite_i (fun e => ?_) (fun e => ?_)
        · refine hk _ _ ⟨rfl, fun _ => ?_, fun h => by rw [e] at h; cases h⟩
          rw [dec', if_neg]
          rintro ⟨h, _⟩
          have e : ¬ at3 = u.size := by simpa using e
          omega
        have e : at3 = u.size := by simpa using e
        refine manCheck_i X.arr ?_
        by_cases hm : okMan ⟨n1, n2, betw 0 l⟩ = true
        · rw [if_pos hm]
          refine hk _ _ ⟨rfl, fun h => by simp at h, fun _ => ?_⟩
          rw [dec', if_pos ⟨by omega, hm⟩]
        · rw [if_neg hm]
          refine hk _ _ ⟨rfl, fun _ => ?_, fun h => by simp at h⟩
          rw [dec', if_neg fun h => hm h.2]
      · rintro r h'' ⟨rfl, q1, q2⟩
        refine ite_i (fun e => h2 (q1 e) _ E03) fun e => ?_
        exact h1 _ (q2 e) x _ X (New.mono E nx) E03
    refine Decode_spec hbz (by omega) (fun l n hl w h3 V nw E3 => ?_) (fun hl h3 E3 => ?_)
    · exact fin w l _ 0 h3 V (New.mono E1 nw) (E1.trans E3) (by have := listA_facts hl; omega) (fun _ => ⟨n, hl, rfl⟩) fun h => absurd rfl h
    · exact fin ⟨none, 0, 0⟩ [] 0 10 h3 Vec.nil0 New.nil0 (E1.trans E3) (by simp) (fun h => by cases h) fun _ => hl
  · have hs : sealM z = false := by simpa using hs
    rw [hs]
    exact ite_t (by rfl) (h2 (by unfold decM; rw [if_neg (by rw [hs]; decide)]) _ E1)
end Go.Cz.S
namespace Go.Cz.S
open Go Go.Cz Go.Cz.Crc
set_option maxRecDepth 100000
set_option maxHeartbeats 1000000
set_option linter.unusedSimpArgs false
set_option linter.unusedVariables false
theorem decode_low {s : ByteArray} {i : Nat} {b : UInt8} (hb : s.data.toList[i]? = some b) (hl : b.toNat < 128) : Utf8.decode s i = (b.toNat, 1) := by
  have e : s.get! i = b := by
    obtain ⟨h1, h2⟩ := List.getElem?_eq_some_iff.1 hb
    show s.data[i]! = b
    rw [Array.length_toList] at h1
    rw [getElem!_pos s.data i h1]
    simpa using h2
  unfold Utf8.decode
  simp only [Nat.add_zero, e]
  rw [if_pos hl]
theorem decode_high {s : ByteArray} {i : Nat} {b : UInt8} (hb : s.data.toList[i]? = some b) (hl : ¬ b.toNat < 128) : 128 ≤ (Utf8.decode s i).1 := by
  have e : s.get! i = b := by
    obtain ⟨h1, h2⟩ := List.getElem?_eq_some_iff.1 hb
    show s.data[i]! = b
    rw [Array.length_toList] at h1
    rw [getElem!_pos s.data i h1]
    simpa using h2
  unfold Utf8.decode
  simp only [Nat.add_zero, e]
  rw [if_neg hl]
  have : Utf8.runeError = 65533 := rfl
  split
  · split <;> simp only [] <;> omega
  · split
    · split
      · rename_i h; simp only [Bool.and_eq_true, decide_eq_true_eq] at h; omega
      · simp only []; omega
    · split
      · split
        · rename_i h; simp only [Bool.and_eq_true, decide_eq_true_eq] at h; omega
        · simp only []; omega
      · simp only []; omega
def okByte (b : UInt8) : Bool := decide (33 ≤ b.toNat) && decide (b.toNat ≤ 126)
theorem Name_i {z : ByteArray} {h : H} (hz : z.size ≤ 1000000000000) {Q : Bool → HProp} (hQ : ∀ h', Ext h h' → Q (okName z) h') : files_Name z Q h := by
  unfold files_Name files_Name_F strings_IndexFunc strings_IndexFunc_F strings_indexFunc
  simp only [leI_eq, ltI_eq, eqS_eq]
  have hzl : z.data.toList.length = z.size := size_data z
  have fin : ∀ (r : Int) (h' : H), Ext h h' → (r < 0 ↔ z.data.toList.all okByte = true) → withK Q (fun (k : Bool → HProp) =>
      iteW (!decide (z = (ByteArray.mk #[]))) (iteW (decide ((z.size : Int) ≤ 8)) (k (decide (r < 0))) (k false)) (k false)) h' := by
    intro r h' g hr
    have ok : okName z = (decide (1 ≤ z.size) && decide (z.size ≤ 8) && z.data.toList.all okByte) := rfl
    refine with_u ?_
    have hq := hQ h' g
    refine ite_i (fun e => ?_) (fun e => ?_)
    · have e : ¬ z = (ByteArray.mk #[]) := by simpa using e
      have h1 : 1 ≤ z.size := by
        rcases Nat.eq_zero_or_pos z.size with h0 | h0
        · exact absurd (ba_ext (List.length_eq_zero_iff.1 (by rw [hzl]; exact h0))) e
        · exact h0
      rw [ok, decide_eq_true h1] at hq
      refine ite_i (fun e2 => ?_) (fun e2 => ?_)
      · have e2 := of_decide_eq_true e2
        rw [decide_eq_true (by omega : z.size ≤ 8)] at hq
        by_cases hr0 : r < 0
        · rw [hr.1 hr0] at hq; rw [decide_eq_true hr0]; exact hq
        · have : z.data.toList.all okByte = false := by
            cases e : z.data.toList.all okByte with
            | false => rfl
            | true => exact absurd (hr.2 e) hr0
          rw [this] at hq; rw [decide_eq_false hr0]; exact hq
      · have e2 := of_decide_eq_false e2
        rw [decide_eq_false (by omega : ¬ z.size ≤ 8)] at hq
        exact hq
    · have e : z = (ByteArray.mk #[]) := by simpa using e
      rw [ok, decide_eq_false (by subst e; decide)] at hq
      exact hq
  unfold rangeSW
  intro b hb
  refine loop_n (fun n (s : Unit) h' => ∃ i : Nat, h' b = some (.siter z i) ∧ i ≤ z.size ∧ n = z.size - i ∧ (z.data.toList.take i).all okByte = true ∧ Ext h h') z.size ⟨0, set_same .., by omega, by omega, rfl, Ext.set hb⟩ ?_
  rintro n s h' ⟨i, hi, hil, rfl, hall, E⟩ k hk
  unfold nextSW
  simp only [hi]
  by_cases hlt : i < z.size
  · rw [if_pos hlt]
    have hlt' : i < z.data.toList.length := by omega
    have hget := List.getElem?_eq_getElem hlt'
    have E2 : Ext h (h'.set b (.siter z (i + (Utf8.decode z i).2))) := Ext.of_new E Fr.set fun k hk => by subst hk; exact hb
    have htk := List.take_succ_eq_append_getElem hlt'
    generalize z.data.toList[i] = x at *
    have bad : okByte x = false → ¬ z.data.toList.all okByte = true := fun e h => by
      have := List.all_eq_true.1 h x (List.mem_of_getElem? hget)
      rw [e] at this; cases this
    unfold files_Name_c1
    simp only [leI_eq, ltI_eq]
    by_cases hx : x.toNat < 128
    · rw [decode_low hget hx] at E2 ⊢
      simp only at E2 ⊢
      refine with_b (!okByte x) (fun k2 hk2 => ?_) ?_
      · refine ite_i (fun e => ?_) (fun e => ?_)
        · have e := of_decide_eq_true e
          have : okByte x = false := by unfold okByte; rw [decide_eq_false (by omega)]; rfl
          rw [this] at hk2; exact hk2
        · have e := of_decide_eq_false e
          have : (!okByte x) = decide ((126 : Int) < x.toNat) := by
            unfold okByte; rw [decide_eq_true (by omega : 33 ≤ x.toNat)]
            by_cases h6 : x.toNat ≤ 126
            · rw [decide_eq_true h6, decide_eq_false (by omega)]; rfl
            · rw [decide_eq_false h6, decide_eq_true (by omega)]; rfl
          rw [this] at hk2; exact hk2
      cases e : okByte x with
      | false =>
        refine ite_t (by rfl) (fin _ _ E2 ⟨fun h => by omega, fun h => absurd h (bad e)⟩)
      | true =>
        refine ite_f (by rfl) (hk _ () _ (by omega) ⟨i + 1, set_same .., by omega, rfl, ?_, E2⟩)
        rw [htk, List.all_append, hall]
        simp [e]
    · have hd := decode_high hget hx
      have e : okByte x = false := by unfold okByte; rw [decide_eq_false (by omega : ¬ x.toNat ≤ 126)]; simp
      refine with_b true (fun k2 hk2 => ?_) ?_
      · refine ite_f (decide_eq_false (by omega)) ?_
        rw [decide_eq_true (by omega)]; exact hk2
      refine ite_t (by rfl) (fin _ _ E2 ⟨fun h => by omega, fun h => absurd h (bad e)⟩)
  · rw [if_neg hlt]
    rw [List.take_of_length_le (by omega)] at hall
    exact fin _ _ E ⟨fun _ => hall, fun _ => by decide⟩
structure Kp (S : Nat → Prop) (h : H) (S' : Nat → Prop) (h' : H) : Prop where
  fr : Fr S h h'
  own : ∀ k, S' k → S k ∨ h k = none
theorem Kp.refl (S : Nat → Prop) (h : H) : Kp S h S h := ⟨Fr.refl _ _, fun k hk => .inl hk⟩
theorem Kp.trans {S S' S'' : Nat → Prop} {h h' h'' : H} (a : Kp S h S' h') (b : Kp S' h' S'' h'') : Kp S h S'' h'' := by
  refine ⟨fun k o hk hs => ?_, fun k hk => ?_⟩
  · refine b.fr k o (a.fr k o hk hs) fun hs' => ?_
    rcases a.own k hs' with h | h
    · exact hs h
    · rw [hk] at h; cases h
  · rcases b.own k hk with h1 | h1
    · exact a.own k h1
    · cases e : h k with
      | none => exact .inr rfl
      | some o =>
        refine .inl (Decidable.byContradiction (dec := Classical.propDecidable _) fun hs => ?_)
        have := a.fr k o e hs
        rw [this] at h1; cases h1
theorem Kp.ext {S : Nat → Prop} {h h' : H} (e : Ext h h') : Kp S h S h' := ⟨e.fr, fun k hk => .inl hk⟩
theorem Kp.of_fr {S T : Nat → Prop} {h h' : H} (f : Fr T h h') (ht : ∀ k, T k → S k) : Kp S h S h' := ⟨f.mono ht, fun k hk => .inl hk⟩
def Off {α : Type} (S : Nat → Prop) (h : H) (v : Sl) (E : Enc α) (l : List α) : Prop := Arr h v E l ∧ (l ≠ [] → ∀ k, v.on k → ¬ S k)
theorem Off.kp {α : Type} {S S' : Nat → Prop} {h h' : H} {v : Sl} {E : Enc α} {l : List α} (A : Off S h v E l) (k : Kp S h S' h') : Off S' h' v E l := by
  obtain ⟨A, hn⟩ := A
  by_cases hl : l = []
  · subst hl
    exact ⟨⟨A.len, A.le, A.nil, fun a ha h => absurd rfl h⟩, fun h => absurd rfl h⟩
  · refine ⟨A.fr k.fr (hn hl), fun _ b hb hs => ?_⟩
    rcases k.own b hs with h | h
    · exact hn hl b hb h
    · obtain ⟨a, ha, e⟩ := hb
      obtain ⟨_, c, wr, h2, _⟩ := A.blk a ha hl
      rw [← e, h2] at h; cases h
theorem Off.ext {α : Type} {S : Nat → Prop} {h h' : H} {v : Sl} {E : Enc α} {l : List α} (A : Off S h v E l) (e : Ext h h') : Off S h' v E l := ⟨A.1.ext e, A.2⟩
theorem Off.new {α : Type} {S : Nat → Prop} {h0 h : H} {v : Sl} {E : Enc α} {l : List α} (V : Vec h v E l) (nw : New h0 v) (hs : ∀ k, S k → ∃ o, h0 k = some o) : Off S h v E l :=
  ⟨V.arr, fun _ k hk h => by obtain ⟨o, ho⟩ := hs k h; rw [nw k hk] at ho; cases ho⟩
theorem Off.obj {S S' : Nat → Prop} {h h' : H} {b : Nat} {cs : List Value} (o : Obj h b cs) (hb : ¬ S b) (k : Kp S h S' h') : Obj h' b cs ∧ ¬ S' b := by
  refine ⟨o.fr k.fr hb, fun hs => ?_⟩
  rcases k.own b hs with h1 | h1
  · exact hb h1
  · unfold Obj at o; rw [o] at h1; cases h1
structure GoodF (σ : FSt) : Prop where
  left : -1 ≤ σ.left ∧ σ.left ≤ 9223372036854775807
  room : 0 ≤ σ.room ∧ σ.room ≤ 4096
  used : (σ.used : Int) ≤ σ.room
  rise : σ.L.Pairwise fun a b => ltN a.1 b.1 = true
  nm : ∀ x ∈ σ.L, okName x.1 = true
  pg : ∀ x ∈ σ.L, x.2 ≠ [] ∧ ∀ p ∈ x.2, p.size = 128
theorem used_nil : usedL [] = 0 := rfl
theorem used_cons (x : ByteArray × List ByteArray) (L : List (ByteArray × List ByteArray)) : usedL (x :: L) = x.2.length + usedL L := by simp [usedL]
theorem used_app (L M : List (ByteArray × List ByteArray)) : usedL (L ++ M) = usedL L + usedL M := by simp [usedL]
theorem rowsL_none {L : List (ByteArray × List ByteArray)} {nm : ByteArray} (h : ∀ x ∈ L, x.1 ≠ nm) : rowsL L nm = [] := by
  unfold rowsL
  rw [List.find?_eq_none.2 fun x hx => by simpa using h x hx]
theorem rowsL_cons (x : ByteArray × List ByteArray) (L : List (ByteArray × List ByteArray)) (nm : ByteArray) : rowsL (x :: L) nm = if x.1 = nm then x.2 else rowsL L nm := by
  unfold rowsL
  rw [List.find?_cons]
  by_cases h : x.1 = nm
  · rw [decide_eq_true h, if_pos h]
  · rw [decide_eq_false h, if_neg h]
theorem used_parts : ∀ {L : List (ByteArray × List ByteArray)} (nm : ByteArray), (L.Pairwise fun a b => ltN a.1 b.1 = true) →
    usedL (L.filter fun x => ltN x.1 nm) + usedL (L.filter fun x => ltN nm x.1) + (rowsL L nm).length = usedL L
  | [], nm, _ => rfl
  | x :: t, nm, h => by
    rw [List.pairwise_cons] at h
    have ih := used_parts nm h.2
    rw [used_cons, rowsL_cons]
    by_cases h1 : ltN x.1 nm = true
    · rw [List.filter_cons, if_pos h1, List.filter_cons, if_neg (by rw [ltN_asymm h1]; decide), if_neg (ltN_ne h1), used_cons]
      omega
    · have h1 : ltN x.1 nm = false := by simpa using h1
      by_cases h2 : ltN nm x.1 = true
      · rw [List.filter_cons, if_neg (by rw [h1]; decide), List.filter_cons, if_pos h2, if_neg (ltN_ne h2).symm, used_cons]
        omega
      · have h2 : ltN nm x.1 = false := by simpa using h2
        have e := ltN_tri h1 h2
        rw [List.filter_cons, if_neg (by rw [h1]; decide), List.filter_cons, if_neg (by rw [h2]; decide), if_pos e]
        have : rowsL t nm = [] := rowsL_none fun y hy e2 => by
          have := h.1 y hy
          rw [e, e2, ltN_irr] at this; cases this
        rw [this] at ih
        simp only [List.length_nil] at ih
        omega
theorem used_set {L : List (ByteArray × List ByteArray)} {nm : ByteArray} {ps : List ByteArray} (h : L.Pairwise fun a b => ltN a.1 b.1 = true) : usedL (setL nm ps L) + (rowsL L nm).length = usedL L + ps.length := by
  have := used_parts nm h
  unfold setL
  rw [used_app, used_app]
  have e : usedL (if ps = [] then [] else [(nm, ps)]) = ps.length := by
    split
    · rename_i h; rw [h]; rfl
    · simp [usedL]
  rw [e]; omega
theorem rows_le {L : List (ByteArray × List ByteArray)} (nm : ByteArray) (h : L.Pairwise fun a b => ltN a.1 b.1 = true) : (rowsL L nm).length ≤ usedL L := by
  have := used_parts nm h; omega
theorem setL_rise {L : List (ByteArray × List ByteArray)} {nm : ByteArray} {ps : List ByteArray} (h : L.Pairwise fun a b => ltN a.1 b.1 = true) : (setL nm ps L).Pairwise fun a b => ltN a.1 b.1 = true := by
  unfold setL
  rw [List.pairwise_append, List.pairwise_append]
  refine ⟨⟨h.filter _, by split <;> simp, ?_⟩, h.filter _, ?_⟩
  · intro a ha b hb
    have h1 := (List.mem_filter.1 ha).2
    split at hb
    · cases hb
    · simp at hb; subst hb; exact h1
  · intro a ha b hb
    have h2 := (List.mem_filter.1 hb).2
    rcases List.mem_append.1 ha with ha | ha
    · exact ltN_trans (List.mem_filter.1 ha).2 h2
    · split at ha
      · cases ha
      · simp at ha; subst ha; exact h2
theorem setL_mem {L : List (ByteArray × List ByteArray)} {nm : ByteArray} {ps : List ByteArray} {x : ByteArray × List ByteArray} (h : x ∈ setL nm ps L) : (x ∈ L ∧ x.1 ≠ nm) ∨ (x = (nm, ps) ∧ ps ≠ []) := by
  unfold setL at h
  rcases List.mem_append.1 h with h | h
  · rcases List.mem_append.1 h with h | h
    · exact .inl ⟨(List.mem_filter.1 h).1, ltN_ne (List.mem_filter.1 h).2⟩
    · split at h
      · cases h
      · rename_i hp; simp at h; exact .inr ⟨h, hp⟩
  · exact .inl ⟨(List.mem_filter.1 h).1, (ltN_ne (List.mem_filter.1 h).2).symm⟩
theorem GoodF.set {σ : FSt} (G : GoodF σ) {nm : ByteArray} {ps : List ByteArray} (h1 : ps ≠ [] → okName nm = true) (h2 : ∀ p ∈ ps, p.size = 128) (h3 : (σ.used : Int) - (σ.rows nm).length + ps.length ≤ σ.room) : GoodF (σ.set nm ps) := by
  refine ⟨G.left, G.room, ?_, setL_rise G.rise, fun x hx => ?_, fun x hx => ?_⟩
  · have := used_set (nm := nm) (ps := ps) G.rise
    show ((usedL (setL nm ps σ.L) : Nat) : Int) ≤ σ.room
    have e1 : σ.used = usedL σ.L := rfl
    have e2 : σ.rows nm = rowsL σ.L nm := rfl
    rw [e1, e2] at h3
    omega
  · rcases setL_mem hx with ⟨h, _⟩ | ⟨rfl, h⟩
    · exact G.nm x h
    · exact h1 h
  · rcases setL_mem hx with ⟨h, _⟩ | ⟨rfl, h⟩
    · exact G.pg x h
    · exact ⟨h, h2⟩
theorem rowsL_mem {L : List (ByteArray × List ByteArray)} {nm : ByteArray} (h : rowsL L nm ≠ []) : (nm, rowsL L nm) ∈ L := by
  induction L with
  | nil => exact absurd rfl h
  | cons x t ih =>
    rw [rowsL_cons] at h ⊢
    by_cases e : x.1 = nm
    · rw [if_pos e, ← e]; exact List.mem_cons_self ..
    · rw [if_neg e] at h ⊢; exact List.mem_cons_of_mem _ (ih h)
theorem GoodF.pages {σ : FSt} (G : GoodF σ) (nm : ByteArray) : ∀ p ∈ σ.rows nm, p.size = 128 := fun p hp => by
  have := rowsL_mem (L := σ.L) (nm := nm) (fun e => by have : p ∈ rowsL σ.L nm := hp; rw [e] at this; cases this)
  exact (G.pg _ this).2 p hp
structure FW (h : H) (S : Nat → Prop) (f : Nat) (σ : FSt) : Prop where
  fs : FSAt h f σ S
  ex : ∀ k, S k → ∃ o, h k = some o
  good : GoodF σ
  nr : ∀ k, S k → ∀ T cs, h k ≠ some (.raw T cs)
theorem nr_step {h h' : H} {S T : Nat → Prop} (ex : ∀ k, S k → ∃ o, h k = some o) (nr : ∀ k, S k → ∀ T cs, h k ≠ some (.raw T cs)) (g : Fr T h h') (hs : ∀ k, S k → ¬ T k) : ∀ k, S k → ∀ T cs, h' k ≠ some (.raw T cs) := by
  intro k hk U cs e
  obtain ⟨o, ho⟩ := ex k hk
  have := g k o ho (hs k hk)
  rw [this] at e
  exact nr k hk U cs (ho.trans e)
theorem nr_left {h h' : H} {S : Nat → Prop} {f : Nat} {cs : List Value} (ex : ∀ k, S k → ∃ o, h k = some o) (nr : ∀ k, S k → ∀ T cs, h k ≠ some (.raw T cs)) (o : Obj h' f cs) (g : Fr (fun k => k = f) h h') : ∀ k, S k → ∀ T cs, h' k ≠ some (.raw T cs) := by
  intro k hk U ds e
  by_cases ek : k = f
  · subst ek; unfold Obj at o; rw [o] at e; cases e
  · obtain ⟨o', ho⟩ := ex k hk
    have := g k o' ho ek
    rw [this] at e
    exact nr k hk U ds (ho.trans e)
theorem FW.ext {h h' : H} {S : Nat → Prop} {f : Nat} {σ : FSt} (F : FW h S f σ) (e : Ext h h') : FW h' S f σ :=
  ⟨F.fs.ext e, fun k hk => by obtain ⟨o, ho⟩ := F.ex k hk; exact ⟨o, e k o ho fun h => h⟩, F.good, nr_step (T := fun _ => False) F.ex F.nr e fun k _ h => h⟩
theorem FW.fr {h h' : H} {S T : Nat → Prop} {f : Nat} {σ : FSt} (F : FW h S f σ) (e : Fr T h h') (hs : ∀ k, S k → ¬ T k) : FW h' S f σ :=
  ⟨F.fs.fr e hs, fun k hk => by obtain ⟨o, ho⟩ := F.ex k hk; exact ⟨o, e k o ho (hs k hk)⟩, F.good, nr_step F.ex F.nr e hs⟩
theorem loadM_i {a : Addr} {n : Option Nat} {K : Option Nat → HProp} {h : H} (hc : h.cell? a = some (.map n)) (hK : K n h) : loadM a K h := by
  unfold loadM; rw [hc]; exact hK
theorem FSB.ldM {h : H} {f m : Nat} {σ : FSt} {R : List Row} (F : FSB h f m σ R) {K : Option Nat → HProp} (hK : K (some m) h) : derefW (some (at0 f)) (fun a => loadM (a.add 2) K) h :=
  deref_i (loadM_i (F.obj.ld (j := 2) rfl) hK)
theorem isNilM_some (m : Nat) : isNilM (some m) = false := by unfold isNilM; rfl
theorem fsnone_i {h : H} {f m : Nat} {σ : FSt} {R : List Row} (F : FSB h f m σ R) {Q : Bool → HProp} (hQ : Q false h) : files_FS_none (some (at0 f)) Q h := by
  unfold files_FS_none
  exact with_u (ite_f (isNilP_some _) (F.ldM (by rw [isNilM_some]; exact hQ)))
theorem FSB.pages {h : H} {f m : Nat} {σ : FSt} {R : List Row} (F : FSB h f m σ R) {nm : ByteArray} {Q : Int → HProp} (hQ : Q ((σ.rows nm).length : Nat) h) : files_FS_Pages (some (at0 f), nm) Q h := by
  unfold files_FS_Pages files_FS_Pages_F
  refine fsnone_i F (ite_f rfl (F.ldM (F.look (fun r hr hn hrow => ?_) (fun _ hrow => ?_))))
  · rw [(F.vec r hr).1.len, ← hrow]; exact hQ
  · rw [hrow] at hQ; exact hQ
def codeT (σ : FSt) (nm : ByteArray) (i : Int) : Int := if i < 0 ∨ i ≥ (σ.rows nm).length then 4 else 0
theorem FSB.there {h : H} {f m : Nat} {σ : FSt} {R : List Row} (F : FSB h f m σ R) {nm : ByteArray} {i : Int} {Q : Int → HProp} (hQ : Q (codeT σ nm i) h) : files_FS_there (some (at0 f), nm, i) Q h := by
  unfold files_FS_there files_FS_there_F
  simp only [leI_eq, ltI_eq]
  refine fsnone_i F (ite_f rfl ?_)
  refine with_b (decide (i < 0) || decide (((σ.rows nm).length : Int) ≤ i)) (fun k hk => ?_) ?_
  · refine ite_i (fun e => ?_) (fun e => ?_)
    · rw [e] at hk; exact hk
    · rw [e] at hk
      refine F.ldM (F.look (fun r hr hn hrow => ?_) (fun _ hrow => ?_))
      · rw [(F.vec r hr).1.len, ← hrow]; exact hk
      · rw [hrow] at hk; exact hk
  · unfold codeT at hQ
    refine ite_i (fun e => ?_) (fun e => ?_)
    · rw [if_pos (by simpa using e)] at hQ; exact hQ
    · rw [if_neg (by simpa using e)] at hQ; exact hQ
theorem FSB.ex {h : H} {f m : Nat} {σ : FSt} {R : List Row} (F : FSB h f m σ R) : ∀ k, FSB.own f m R k → ∃ o, h k = some o := by
  rintro k (rfl | rfl | ⟨r, hr, hk⟩)
  · exact ⟨_, F.obj⟩
  · obtain ⟨es, ck, M⟩ := F.map; exact ⟨_, M.blk⟩
  · exact (F.vec r hr).1.there hk
theorem _root_.Go.Cz.Vec.nraw {α : Type} {h : H} {v : Sl} {E : Enc α} {l : List α} (V : Vec h v E l) {k : Nat} (hk : v.on k) : ∀ T cs, h k ≠ some (.raw T cs) := by
  intro T cs e
  obtain ⟨a, ha, rfl⟩ := hk
  obtain ⟨_, c, h2, _⟩ := V.blk a ha
  rw [h2] at e; cases e
theorem MapAt.nraw {h : H} {m : Nat} {kvs : List (Value × Value)} (M : MapAt h m kvs) : ∀ T cs, h m ≠ some (.raw T cs) := by
  intro T cs e
  obtain ⟨es, ck, M⟩ := M
  rw [M.blk] at e; cases e
theorem _root_.Go.Cz.Obj.nraw {h : H} {b : Nat} {cs : List Value} (o : Obj h b cs) : ∀ T ds, h b ≠ some (.raw T ds) := by
  intro T ds e
  unfold Obj at o; rw [o] at e; cases e
theorem FSB.nraw {h : H} {f m : Nat} {σ : FSt} {R : List Row} (F : FSB h f m σ R) : ∀ k, FSB.own f m R k → ∀ T cs, h k ≠ some (.raw T cs) := by
  rintro k (rfl | rfl | ⟨r, hr, hk⟩)
  · exact F.obj.nraw
  · exact F.map.nraw
  · exact (F.vec r hr).1.nraw hk
theorem FW.of {h : H} {f m : Nat} {σ : FSt} {R : List Row} (F : FSB h f m σ R) (G : GoodF σ) : FW h (FSB.own f m R) f σ := ⟨⟨m, R, F, fun k h => h⟩, F.ex, G, F.nraw⟩
theorem FSB.setLeft {h h' : H} {f m : Nat} {σ : FSt} {R : List Row} (F : FSB h f m σ R) {n : Int} (o : Obj h' f [.int .i64 σ.room, .int .i64 n, .map (some m)]) (g : Fr (fun k => k = f) h h') : FSB h' f m { σ with left := n } R :=
  ⟨o, F.map.fr g (fun e => F.fm e.symm), F.L, fun r hr => ⟨(F.vec r hr).1.fr g fun b hb => ((F.vec r hr).2.2 b hb).1, (F.vec r hr).2⟩, F.rise, F.apart, F.fm⟩
theorem FSB.row {h : H} {f m : Nat} {σ : FSt} {R : List Row} (F : FSB h f m σ R) {nm : ByteArray} {K : Sl → Bool → HProp} (hne : σ.rows nm ≠ [])
    (hK : ∀ r ∈ R, r.nm = nm → σ.rows nm = r.ps → K r.v true h) : derefW (some (at0 f)) (fun a => loadM (a.add 2) fun x => lookW Ty0.sl (Sl.mk none 0 0) x (KT.one Ty0.s) (Value.string nm) K) h :=
  F.ldM (F.look hK fun _ e => absurd e hne)
theorem _root_.Go.Cz.Arr.str {h : H} {v : Sl} {L : List ByteArray} (A : Arr h v eS L) {i : Int} (h0 : 0 ≤ i) (hi : i < L.length) {K : ByteArray → HProp} (hK : K (L.getD i.toNat ⟨#[]⟩) h) : indexW i v 1 (fun a => loadS a K) h := by
  refine A.index h0 hi fun a ha => ?_
  have hi' : i.toNat < L.length := by omega
  have c0 := A.cell (j := 0) (x := L[i.toNat]) (y := .string L[i.toNat]) ha (List.getElem?_eq_getElem hi') rfl
  rw [add0] at c0
  refine loadS_i c0 ?_
  rw [List.getD_eq_getElem?_getD, List.getElem?_eq_getElem hi'] at hK
  exact hK
theorem read_i {h : H} {S : Nat → Prop} {f : Nat} {σ : FSt} (F : FW h S f σ) {nm : ByteArray} {i : Int} {Q : ByteArray × Int → HProp}
    (hQ : ∀ h', FW h' S f (σ.read nm i).1 → Kp S h S h' → Q (σ.read nm i).2 h') : files_FS_Read (some (at0 f), nm, i) Q h := by
  obtain ⟨⟨m, R, B, hS⟩, ex, G, nr⟩ := F
  unfold files_FS_Read files_FS_Read_F
  simp only [eqI_eq]
  refine B.there ?_
  have same : FW h S f σ := ⟨⟨m, R, B, hS⟩, ex, G, nr⟩
  by_cases hi : i < 0 ∨ i ≥ (σ.rows nm).length
  · have e : codeT σ nm i = 4 := by unfold codeT; rw [if_pos hi]
    have e2 : σ.read nm i = (σ, ⟨#[]⟩, 4) := by unfold FSt.read; rw [if_pos hi]
    rw [e2] at hQ
    rw [e]
    exact ite_t (by rfl) (hQ h same (Kp.refl _ _))
  · have e : codeT σ nm i = 0 := by unfold codeT; rw [if_neg hi]
    rw [e]
    refine ite_f (by rfl) ?_
    have hne : σ.rows nm ≠ [] := fun e => by rw [e] at hi; simp at hi; omega
    have hf : S f := hS f (.inl rfl)
    have last : ∀ (σ' : FSt) (h' : H), FSB h' f m σ' R → σ'.rows nm = σ.rows nm → Q ((σ.rows nm).getD i.toNat ⟨#[]⟩, 0) h' → derefW (some (at0 f)) (fun a => loadM (a.add 2) fun x => lookW Ty0.sl (Sl.mk none 0 0) x (KT.one Ty0.s) (Value.string nm) fun (v : Sl) (c : Bool) => indexW i v 1 fun (a : Addr) => loadS a fun (x : ByteArray) => Q (x, 0)) h' := by
      intro σ' h' B' hr hq
      refine B'.row (by rw [hr]; exact hne) fun r hrm hn hrow => ?_
      rw [← hr, hrow] at hq hi
      exact ((B'.vec r hrm).1.arr).str (by omega) (by omega) hq
    by_cases hl : σ.left = -1
    · have e2 : σ.read nm i = (σ, (σ.rows nm).getD i.toNat ⟨#[]⟩, 0) := by
        unfold FSt.read
        rw [if_neg hi, if_neg (by omega), if_neg (by omega)]
      rw [e2] at hQ
      refine with_u (deref_i (loadI_i (n := σ.left) (B.obj.ld (j := 1) rfl) (ite_f (by simp [hl]) (last σ h B rfl (hQ h same (Kp.refl _ _))))))
    · have hle := G.left
      refine with_u (deref_i (loadI_i (n := σ.left) (B.obj.ld (j := 1) rfl) (ite_t (by simp [hl]) (deref_i (loadI_i (n := σ.left) (B.obj.ld (j := 1) rfl) (deref_i ?_))))))
      rw [sub_i64 (by omega) (by omega)]
      refine B.obj.st (j := 1) (by simp) fun h1 o1 g1 => ?_
      have B1 : FSB h1 f m { σ with left := σ.left - 1 } R := B.setLeft o1 g1
      have ex1 : ∀ k, S k → ∃ o, h1 k = some o := fun k hk => by
        by_cases e : k = f
        · subst e; exact ⟨_, o1⟩
        · obtain ⟨o, ho⟩ := ex k hk; exact ⟨o, g1 k o ho e⟩
      have nr1 : ∀ k, S k → ∀ T cs, h1 k ≠ some (.raw T cs) := nr_left ex nr o1 g1
      have F1 : FW h1 S f { σ with left := σ.left - 1 } := ⟨⟨m, R, B1, hS⟩, ex1, ⟨by show -1 ≤ σ.left - 1 ∧ σ.left - 1 ≤ _; omega, G.room, G.used, G.rise, G.nm, G.pg⟩, nr1⟩
      have K1 : Kp S h S h1 := Kp.of_fr g1 fun k hk => by subst hk; exact hf
      refine deref_i (loadI_i (n := σ.left - 1) (o1.ld (j := 1) rfl) (ite_i (fun e => ?_) (fun e => ?_)))
      · have e : σ.left - 1 = -1 := of_decide_eq_true e
        have e2 : σ.read nm i = ({ σ with left := -1 }, ⟨#[]⟩, 60) := by
          unfold FSt.read
          rw [if_neg hi, if_pos (by omega)]
        rw [e2] at hQ
        rw [e] at F1
        exact hQ h1 F1 K1
      · have e : ¬ σ.left - 1 = -1 := of_decide_eq_false e
        have e2 : σ.read nm i = ({ σ with left := σ.left - 1 }, (σ.rows nm).getD i.toNat ⟨#[]⟩, 0) := by
          unfold FSt.read
          rw [if_neg hi, if_neg (by omega), if_pos (by omega)]
        rw [e2] at hQ
        exact last _ h1 B1 rfl (hQ h1 F1 K1)
theorem drop_i {h : H} {S : Nat → Prop} {f m : Nat} {σ : FSt} {R : List Row} (B : FSB h f m σ R) (hS : ∀ k, FSB.own f m R k → S k) (G : GoodF σ) {nm : ByteArray} {v : Sl} (hv : v.len = 0) {Q : Unit → HProp}
    (hQ : ∀ S' h', FW h' S' f (σ.set nm []) → Kp S h S' h' → Q () h') : files_FS_lay (some (at0 f), nm, v) Q h := by
  unfold files_FS_lay
  simp only [eqI_eq]
  refine ite_t (by simp [hv]) (B.ldM (B.drop fun h' B' g => ?_))
  have hl := rows_le nm G.rise
  refine hQ _ h' (FW.of B' (G.set (fun e => absurd rfl e) (fun p hp => by cases hp) ?_)) ⟨g.mono fun k hk => hS k (.inr (.inl hk)), fun k hk => ?_⟩
  · have := G.used
    simp only [List.length_nil]
    omega
  · rcases setR_own hk with h | ⟨r, hr, _⟩
    · exact .inl (hS k h)
    · cases hr
theorem remove_i {h : H} {S : Nat → Prop} {f : Nat} {σ : FSt} (F : FW h S f σ) {nm : ByteArray} {Q : Int → HProp}
    (hQ : ∀ S' h', FW h' S' f (σ.remove nm).1 → Kp S h S' h' → Q (σ.remove nm).2 h') : files_FS_Remove (some (at0 f), nm) Q h := by
  obtain ⟨⟨m, R, B, hS⟩, ex, G, nr⟩ := F
  unfold files_FS_Remove files_FS_Remove_F
  simp only [eqI_eq]
  refine B.there ?_
  unfold FSt.remove at hQ
  by_cases hi : (σ.rows nm).length = 0
  · have e : codeT σ nm 0 = 4 := by unfold codeT; rw [if_pos (by omega)]
    rw [if_pos hi] at hQ
    rw [e]
    exact ite_t (by rfl) (hQ S h ⟨⟨m, R, B, hS⟩, ex, G, nr⟩ (Kp.refl _ _))
  · have e : codeT σ nm 0 = 0 := by unfold codeT; rw [if_neg (by omega)]
    rw [if_neg hi] at hQ
    rw [e]
    exact ite_f (by rfl) (drop_i B hS G rfl hQ)
theorem FSB.lay2 {h0 h : H} {f m : Nat} {σ : FSt} {R : List Row} (F : FSB h0 f m σ R) {nm : ByteArray} {ps : List ByteArray} {v : Sl} {T : Nat → Prop} (g0 : Fr T h0 h) (hT : ∀ k, T k → k ≠ f ∧ k ≠ m ∧ ∀ x ∈ R, x.nm ≠ nm → ¬ x.v.on k)
    (V : Vec h v eS ps) (hne : ps ≠ []) (hv : ∀ k, v.on k → k ≠ f ∧ k ≠ m) (ha : ∀ x ∈ R, x.nm ≠ nm → ∀ k, v.on k → ¬ x.v.on k) {K : HProp}
    (hK : ∀ h', FSB h' f m (σ.set nm ps) (setR nm (some ⟨nm, ps, v⟩) R) → Fr (fun k => k = m) h h' → K h') : updateW (some m) (.one .s) (.string nm) (.slice v.a v.len v.cap) K h := by
  have fm : ¬ T f := fun h => (hT f h).1 rfl
  have mm : ¬ T m := fun h => (hT m h).2.1 rfl
  have fin : ∀ h', MapAt h' m ((setR nm (some ⟨nm, ps, v⟩) R).map Row.kv) → Fr (fun k => k = m) h h' → K h' := by
    intro h' M g
    refine hK h' ⟨(F.obj.fr g0 fm).fr g F.fm, M, ?_, ?_, setR_rise F.rise (fun r h => by cases h; rfl), setR_apart F.apart (fun r h => by cases h; exact ha) F.rise, F.fm⟩ g
    · show setL nm ps σ.L = _
      rw [F.L]
      exact setR_out (r := ⟨nm, ps, v⟩) rfl hne
    · intro r hr
      rcases setR_mem hr with ⟨hr, hn⟩ | hr
      · obtain ⟨h1, h2, h3⟩ := F.vec r hr
        exact ⟨(h1.fr g0 fun b hb ht => (hT b ht).2.2 r hr hn hb).fr g fun b hb => (h3 b hb).2, h2, h3⟩
      · cases hr
        exact ⟨V.fr g fun b hb => (hv b hb).2, hne, hv⟩
  have hp : ((setR nm (some ⟨nm, ps, v⟩) R).map Row.kv).Perm ((.string nm, .slice v.a v.len v.cap) :: (R.filter fun r => !decide (r.nm = nm)).map Row.kv) := (setR_perm R nm (some ⟨nm, ps, v⟩)).map _
  refine (F.map.fr g0 mm).update (fits_rows R) rfl (fun v0 rest p h' M g => fin h' (M.perm ?_) g) (fun hn h' M g => fin h' (M.perm ?_) g)
  · exact ((rest_of F.names p).cons _).trans hp.symm
  · rw [rest_none hn] at hp; exact hp.symm
theorem lay_i {h0 h : H} {S : Nat → Prop} {f m : Nat} {σ : FSt} {R : List Row} (B : FSB h0 f m σ R) (hS : ∀ k, FSB.own f m R k → S k) {nm : ByteArray} {ps : List ByteArray} {v : Sl} {T : Nat → Prop} (g0 : Fr T h0 h) (hT : ∀ k, T k → k ≠ f ∧ k ≠ m ∧ ∀ x ∈ R, x.nm ≠ nm → ¬ x.v.on k)
    (hTS : ∀ k, T k → S k) (V : Vec h v eS ps) (hne : ps ≠ []) (hv : ∀ k, v.on k → T k ∨ h0 k = none) (G' : GoodF (σ.set nm ps)) {Q : Unit → HProp}
    (hQ : ∀ S' h', FW h' S' f (σ.set nm ps) → Kp S h0 S' h' → Q () h') : files_FS_lay (some (at0 f), nm, v) Q h := by
  unfold files_FS_lay
  simp only [eqI_eq]
  have hvl := V.len
  have := List.length_pos_iff.2 hne
  have ho : Obj h f _ := B.obj.fr g0 fun h => (hT f h).1 rfl
  obtain ⟨es, ck, M⟩ := B.map
  have hv1 : ∀ k, v.on k → k ≠ f ∧ k ≠ m := fun k hk => by
    rcases hv k hk with h | h
    · exact ⟨(hT k h).1, (hT k h).2.1⟩
    · refine ⟨fun e => ?_, fun e => ?_⟩
      · subst e; have := B.obj; unfold Obj at this; rw [this] at h; cases h
      · subst e; rw [M.blk] at h; cases h
  have ha : ∀ x ∈ R, x.nm ≠ nm → ∀ k, v.on k → ¬ x.v.on k := fun x hx hn k hk hx2 => by
    rcases hv k hk with h | h
    · exact (hT k h).2.2 x hx hn hx2
    · obtain ⟨o, ho⟩ := (B.vec x hx).1.there hx2; rw [h] at ho; cases ho
  refine ite_f (by simp; omega) (deref_i (loadM_i (ho.ld (j := 2) rfl) (B.lay2 g0 hT V hne hv1 ha fun h' B' g => ?_)))
  refine hQ _ h' (FW.of B' G') ⟨fun k o hk hs => g k o (g0 k o hk fun ht => hs (hTS k ht)) fun e => hs (hS k (.inr (.inl e))), fun k hk => ?_⟩
  rcases setR_own hk with h | ⟨r, hr, hk2⟩
  · exact .inl (hS k h)
  · cases hr
    rcases hv k hk2 with h | h
    · exact .inl (hTS k h)
    · exact .inr h
end Go.Cz.S
namespace Go.Cz.S
open Go Go.Cz Go.Cz.Crc
set_option maxRecDepth 100000
set_option maxHeartbeats 1000000
set_option linter.unusedSimpArgs false
set_option linter.unusedVariables false
def namesF (σ : FSt) : List ByteArray := σ.L.map (·.1)
theorem used_ge : ∀ (L : List (ByteArray × List ByteArray)), (∀ x ∈ L, x.2 ≠ []) → L.length ≤ usedL L
  | [], _ => Nat.le_refl _
  | x :: t, h => by
    have := used_ge t fun y hy => h y (List.mem_cons_of_mem _ hy)
    have h1 := List.length_pos_iff.2 (h x (List.mem_cons_self ..))
    rw [used_cons, List.length_cons]; omega
theorem GoodF.many {σ : FSt} (G : GoodF σ) : σ.L.length ≤ 4096 := by
  have h1 := used_ge σ.L fun x hx => (G.pg x hx).1
  have h2 := G.used
  have h3 := G.room
  have : σ.used = usedL σ.L := rfl
  omega
theorem names_i {h : H} {f m : Nat} {σ : FSt} {R : List Row} (B : FSB h f m σ R) (G : GoodF σ) {Q : Sl → HProp}
    (hQ : ∀ v h', Vec h' v eS (namesF σ) → New h v → Ext h h' → Q v h') : files_FS_Names (some (at0 f)) Q h := by
  unfold files_FS_Names files_FS_Names_F maps_Keys_map_string_string_string_string slices_Sorted_string
  refine fsnone_i B (ite_f rfl (B.ldM ?_))
  refine Obj.new fun b h1 o1 hb E1 => ?_
  have hk : (R.map Row.kv).map (·.1) = strs (R.map fun r => r.nm.data.toList) := by
    unfold strs
    rw [List.map_map, List.map_map]
    apply List.map_congr_left
    intro r _
    show Value.string r.nm = Value.string ⟨r.nm.data.toList.toArray⟩
    rw [Array.toArray_toList]
  have hnm : namesF σ = R.map Row.nm := by
    unfold namesF; rw [B.L, List.map_map]; rfl
  have hlen : R.length ≤ 4096 := by
    have := G.many
    rw [B.L, List.length_map] at this; exact this
  have hsort : (R.map fun r => r.nm.data.toList).mergeSort leB = R.map fun r => r.nm.data.toList := by
    apply List.mergeSort_of_pairwise
    rw [List.pairwise_map]
    exact B.rise.imp fun {a b} h => by
      have := ltN_asymm h
      unfold ltN at this
      unfold leB
      exact decide_eq_true (List.not_lt.1 (of_decide_eq_false this))
  have hsz : ∀ k ∈ R.map fun r => r.nm.data.toList, k.length ≤ 9223372036854775807 := by
    intro k hk
    obtain ⟨r, hr, rfl⟩ := List.mem_map.1 hk
    have := G.nm r.out (by rw [B.L]; exact List.mem_map_of_mem hr)
    unfold okName at this
    simp only [Bool.and_eq_true, decide_eq_true_eq] at this
    rw [size_data]
    have h2 := this.1.2
    show r.nm.size ≤ _
    have h3 : r.out.1.size ≤ 8 := h2
    have h4 : r.out.1.size = r.nm.size := rfl
    omega
  refine (B.map.fr E1 fun h => h).keysSorted hk hsz (by rw [List.length_map]; omega) (B := b) ?_ (fun e => ?_) (fun hne cap' rest b2 hc hr hb2 => ?_)
  · exact o1.ld0 rfl
  · have : namesF σ = [] := by
      rw [hnm]
      have := congrArg List.length e
      simp at this
      rw [this]; rfl
    refine hQ _ _ ?_ New.nil0 E1
    rw [this]; exact Vec.nil0
  · refine hQ _ _ ⟨?_, by simpa using hc, (fun e => by cases e), fun a ha => ?_⟩ ?_ (E1.trans (Ext.set hb2))
    · show (R.map fun r => r.nm.data.toList).length = (namesF σ).length
      rw [hnm, List.length_map, List.length_map]
    · cases ha
      rw [hsort, ← hk]
      have e1 : (R.map Row.kv).map (·.1) = eS.all (namesF σ) := by
        rw [eS_all, hnm, List.map_map, List.map_map]; rfl
      have e2 : (namesF σ).length = R.length := by rw [hnm, List.length_map]
      have e3 : (eS.all (namesF σ)).length = (namesF σ).length * eS.w := eS.all_len _
      rw [e1]
      refine ⟨rfl, _, set_same .., ?_, ?_⟩
      · rw [List.length_append, e3, e2, hr]
        simp only [List.length_map] at hc ⊢
        show 0 + cap' * 1 ≤ R.length * 1 + (cap' - R.length)
        omega
      · show ((eS.all (namesF σ) ++ rest).drop 0).take _ = _
        rw [List.drop_zero, List.take_left' e3]
    · rintro k ⟨a, ha, rfl⟩
      cases ha
      exact E1.none hb2
theorem usedL_take {L : List (ByteArray × List ByteArray)} {i : Nat} (hi : i < L.length) : usedL (L.take (i + 1)) = usedL (L.take i) + L[i].2.length := by
  rw [List.take_succ_eq_append_getElem hi, used_app, used_cons, used_nil]; simp
theorem usedL_le (L : List (ByteArray × List ByteArray)) (i : Nat) : usedL (L.take i) ≤ usedL L := by
  conv => rhs; rw [← List.take_append_drop i L]
  rw [used_app]; omega
theorem rowsL_at {L : List (ByteArray × List ByteArray)} (h : L.Pairwise fun a b => ltN a.1 b.1 = true) {x : ByteArray × List ByteArray} (hx : x ∈ L) : rowsL L x.1 = x.2 := by
  induction L with
  | nil => cases hx
  | cons y t ih =>
    rw [List.pairwise_cons] at h
    rw [rowsL_cons]
    rcases List.mem_cons.1 hx with rfl | hx
    · rw [if_pos rfl]
    · rw [if_neg (ltN_ne (h.1 x hx))]; exact ih h.2 hx
theorem used_i {h : H} {f m : Nat} {σ : FSt} {R : List Row} (B : FSB h f m σ R) (G : GoodF σ) {Q : Int → HProp}
    (hQ : ∀ h', Ext h h' → Q (σ.used : Nat) h') : files_FS_Used (some (at0 f)) Q h := by
  unfold files_FS_Used files_FS_Used_F
  simp only [ltI_eq]
  refine names_i B G fun v h1 V nw E1 => ?_
  have hvl := V.len
  have hml := G.many
  have hnl : (namesF σ).length = σ.L.length := by unfold namesF; rw [List.length_map]
  have hu := G.used
  have hr := G.room
  have hus : σ.used = usedL σ.L := rfl
  refine loop_i (fun (s : Int × Int) h' => h' = h1 ∧ ∃ i : Nat, s.2 = i ∧ i ≤ σ.L.length ∧ s.1 = usedL (σ.L.take i)) (fun s => (σ.L.length - s.2).toNat) ⟨rfl, 0, rfl, by omega, rfl⟩ ?_
  rintro ⟨n, i'⟩ h' ⟨rfl, i, hi, hil, hn⟩ k hk
  simp only at hi hn
  subst hi; subst hn
  dsimp only
  refine ite_i (fun e => ?_) (fun e => ?_)
  · have e := of_decide_eq_true e
    have hlt : i < σ.L.length := by omega
    refine V.arr.str (by omega) (by omega) ?_
    have hx : (namesF σ).getD (i : Int).toNat ⟨#[]⟩ = σ.L[i].1 := by
      rw [Int.toNat_natCast, List.getD_eq_getElem?_getD, List.getElem?_eq_getElem (by omega)]
      unfold namesF
      simp
    rw [hx]
    have B1 := B.fr E1 fun k _ h => h
    have hrow : σ.rows σ.L[i].1 = σ.L[i].2 := rowsL_at G.rise (List.getElem_mem hlt)
    have h1 := usedL_take hlt
    have h2 := usedL_le σ.L (i + 1)
    refine B1.row (by rw [hrow]; exact (G.pg _ (List.getElem_mem hlt)).1) fun r hrm hn hrr => ?_
    rw [(B1.vec r hrm).1.len, ← hrr, hrow]
    rw [add_i64 (by omega) (by omega), add_i64 (by omega) (by omega)]
    exact hk (_, _) _ ⟨rfl, i + 1, rfl, by omega, by show (usedL (σ.L.take i) : Int) + _ = _; omega⟩ (by show (σ.L.length - ((i : Int) + 1)).toNat < (σ.L.length - (i : Int)).toNat; omega)
  · have e := of_decide_eq_false e
    rw [List.take_of_length_le (by omega)]
    exact hQ _ E1
theorem clone_i {h : H} {v : Sl} {ps : List ByteArray} (A : Arr h v eS ps) (hl : ps.length ≤ 1000000) {Q : Sl → HProp} (hQ : ∀ u h', Vec h' u eS ps → New h u → Ext h h' → Q u h') : slices_Clone_string_string v Q h := by
  unfold slices_Clone_string_string
  refine ite_i (fun e => ?_) (fun e => ?_)
  · have : ps = [] := by
      cases hva : v.a with
      | some a => rw [hva, isNilP_some] at e; cases e
      | none =>
        have h1 := A.nil hva
        have h2 := A.len
        exact List.length_eq_zero_iff.1 (by have := A.le; omega)
    subst this
    exact hQ _ h Vec.nil0 New.nil0 (Ext.refl h)
  · refine new_i (E := eS) (l := []) rfl rfl fun b h1 V nw E1 => ?_
    refine (A.ext E1).row rfl ?_
    refine V.append_new E1 nw (m := ps) rfl rfl A.len.symm (by rw [A.len]; simp; omega) ?_
    intro u h2 V2 E2 nw2 _ _
    exact hQ u h2 V2 nw2 E2
theorem pagesAny_i {h : H} {v : Sl} {ps : List ByteArray} (A : Arr h v eS ps) (hl : ps.length ≤ 1000000) {Q : Bool → HProp} (hQ : Q (ps.any fun p => decide (p.size ≠ 128)) h) : slices_ContainsFunc_string_string (v, files_FS_Write_c1) Q h := by
  unfold slices_ContainsFunc_string_string slices_ContainsFunc_string_string_F slices_IndexFunc_string_string files_FS_Write_c1 files_FS_Write_c1_F files_page
  simp only [ltI_eq, eqI_eq, leI_eq]
  have hvl := A.len
  refine loop_i (fun (s : Int) h' => h' = h ∧ ∃ i : Nat, s = i ∧ i ≤ ps.length ∧ (ps.take i).any (fun p => decide (p.size ≠ 128)) = false) (fun s => (ps.length - s).toNat) ⟨rfl, 0, rfl, by omega, rfl⟩ ?_
  rintro s h' ⟨rfl, i, rfl, hil, hn⟩ k hk
  refine ite_i (fun e => ?_) (fun e => ?_)
  · have e := of_decide_eq_true e
    have hlt : i < ps.length := by omega
    refine A.str (by omega) (by omega) ?_
    have hx : ps.getD (i : Int).toNat ⟨#[]⟩ = ps[i] := by
      rw [Int.toNat_natCast, List.getD_eq_getElem?_getD, List.getElem?_eq_getElem hlt]; rfl
    rw [hx]
    refine ite_i (fun e2 => ?_) (fun e2 => ?_)
    · have e2 : ¬ ((ps[i].size : Int) = 128) := by simpa using e2
      rw [decide_eq_true (by omega)]
      have : ps.any (fun p => decide (p.size ≠ 128)) = true := List.any_eq_true.2 ⟨ps[i], List.getElem_mem hlt, decide_eq_true (by omega)⟩
      rw [this] at hQ; exact hQ
    · have e2 : (ps[i].size : Int) = 128 := by simpa using e2
      rw [add_i64 (by omega) (by omega)]
      refine hk _ _ ⟨rfl, i + 1, rfl, by omega, ?_⟩ (by show (ps.length - ((i : Int) + 1)).toNat < (ps.length - (i : Int)).toNat; omega)
      rw [List.take_succ_eq_append_getElem hlt, List.any_append, hn]
      simp; omega
  · have e := of_decide_eq_false e
    rw [List.take_of_length_le (by omega)] at hn
    rw [hn] at hQ
    exact hQ
theorem write_i {h : H} {S : Nat → Prop} {f : Nat} {σ : FSt} (F : FW h S f σ) {nm : ByteArray} (hn : nm.size ≤ 1000000000000) {v : Sl} {ps : List ByteArray} (A : Arr h v eS ps) (hl : ps.length ≤ 1000000) {Q : Int → HProp}
    (hQ : ∀ S' h', FW h' S' f (σ.write nm ps).1 → Kp S h S' h' → Q (σ.write nm ps).2 h') : files_FS_Write (some (at0 f), nm, v) Q h := by
  obtain ⟨⟨m, R, B, hS⟩, ex, G, nr⟩ := F
  unfold files_FS_Write files_FS_Write_F
  simp only [ltI_eq]
  refine fsnone_i B (ite_f rfl ?_)
  refine with_i (fun (r : Bool) h' => Ext h h' ∧ r = (!okName nm || ps.any fun p => decide (p.size ≠ 128))) (fun k hk => ?_) ?_
  · refine Name_i hn fun h1 E1 => ?_
    cases hok : okName nm with
    | false => exact ite_t (by rfl) (hk _ _ ⟨E1, by rw [hok]; rfl⟩)
    | true => exact ite_f (by rfl) (pagesAny_i (A.ext E1) hl (hk _ _ ⟨E1, by rw [hok]; simp⟩))
  rintro r h1 ⟨E1, rfl⟩
  have B1 := B.fr E1 fun k _ h => h
  have F1 : FW h1 S f σ := (FW.mk ⟨m, R, B, hS⟩ ex G nr).ext E1
  refine ite_i (fun e => ?_) (fun e => ?_)
  · have e2 : σ.write nm ps = (σ, 2) := by
      unfold FSt.write
      rw [if_pos]
      simp only [Bool.or_eq_true, Bool.not_eq_true'] at e
      exact e
    rw [e2] at hQ
    exact hQ S h1 F1 (Kp.ext E1)
  have e0 : ¬ (okName nm = false ∨ ps.any (fun p => decide (p.size ≠ 128)) = true) := by
    simp only [Bool.or_eq_false_iff, Bool.not_eq_false'] at e
    rw [e.1, e.2]; simp
  have hok : okName nm = true := by
    cases h : okName nm with
    | true => rfl
    | false => exact absurd (.inl h) e0
  have hps : ∀ p ∈ ps, p.size = 128 := fun p hp => by
    have : ¬ ps.any (fun p => decide (p.size ≠ 128)) = true := fun h => e0 (.inr h)
    rw [List.any_eq_true] at this
    exact Decidable.byContradiction fun h => this ⟨p, hp, decide_eq_true h⟩
  refine deref_i (loadI_i (n := σ.room) (B1.obj.ld (j := 0) rfl) ?_)
  refine used_i B1 G fun h2 E2 => ?_
  have B2 := B1.fr E2 fun k _ h => h
  refine keeps1 (B2.obj.ld (j := 0) rfl) ?_
  refine B2.pages ?_
  refine keeps1 (B2.obj.ld (j := 0) rfl) ?_
  have hu := G.used
  have hr := G.room
  have hrl : (σ.rows nm).length ≤ σ.used := rows_le nm G.rise
  rw [sub_i64 (by omega) (by omega), add_i64 (by omega) (by omega), A.len]
  have E12 := E1.trans E2
  have ex2 : ∀ k, S k → ∃ o, h2 k = some o := fun k hk => by obtain ⟨o, ho⟩ := ex k hk; exact ⟨o, E12 k o ho fun h => h⟩
  refine ite_i (fun e => ?_) (fun e => ?_)
  · have e := of_decide_eq_true e
    have e2 : σ.write nm ps = (σ, 61) := by
      unfold FSt.write
      rw [if_neg e0, if_pos (by omega)]
    rw [e2] at hQ
    exact hQ S h2 (F1.ext E2) (Kp.ext E12)
  · have e := of_decide_eq_false e
    have e2 : σ.write nm ps = (σ.set nm ps, 0) := by
      unfold FSt.write
      rw [if_neg e0, if_neg (by omega)]
    rw [e2] at hQ
    refine clone_i (A.ext E12) hl fun u h3 V nw E3 => ?_
    have B3 := B2.fr E3 fun k _ h => h
    have G' : GoodF (σ.set nm ps) := G.set (fun _ => hok) hps (by omega)
    by_cases hp : ps = []
    · subst hp
      refine drop_i B3 hS G V.len fun S' h4 F4 K4 => ?_
      exact hQ S' h4 F4 ((Kp.ext (E12.trans E3)).trans K4)
    · refine lay_i B2 hS (T := fun _ => False) E3 (fun k h => h.elim) (fun k h => h.elim) V hp (fun k hk => .inr (nw k hk)) G' fun S' h4 F4 K4 => ?_
      exact hQ S' h4 F4 ((Kp.ext E12).trans K4)
theorem newF_i {n : Int} {h : H} {Q : Option Addr × Int → HProp} (h1 : (n < 1 ∨ 4096 < n) → Q (none, 2) h)
    (h2 : 1 ≤ n → n ≤ 4096 → ∀ S f h', FW h' S f ⟨n, -1, []⟩ → (∀ k, S k → h k = none) → Ext h h' → Q (some (at0 f), 0) h') : files_New n Q h := by
  unfold files_New
  simp only [ltI_eq]
  refine with_b (decide (n < 1) || decide (4096 < n)) (fun k hk => ?_) ?_
  · refine ite_i (fun e => by rw [e] at hk; exact hk) (fun e => by rw [e] at hk; exact hk)
  refine ite_i (fun e => ?_) (fun e => ?_)
  · exact h1 (by simpa using e)
  · simp only [Bool.or_eq_false_iff, decide_eq_false_iff_not] at e
    refine newMap_i fun m h3 M hm E3 => Obj.new fun f h4 o hf E4 => ?_
    have fm : f ≠ m := fun e => by obtain ⟨es, ck, M⟩ := M; have := M.blk; rw [e] at hf; rw [hf] at this; cases this
    have B : FSB h4 f m ⟨n, -1, []⟩ [] := ⟨o, M.fr E4 fun h => h, rfl, (fun r hr => by cases hr), List.Pairwise.nil, List.Pairwise.nil, fm⟩
    refine h2 (by omega) (by omega) _ f h4 (FW.of B ⟨by show (-1 : Int) ≤ -1 ∧ (-1 : Int) ≤ _; omega, by show 0 ≤ n ∧ n ≤ 4096; omega, by show ((0 : Nat) : Int) ≤ n; omega, List.Pairwise.nil, (fun x hx => by cases hx), (fun x hx => by cases hx)⟩) (fun k hk => ?_) (E3.trans E4)
    rcases hk with rfl | rfl | ⟨r, hr, _⟩
    · exact E3.none hf
    · exact hm
    · cases hr
theorem setL_rows {L : List (ByteArray × List ByteArray)} (h : L.Pairwise fun a b => ltN a.1 b.1 = true) (nm : ByteArray) (ps : List ByteArray) (x : ByteArray) : rowsL (setL nm ps L) x = if x = nm then ps else rowsL L x := by
  have h2 := setL_rise (nm := nm) (ps := ps) h
  by_cases e : x = nm
  · rw [if_pos e]; subst e
    by_cases hp : ps = []
    · subst hp
      refine rowsL_none fun y hy e => ?_
      rcases setL_mem hy with ⟨_, h⟩ | ⟨_, h⟩
      · exact h e
      · exact h rfl
    · have : (x, ps) ∈ setL x ps L := by unfold setL; rw [if_neg hp]; simp
      exact rowsL_at h2 this
  · rw [if_neg e]
    by_cases hex : ∃ y ∈ L, y.1 = x
    · obtain ⟨y, hy, rfl⟩ := hex
      have : y ∈ setL nm ps L := by
        unfold setL
        have hx2 : ltN y.1 nm = true ∨ ltN nm y.1 = true := by
          cases e1 : ltN y.1 nm with
          | true => exact .inl rfl
          | false => cases e2 : ltN nm y.1 with
            | true => exact .inr rfl
            | false => exact absurd (ltN_tri e1 e2) e
        rcases hx2 with h3 | h3
        · exact List.mem_append_left _ (List.mem_append_left _ (List.mem_filter.2 ⟨hy, h3⟩))
        · exact List.mem_append_right _ (List.mem_filter.2 ⟨hy, h3⟩)
      rw [rowsL_at h2 this, rowsL_at h hy]
    · rw [rowsL_none fun y hy e2 => hex ⟨y, hy, e2⟩]
      refine rowsL_none fun y hy e2 => ?_
      rcases setL_mem hy with ⟨h3, _⟩ | ⟨h3, _⟩
      · exact hex ⟨y, h3, e2⟩
      · rw [h3] at e2; exact e e2.symm
end Go.Cz.S
namespace Go.Cz.S
open Go Go.Cz Go.Cz.Crc
set_option maxRecDepth 100000
set_option maxHeartbeats 1000000
set_option linter.unusedSimpArgs false
set_option linter.unusedVariables false
end Go.Cz.S
namespace Go.Cz.S
open Go Go.Cz Go.Cz.Crc
set_option maxRecDepth 100000
set_option maxHeartbeats 1000000
set_option linter.unusedSimpArgs false
set_option linter.unusedVariables false
structure CRow where
  x : Frm
  b : Nat
  u : Int
def CRow.key (t : CRow) : ByteArray × Int := (t.x.name, t.x.i)
def keyV (nm : ByteArray) (i : Int) : Value := .agg #[.string nm, .int .i64 i]
def CRow.kv (t : CRow) : Value × Value := (keyV t.x.name t.x.i, .pointer (some (at0 t.b)))
def CRow.cells (t : CRow) : List Value := [.string t.x.data, .int .i64 t.x.pins, .int .i64 t.u]
abbrev CK : KT := KT.flat [Ty0.s, Ty0.i IntKind.i64]
structure CB0 (h : H) (c cm f : Nat) (most clock : Int) (T : List CRow) : Prop where
  obj : Obj h c [.pointer (some (at0 f)), .int .i64 most, .map (some cm), .int .i64 clock]
  map : MapAt h cm (T.map CRow.kv)
  fr : ∀ t ∈ T, Obj h t.b t.cells
  nd : (T.map CRow.key).Nodup
  ap : (T.map CRow.b).Nodup
  ne : ∀ t ∈ T, t.b ≠ c ∧ t.b ≠ cm
  cc : c ≠ cm
def CB0.own (c cm : Nat) (T : List CRow) : Nat → Prop := fun k => k = c ∨ k = cm ∨ ∃ t ∈ T, t.b = k
theorem CB0.fr' {h h' : H} {c cm f : Nat} {most clock : Int} {T : List CRow} {S : Nat → Prop} (C : CB0 h c cm f most clock T) (g : Fr S h h') (hs : ∀ k, CB0.own c cm T k → ¬ S k) : CB0 h' c cm f most clock T :=
  ⟨C.obj.fr g (hs c (.inl rfl)), C.map.fr g (hs cm (.inr (.inl rfl))), fun t ht => (C.fr t ht).fr g (hs t.b (.inr (.inr ⟨t, ht, rfl⟩))), C.nd, C.ap, C.ne, C.cc⟩
theorem CB0.ext {h h' : H} {c cm f : Nat} {most clock : Int} {T : List CRow} (C : CB0 h c cm f most clock T) (g : Ext h h') : CB0 h' c cm f most clock T := C.fr' g fun _ _ h => h
theorem CB0.ex {h : H} {c cm f : Nat} {most clock : Int} {T : List CRow} (C : CB0 h c cm f most clock T) : ∀ k, CB0.own c cm T k → ∃ o, h k = some o := by
  rintro k (rfl | rfl | ⟨t, ht, rfl⟩)
  · exact ⟨_, C.obj⟩
  · obtain ⟨es, ck, M⟩ := C.map; exact ⟨_, M.blk⟩
  · exact ⟨_, C.fr t ht⟩
theorem CB0.perm {h : H} {c cm f : Nat} {most clock : Int} {T T' : List CRow} (C : CB0 h c cm f most clock T) (p : T.Perm T') : CB0 h c cm f most clock T' :=
  ⟨C.obj, C.map.perm (p.map _), fun t ht => C.fr t (p.mem_iff.2 ht), (p.map _).nodup_iff.1 C.nd, (p.map _).nodup_iff.1 C.ap, fun t ht => C.ne t (p.mem_iff.2 ht), C.cc⟩
theorem fits_C (T : List CRow) : Fits CK (T.map CRow.kv) := by
  intro x hx
  obtain ⟨r, _, rfl⟩ := List.mem_map.1 hx
  rfl
theorem nodup_key {α β : Type} {f : α → β} : ∀ {l : List α}, (l.map f).Nodup → ∀ a ∈ l, ∀ b ∈ l, f a = f b → a = b
  | [], _, a, ha, _, _, _ => by cases ha
  | x :: r, h, a, ha, b, hb, e => by
    rw [List.map_cons, List.nodup_cons] at h
    rcases List.mem_cons.1 ha with ha1 | ha1
    · rcases List.mem_cons.1 hb with hb1 | hb1
      · rw [ha1, hb1]
      · subst ha1; exact absurd (e ▸ List.mem_map_of_mem hb1) h.1
    · rcases List.mem_cons.1 hb with hb1 | hb1
      · subst hb1; exact absurd (e ▸ List.mem_map_of_mem ha1) h.1
      · exact nodup_key h.2 a ha1 b hb1 e
theorem keyV_inj {a b : ByteArray} {i j : Int} (h : keyV a i = keyV b j) : a = b ∧ i = j := by
  unfold keyV at h
  simp only [Value.agg.injEq, Array.mk.injEq, List.cons.injEq, Value.string.injEq, Value.int.injEq, true_and, and_true] at h
  exact h
theorem CB0.look {h : H} {c cm f : Nat} {most clock : Int} {T : List CRow} (C : CB0 h c cm f most clock T) {nm : ByteArray} {i : Int} {K : Option Addr → Bool → HProp}
    (h1 : ∀ t ∈ T, t.x.name = nm → t.x.i = i → K (some (at0 t.b)) true h) (h2 : (∀ t ∈ T, ¬ (t.x.name = nm ∧ t.x.i = i)) → K none false h) : lookW Ty0.p none (some cm) CK (keyV nm i) K h := by
  refine C.map.look (fits_C T) rfl ?_ ?_
  · intro v hv
    obtain ⟨t, ht, e⟩ := List.mem_map.1 hv
    unfold CRow.kv at e
    simp only [Prod.mk.injEq] at e
    obtain ⟨e1, rfl⟩ := e
    obtain ⟨e2, e3⟩ := keyV_inj e1
    exact ⟨some (at0 t.b), rfl, h1 t ht e2 e3⟩
  · intro hn
    refine h2 fun t ht e => ?_
    refine hn (.pointer (some (at0 t.b))) (List.mem_map.2 ⟨t, ht, ?_⟩)
    unfold CRow.kv; rw [e.1, e.2]
theorem CB0.ldM {h : H} {c cm f : Nat} {most clock : Int} {T : List CRow} (C : CB0 h c cm f most clock T) {K : Option Nat → HProp} (hK : K (some cm) h) : derefW (some (at0 c)) (fun a => loadM (a.add 2) K) h :=
  deref_i (loadM_i (C.obj.ld (j := 2) rfl) hK)
theorem cnone_i {h : H} {c cm f : Nat} {most clock : Int} {T : List CRow} (C : CB0 h c cm f most clock T) {Q : Bool → HProp} (hQ : Q false h) : cache_Cache_none (some (at0 c)) Q h := by
  unfold cache_Cache_none
  refine with_u (ite_f (isNilP_some _) (deref_i (loadP_i (C.obj.ld (j := 0) rfl) ?_)))
  rw [isNilP_some]; exact hQ
def Oldest (T : List CRow) (t : CRow) : Prop := t ∈ T ∧ t.x.pins = 0 ∧ ∀ t' ∈ T, t'.x.pins = 0 → t.u ≤ t'.u
theorem oldest_i {h : H} {c cm f : Nat} {most clock : Int} {T : List CRow} (C : CB0 h c cm f most clock T) {Q : ByteArray × Int × Bool → HProp}
    (h1 : ∀ t h', Oldest T t → Ext h h' → Q (t.x.name, t.x.i, true) h') (h2 : ∀ a b h', (∀ t ∈ T, t.x.pins ≠ 0) → Ext h h' → Q (a, b, false) h') : cache_Cache_oldest (some (at0 c)) Q h := by
  unfold cache_Cache_oldest
  simp only [eqI_eq, ltI_eq]
  refine deref_i (loadM_i (C.obj.ld (j := 2) rfl) ?_)
  refine C.map.range fun it h0 I0 hit E0 => ?_
  refine loop_n (fun n (s : Bool × ByteArray × Int) h' => ∃ D S : List CRow, T.Perm (D ++ S) ∧ ItAt h' it cm (T.map CRow.kv) (D.map CRow.kv) ∧ n = D.length ∧ Ext h h' ∧
      ((s.1 = true ∧ ∃ t, Oldest S t ∧ t.x.name = s.2.1 ∧ t.x.i = s.2.2) ∨ (s.1 = false ∧ ∀ t ∈ S, t.x.pins ≠ 0))) T.length ⟨T, [], by simp, I0, rfl, E0, .inr ⟨rfl, fun t ht => by cases ht⟩⟩ ?_
  rintro n ⟨fd, nm, i⟩ h' ⟨D, S, hp, I, rfl, E, hs⟩ k hk
  simp only at hs
  refine I.next (fun hd => ?_) (fun x todo' h3 hx I3 g3 => ?_)
  · have : D = [] := by cases D; rfl; cases hd
    subst this
    rcases hs with ⟨rfl, t, ⟨t1, t2, t3⟩, e1, e2⟩ | ⟨rfl, hs⟩
    · subst e1; subst e2
      exact h1 t h' ⟨hp.mem_iff.2 t1, t2, fun t' ht' hp' => t3 t' (hp.mem_iff.1 ht') hp'⟩ E
    · exact h2 nm i h' (fun t ht => hs t (hp.mem_iff.1 ht)) E
  · obtain ⟨D', hD, e⟩ := perm_map_inv hx.symm
    cases D' with
    | nil => cases e
    | cons t D'' =>
    simp only [List.map_cons, List.cons.injEq] at e
    obtain ⟨rfl, rfl⟩ := e
    have hp2 : T.Perm (D'' ++ (S ++ [t])) := by
      refine hp.trans ((hD.symm.append_right S).trans ?_)
      rw [← List.append_assoc]
      exact List.perm_append_comm (l₁ := [t]) (l₂ := D'' ++ S)
    have ht : t ∈ T := hp2.mem_iff.2 (by simp)
    have E3 : Ext h h3 := E.of_new g3 fun k hk => by subst hk; exact hit
    have C3 := C.ext E3
    have o := C3.fr t ht
    have I4 := I3.at
    have dl : D.length = D''.length + 1 := by rw [← hD.length_eq]; rfl
    refine with_u (I3.entry (cs := [.string t.x.name, .int .i64 t.x.i]) (k := (t.x.name, t.x.i)) (v := some (at0 t.b)) rfl rfl rfl ?_)
    dsimp only
    -- the rest, by what was decided
    have fin : ∀ c : Bool, (c = true → Oldest (S ++ [t]) t) → (c = false → (fd = true ∧ ∃ t0, Oldest (S ++ [t]) t0 ∧ t0.x.name = nm ∧ t0.x.i = i) ∨ (fd = false ∧ ∀ t' ∈ S ++ [t], t'.x.pins ≠ 0)) →
        iteW c (k (true, t.x.name, t.x.i)) (k (fd, nm, i)) h3 := by
      intro c hc1 hc2
      refine ite_i (fun e => ?_) (fun e => ?_)
      · refine hk D''.length _ _ (by omega) ⟨D'', S ++ [t], hp2, I4, rfl, E3, .inl ⟨rfl, t, hc1 e, rfl, rfl⟩⟩
      · refine hk D''.length _ _ (by omega) ⟨D'', S ++ [t], hp2, I4, rfl, E3, ?_⟩
        dsimp only
        exact hc2 e
    have old : fd = true → ∃ t0 ∈ T, Oldest S t0 ∧ t0.x.name = nm ∧ t0.x.i = i := fun hf => by
      rcases hs with ⟨_, t0, h, e⟩ | ⟨hf2, _⟩
      · exact ⟨t0, hp.mem_iff.2 (List.mem_append_right _ h.1), h, e⟩
      · rw [hf] at hf2; cases hf2
    refine with_i (fun (c : Bool) h' => h' = h3 ∧ (c = true → Oldest (S ++ [t]) t) ∧ (c = false → (fd = true ∧ ∃ t0, Oldest (S ++ [t]) t0 ∧ t0.x.name = nm ∧ t0.x.i = i) ∨ (fd = false ∧ ∀ t' ∈ S ++ [t], t'.x.pins ≠ 0))) (fun k2 hk2 => ?_) ?_
    · refine deref_i (loadI_i (n := t.x.pins) (o.ld (j := 1) rfl) ?_)
      have mem : ∀ t', t' ∈ S ++ [t] → t' ∈ S ∨ t' = t := fun t' h => by
        rcases List.mem_append.1 h with h | h
        · exact .inl h
        · exact .inr (by simpa using h)
      refine ite_i (fun e => ?_) (fun e => ?_)
      · have e : t.x.pins = 0 := of_decide_eq_true e
        refine ite_i (fun e2 => ?_) (fun e2 => ?_)
        · have e2 : fd = false := by simpa using e2
          refine hk2 _ _ ⟨rfl, fun _ => ⟨by simp, e, fun t' h hp' => ?_⟩, fun h => by cases h⟩
          rcases mem t' h with h | h
          · rcases hs with ⟨h4, _⟩ | ⟨_, h4⟩
            · rw [e2] at h4; cases h4
            · exact absurd hp' (h4 t' h)
          · subst h; exact Int.le_refl _
        · have e2 : fd = true := by simpa using e2
          obtain ⟨t0, ht0, ho0, rfl, rfl⟩ := old e2
          have o0 := C3.fr t0 ht0
          refine deref_i (loadI_i (n := t.u) (o.ld (j := 2) rfl) (C3.ldM (C3.look (fun t1 ht1 en ei => ?_) fun hno => absurd ⟨rfl, rfl⟩ (hno t0 ht0))))
          have : t1 = t0 := nodup_key C3.nd t1 ht1 t0 ht0 (by unfold CRow.key; rw [en, ei])
          subst this
          refine keeps1 (o.ld (j := 2) rfl) (deref_i (loadI_i (n := t1.u) (o0.ld (j := 2) rfl) (hk2 _ _ ⟨rfl, fun h => ?_, fun h => ?_⟩)))
          · have h := of_decide_eq_true h
            refine ⟨by simp, e, fun t' h' hp' => ?_⟩
            rcases mem t' h' with h' | h'
            · have := ho0.2.2 t' h' hp'; omega
            · subst h'; exact Int.le_refl _
          · have h := of_decide_eq_false h
            refine .inl ⟨e2, t1, ⟨List.mem_append_left _ ho0.1, ho0.2.1, fun t' h' hp' => ?_⟩, rfl, rfl⟩
            rcases mem t' h' with h' | h'
            · exact ho0.2.2 t' h' hp'
            · subst h'; omega
      · have e : ¬ t.x.pins = 0 := of_decide_eq_false e
        refine hk2 _ _ ⟨rfl, fun h => (by cases h), fun _ => ?_⟩
        rcases hs with ⟨h4, t0, h5, h6⟩ | ⟨h4, h5⟩
        · refine .inl ⟨h4, t0, ⟨List.mem_append_left _ h5.1, h5.2.1, fun t' h' hp' => ?_⟩, h6⟩
          rcases mem t' h' with h' | h'
          · exact h5.2.2 t' h' hp'
          · subst h'; exact absurd hp' e
        · refine .inr ⟨h4, fun t' h' => ?_⟩
          rcases mem t' h' with h' | h'
          · exact h5 t' h'
          · subst h'; exact e
    · rintro c h' ⟨rfl, a, b⟩
      exact fin c a b
end Go.Cz.S
namespace Go.Cz.S
open Go Go.Cz Go.Cz.Crc
set_option maxRecDepth 100000
set_option maxHeartbeats 1000000
set_option linter.unusedSimpArgs false
set_option linter.unusedVariables false
def roomR (most : Int) (T : List CRow) : Bool := decide ((T.length : Int) < most) || T.any fun t => decide (t.x.pins = 0)
theorem CB0.len {h : H} {c cm f : Nat} {most clock : Int} {T : List CRow} (C : CB0 h c cm f most clock T) {K : Int → HProp} (hK : K (T.length : Nat) h) : lenMW (some cm) K h :=
  C.map.len (by rw [List.length_map]; exact hK)
theorem full_i {h : H} {c cm f : Nat} {most clock : Int} {T : List CRow} (C : CB0 h c cm f most clock T) {Q : Bool → HProp} (hQ : ∀ h', Ext h h' → Q (!roomR most T) h') : cache_Cache_full (some (at0 c)) Q h := by
  unfold cache_Cache_full cache_Cache_full_F
  simp only [leI_eq]
  have fin : ∀ (a : ByteArray) (b : Int) (fd : Bool) (h' : H), Ext h h' → fd = (T.any fun t => decide (t.x.pins = 0)) → withK Q (fun (k : Bool → HProp) =>
      derefW (some (at0 c)) fun (a : Addr) =>
        loadM (a.add 2) fun (x : Option Nat) =>
          derefW (some (at0 c)) fun (a : Addr) =>
            loadI IntKind.i64 (a.add 1) fun (x_1 : Int) =>
              lenMW x fun (n : Int) =>
                keepsW (a.add 1) (Rec.mk 8 (Pl.heap (a.add 1)) [Value.int IntKind.i64 x_1]).vs
                  (iteW (decide (x_1 ≤ n)) (k !fd) (k false))) h' := by
    intro a b fd h' E e
    have C' := C.ext E
    have hq := hQ h' E
    unfold roomR at hq
    refine with_u (C'.ldM (deref_i (loadI_i (n := most) (C'.obj.ld (j := 1) rfl) (C'.len (keeps1 (C'.obj.ld (j := 1) rfl) ?_)))))
    refine ite_i (fun e2 => ?_) (fun e2 => ?_)
    · have e2 := of_decide_eq_true e2
      rw [decide_eq_false (by omega), ← e] at hq; exact hq
    · have e2 := of_decide_eq_false e2
      rw [decide_eq_true (by omega)] at hq; exact hq
  refine oldest_i C (fun t h' ho E => ?_) (fun a b h' hn E => ?_)
  · refine fin t.x.name t.x.i true h' E ?_
    symm
    exact List.any_eq_true.2 ⟨t, ho.1, decide_eq_true ho.2.1⟩
  · refine fin a b false h' E ?_
    symm
    rw [Bool.eq_false_iff]
    intro h
    obtain ⟨t, ht, hp⟩ := List.any_eq_true.1 h
    exact hn t ht (of_decide_eq_true hp)
def RiseR (T : List CRow) : Prop := T.Pairwise fun a b => a.u < b.u
def eraseR : List CRow → List CRow
  | [] => []
  | t :: r => if t.x.pins = 0 then r else t :: eraseR r
theorem eraseR_x : ∀ T : List CRow, (eraseR T).map (·.x) = eraseFirst (T.map (·.x))
  | [] => rfl
  | t :: r => by
    simp only [eraseR, List.map_cons, eraseFirst]
    split
    · rfl
    · rw [List.map_cons, eraseR_x r]
theorem eraseR_none : ∀ {T : List CRow}, (∀ t ∈ T, t.x.pins ≠ 0) → eraseR T = T
  | [], _ => rfl
  | t :: r, h => by
    simp only [eraseR]
    rw [if_neg (h t (List.mem_cons_self ..)), eraseR_none fun x hx => h x (List.mem_cons_of_mem _ hx)]
theorem eraseR_at : ∀ {T : List CRow} {t : CRow}, RiseR T → Oldest T t → ∃ A B, T = A ++ t :: B ∧ eraseR T = A ++ B
  | [], t, _, h => by cases h.1
  | x :: r, t, hr, h => by
    unfold RiseR at hr
    rw [List.pairwise_cons] at hr
    simp only [eraseR]
    by_cases hx : x.x.pins = 0
    · rw [if_pos hx]
      have : t = x := by
        rcases List.mem_cons.1 h.1 with e | e
        · exact e
        · have h1 := h.2.2 x (List.mem_cons_self ..) hx
          have h2 := hr.1 t e
          omega
      subst this
      exact ⟨[], r, rfl, rfl⟩
    · rw [if_neg hx]
      have ht : t ∈ r := by
        rcases List.mem_cons.1 h.1 with e | e
        · subst e; exact absurd h.2.1 hx
        · exact e
      obtain ⟨A, B, e1, e2⟩ := eraseR_at (T := r) hr.2 ⟨ht, h.2.1, fun t' h' hp => h.2.2 t' (List.mem_cons_of_mem _ h') hp⟩
      exact ⟨x :: A, B, by rw [e1]; rfl, by rw [e2]; rfl⟩
theorem eraseR_sub : ∀ T : List CRow, (eraseR T).Sublist T
  | [] => List.Sublist.refl _
  | t :: r => by
    simp only [eraseR]
    split
    · exact (List.Sublist.refl r).cons t
    · exact (eraseR_sub r).cons_cons t
theorem CB0.sub {h h' : H} {c cm f : Nat} {most clock : Int} {T T' : List CRow} (C : CB0 h c cm f most clock T) (s : T'.Sublist T) (g : Fr (fun k => k = cm) h h') (M : MapAt h' cm (T'.map CRow.kv)) : CB0 h' c cm f most clock T' :=
  ⟨C.obj.fr g C.cc, M, fun t ht => (C.fr t (s.mem ht)).fr g (C.ne t (s.mem ht)).2, C.nd.sublist (s.map _), C.ap.sublist (s.map _), fun t ht => C.ne t (s.mem ht), C.cc⟩
theorem mid_sub {α : Type} (A : List α) (t : α) (B : List α) : (A ++ B).Sublist (A ++ t :: B) := (List.Sublist.refl A).append (List.sublist_cons_self t B)
theorem CB0.del {h : H} {c cm f : Nat} {most clock : Int} {A B : List CRow} {t : CRow} (C : CB0 h c cm f most clock (A ++ t :: B)) {K : HProp}
    (hK : ∀ h', CB0 h' c cm f most clock (A ++ B) → Fr (fun k => k = cm) h h' → K h') : deleteW (some cm) CK (keyV t.x.name t.x.i) K h := by
  have hmid : ((A ++ t :: B).map CRow.kv).Perm (t.kv :: (A ++ B).map CRow.kv) := by
    rw [List.map_append, List.map_cons, List.map_append]; exact List.perm_middle
  refine C.map.delete (fits_C _) rfl (fun v0 rest hp h' M g => ?_) (fun hn => ?_)
  · have hin : (keyV t.x.name t.x.i, v0) ∈ (A ++ t :: B).map CRow.kv := hp.mem_iff.2 (List.mem_cons_self ..)
    obtain ⟨t1, ht1, e⟩ := List.mem_map.1 hin
    unfold CRow.kv at e
    simp only [Prod.mk.injEq] at e
    obtain ⟨e1, e2⟩ := e
    obtain ⟨e3, e4⟩ := keyV_inj e1
    have : t1 = t := nodup_key C.nd t1 ht1 t (by simp) (by unfold CRow.key; rw [e3, e4])
    subst this
    have h2 := (hmid.symm.trans hp)
    rw [show t1.kv = (keyV t1.x.name t1.x.i, v0) by unfold CRow.kv; rw [e2]] at h2
    exact hK h' (C.sub (mid_sub A t1 B) g (M.perm h2.cons_inv.symm)) g
  · exact absurd (List.mem_map.2 ⟨t, by simp, rfl⟩) (hn (.pointer (some (at0 t.b))))
theorem CB0.set {h h' : H} {c cm f : Nat} {most clock : Int} {A B : List CRow} {t t' : CRow} (C : CB0 h c cm f most clock (A ++ t :: B)) (hk : t'.key = t.key) (hb : t'.b = t.b) (o : Obj h' t.b t'.cells) (g : Fr (fun k => k = t.b) h h') : CB0 h' c cm f most clock (A ++ t' :: B) := by
  have htm : t ∈ A ++ t :: B := by simp
  have hne := C.ne t htm
  have kve : t'.kv = t.kv := by
    unfold CRow.key at hk
    simp only [Prod.mk.injEq] at hk
    unfold CRow.kv; rw [hk.1, hk.2, hb]
  have ap := C.ap
  rw [List.map_append, List.map_cons, List.nodup_append, List.nodup_cons] at ap
  refine ⟨C.obj.fr g fun e => hne.1 e.symm, ?_, fun x hx => ?_, ?_, ?_, fun x hx => ?_, C.cc⟩
  · have := C.map.fr g fun e => hne.2 e.symm
    rw [List.map_append, List.map_cons] at this ⊢
    rw [kve]; exact this
  · rcases List.mem_append.1 hx with h1 | h1
    · refine (C.fr x (List.mem_append_left _ h1)).fr g fun e => ?_
      exact ap.2.2 x.b (List.mem_map_of_mem h1) t.b (List.mem_cons_self ..) e
    · rcases List.mem_cons.1 h1 with rfl | h1
      · rw [hb]; exact o
      · refine (C.fr x (List.mem_append_right _ (List.mem_cons_of_mem _ h1))).fr g fun e => ?_
        exact ap.2.1.1 (e ▸ List.mem_map_of_mem h1)
  · have := C.nd
    rw [List.map_append, List.map_cons] at this ⊢
    rw [hk]; exact this
  · have := C.ap
    rw [List.map_append, List.map_cons] at this ⊢
    rw [hb]; exact this
  · rcases List.mem_append.1 hx with h1 | h1
    · exact C.ne x (List.mem_append_left _ h1)
    · rcases List.mem_cons.1 h1 with rfl | h1
      · rw [hb]; exact hne
      · exact C.ne x (List.mem_append_right _ (List.mem_cons_of_mem _ h1))
theorem CB0.tick {h h' : H} {c cm f : Nat} {most clock n : Int} {T : List CRow} (C : CB0 h c cm f most clock T) (o : Obj h' c [.pointer (some (at0 f)), .int .i64 most, .map (some cm), .int .i64 n]) (g : Fr (fun k => k = c) h h') : CB0 h' c cm f most n T :=
  ⟨o, C.map.fr g fun e => C.cc e.symm, fun t ht => (C.fr t ht).fr g (C.ne t ht).1, C.nd, C.ap, C.ne, C.cc⟩
theorem use_i {h : H} {c cm f : Nat} {most clock : Int} {A B : List CRow} {t : CRow} (C : CB0 h c cm f most clock (A ++ t :: B)) (hc : 0 ≤ clock ∧ clock < 4611686018427387904) {Q : Unit → HProp}
    (hQ : ∀ h', CB0 h' c cm f most (clock + 1) (A ++ { t with u := clock + 1 } :: B) → Fr (CB0.own c cm (A ++ t :: B)) h h' → Q () h') : cache_Cache_use (some (at0 c), some (at0 t.b)) Q h := by
  unfold cache_Cache_use cache_Cache_use_F sync_atomic_Int64_Add
  refine deref_i (deref_i ?_)
  rw [add0, at0_add]
  unfold atomW
  have ho := C.obj
  unfold Obj at ho
  simp only [ho]
  refine ⟨trivial, clock, rfl, ?_⟩
  rw [add_i64 (by omega) (by omega)]
  have g1 : Fr (fun k => k = c) h (h.set c (.cells [.pointer (some (at0 f)), .int .i64 most, .map (some cm), .int .i64 (clock + 1)] true)) := Fr.set
  have C1 : CB0 (h.set c (.cells [.pointer (some (at0 f)), .int .i64 most, .map (some cm), .int .i64 (clock + 1)] true)) c cm f most (clock + 1) (A ++ t :: B) := C.tick (set_same ..) g1
  refine deref_i ((C1.fr t (by simp)).st (j := 2) (by simp [CRow.cells]) fun h2 o2 g2 => ?_)
  refine hQ h2 (C1.set (t' := { t with u := clock + 1 }) rfl rfl o2 g2) ((g1.mono fun k hk => .inl hk).trans (g2.mono fun k hk => .inr (.inr ⟨t, by simp, hk.symm⟩)))
theorem come_i {h : H} {c cm f : Nat} {most clock : Int} {T : List CRow} (C : CB0 h c cm f most clock T) (hr : RiseR T) {nm : ByteArray} {i : Int} {d : ByteArray} (hk : ∀ t ∈ T, ¬ (t.x.name = nm ∧ t.x.i = i)) {Q : Option Addr → HProp}
    (hQ : ∀ b h', CB0 h' c cm f most clock ((if (T.length : Int) ≥ most then eraseR T else T) ++ [⟨⟨nm, i, d, 0⟩, b, 0⟩]) → h b = none → Fr (CB0.own c cm T) h h' → Q (some (at0 b)) h') : cache_Cache_come (some (at0 c), nm, i, d) Q h := by
  unfold cache_Cache_come cache_Cache_come_F
  simp only [leI_eq]
  refine with_i (fun (_ : Unit) h' => ∃ T', T' = (if (T.length : Int) ≥ most then eraseR T else T) ∧ CB0 h' c cm f most clock T' ∧ T'.Sublist T ∧ Fr (fun k => k = cm) h h') (fun k hk2 => ?_) ?_
  · refine C.ldM (deref_i (loadI_i (n := most) (C.obj.ld (j := 1) rfl) (C.len (keeps1 (C.obj.ld (j := 1) rfl) ?_))))
    refine ite_i (fun e => ?_) (fun e => ?_)
    · have e := of_decide_eq_true e
      rw [if_pos (by omega)] at hk2
      refine oldest_i C (fun t h' ho E => ite_t rfl ?_) (fun a b h' hn E => ite_f rfl ?_)
      · have C' := C.ext E
        obtain ⟨A, B, e1, e2⟩ := eraseR_at hr ho
        subst e1
        refine C'.ldM (C'.del fun h2 C2 g2 => hk2 _ _ ⟨A ++ B, e2.symm, C2, mid_sub A t B, fun k o h1 h3 => g2 k o (E k o h1 fun h => h) h3⟩)
      · exact hk2 _ _ ⟨T, (eraseR_none hn).symm, C.ext E, List.Sublist.refl _, E.fr⟩
    · have e := of_decide_eq_false e
      rw [if_neg (by omega)] at hk2
      exact hk2 _ _ ⟨T, rfl, C, List.Sublist.refl _, Fr.refl _ _⟩
  · rintro _ h1 ⟨T', e, C1, hs, g1⟩
    rw [← e] at hQ
    refine Obj.new fun b h2 o hb E2 => ?_
    have C2 := C1.ext E2
    have nb : ∀ k, CB0.own c cm T' k → k ≠ b := fun k hk e => by
      subst e
      obtain ⟨o, ho⟩ := C1.ex k hk
      rw [hb] at ho; cases ho
    have nbT : h b = none := by
      cases e3 : h b with
      | none => rfl
      | some o =>
        by_cases e4 : b = cm
        · exact absurd e4.symm (nb cm (.inr (.inl rfl)))
        · have := g1 b o e3 e4
          rw [hb] at this; cases this
    have fin : ∀ h', MapAt h' cm ((T' ++ [(⟨⟨nm, i, d, 0⟩, b, 0⟩ : CRow)]).map CRow.kv) → Fr (fun k => k = cm) h2 h' → Q (some (at0 b)) h' := by
      intro h' M g
      refine hQ b h' ⟨C2.obj.fr g C2.cc, M, fun t ht => ?_, ?_, ?_, fun t ht => ?_, C2.cc⟩ nbT ?_
      · rcases List.mem_append.1 ht with h | h
        · exact (C2.fr t h).fr g (C2.ne t h).2
        · simp at h; subst h
          exact o.fr g fun e => nb cm (.inr (.inl rfl)) e.symm
      · rw [List.map_append, List.nodup_append]
        refine ⟨C2.nd, by simp, fun a ha x hx => ?_⟩
        obtain ⟨t, ht, rfl⟩ := List.mem_map.1 ha
        simp at hx; subst hx
        intro e
        unfold CRow.key at e
        simp only [Prod.mk.injEq] at e
        exact hk t (hs.mem ht) e
      · rw [List.map_append, List.nodup_append]
        refine ⟨C2.ap, by simp, fun a ha x hx => ?_⟩
        obtain ⟨t, ht, rfl⟩ := List.mem_map.1 ha
        simp at hx; subst hx
        exact nb t.b (.inr (.inr ⟨t, ht, rfl⟩))
      · rcases List.mem_append.1 ht with h | h
        · exact C2.ne t h
        · simp at h; subst h
          exact ⟨fun e => nb c (.inl rfl) e.symm, fun e => nb cm (.inr (.inl rfl)) e.symm⟩
      · refine fun k o hk hn => g k o (E2 k o (g1 k o hk fun e => hn (.inr (.inl e))) fun h => h) fun e => hn (.inr (.inl e))
    refine C2.ldM (C2.map.update (fits_C _) rfl (fun v0 rest p h' M g => ?_) (fun hn h' M g => fin h' (M.perm ?_) g))
    · exfalso
      have hin : (keyV nm i, v0) ∈ T'.map CRow.kv := p.mem_iff.2 (List.mem_cons_self ..)
      obtain ⟨t1, ht1, e⟩ := List.mem_map.1 hin
      unfold CRow.kv at e
      simp only [Prod.mk.injEq] at e
      exact hk t1 (hs.mem ht1) (keyV_inj e.1)
    · rw [List.map_append]
      exact (List.perm_append_comm (l₁ := T'.map CRow.kv) (l₂ := [CRow.kv ⟨⟨nm, i, d, 0⟩, b, 0⟩])).symm
end Go.Cz.S
namespace Go.Cz.S
open Go Go.Cz Go.Cz.Crc
set_option maxRecDepth 100000
set_option maxHeartbeats 1000000
set_option linter.unusedSimpArgs false
set_option linter.unusedVariables false
structure CC (T : List CRow) (κ : CSt) (clock n : Int) : Prop where
  L : κ.L = T.map CRow.x
  rise : RiseR T
  u : ∀ t ∈ T, t.u ≤ clock
  ck : 0 ≤ clock ∧ clock ≤ n
  most : 1 ≤ κ.most ∧ κ.most ≤ 64
  len : (T.length : Int) ≤ κ.most
  pins : ∀ t ∈ T, 0 ≤ t.x.pins ∧ t.x.pins ≤ clock
  data : ∀ t ∈ T, t.x.data.size ≤ 122
structure WT (h : H) (S : Nat → Prop) (f c : Nat) (σ : FSt) (κ : CSt) (n : Int) (Sf : Nat → Prop) (cm : Nat) (T : List CRow) (clock : Int) : Prop where
  fs : FW h Sf f σ
  cb : CB0 h c cm f κ.most clock T
  dis : ∀ k, Sf k → ¬ CB0.own c cm T k
  S : ∀ k, S k ↔ Sf k ∨ CB0.own c cm T k
  cc : CC T κ clock n
def WW (h : H) (S : Nat → Prop) (f c : Nat) (σ : FSt) (κ : CSt) (n : Int) : Prop := ∃ Sf cm T clock, WT h S f c σ κ n Sf cm T clock
theorem WT.ex {h : H} {S : Nat → Prop} {f c : Nat} {σ : FSt} {κ : CSt} {n : Int} {Sf : Nat → Prop} {cm : Nat} {T : List CRow} {clock : Int} (W : WT h S f c σ κ n Sf cm T clock) : ∀ k, S k → ∃ o, h k = some o := fun k hk => by
  rcases (W.S k).1 hk with h | h
  · exact W.fs.ex k h
  · exact W.cb.ex k h
theorem WW.ex {h : H} {S : Nat → Prop} {f c : Nat} {σ : FSt} {κ : CSt} {n : Int} (W : WW h S f c σ κ n) : ∀ k, S k → ∃ o, h k = some o := by
  obtain ⟨_, _, _, _, W⟩ := W; exact W.ex
theorem CC.mono {T : List CRow} {κ : CSt} {clock n m : Int} (C : CC T κ clock n) (h : n ≤ m) : CC T κ clock m := ⟨C.L, C.rise, C.u, ⟨C.ck.1, Int.le_trans C.ck.2 h⟩, C.most, C.len, C.pins, C.data⟩
theorem WW.mono {h : H} {S : Nat → Prop} {f c : Nat} {σ : FSt} {κ : CSt} {n m : Int} (W : WW h S f c σ κ n) (hm : n ≤ m) : WW h S f c σ κ m := by
  obtain ⟨Sf, cm, T, clock, W⟩ := W
  exact ⟨Sf, cm, T, clock, W.fs, W.cb, W.dis, W.S, W.cc.mono hm⟩
theorem WW.ext {h h' : H} {S : Nat → Prop} {f c : Nat} {σ : FSt} {κ : CSt} {n : Int} (W : WW h S f c σ κ n) (e : Ext h h') : WW h' S f c σ κ n := by
  obtain ⟨Sf, cm, T, clock, W⟩ := W
  exact ⟨Sf, cm, T, clock, W.fs.ext e, W.cb.ext e, W.dis, W.S, W.cc⟩
theorem WW.fr {h h' : H} {S U : Nat → Prop} {f c : Nat} {σ : FSt} {κ : CSt} {n : Int} (W : WW h S f c σ κ n) (e : Fr U h h') (hs : ∀ k, S k → ¬ U k) : WW h' S f c σ κ n := by
  obtain ⟨Sf, cm, T, clock, W⟩ := W
  exact ⟨Sf, cm, T, clock, W.fs.fr e fun k hk => hs k ((W.S k).2 (.inl hk)), W.cb.fr' e fun k hk => hs k ((W.S k).2 (.inr hk)), W.dis, W.S, W.cc⟩
theorem WT.fsop {h : H} {S : Nat → Prop} {f c : Nat} {σ : FSt} {κ : CSt} {n : Int} {Sf : Nat → Prop} {cm : Nat} {T : List CRow} {clock : Int} (W : WT h S f c σ κ n Sf cm T clock) {Sf' : Nat → Prop} {h' : H} {σ' : FSt} (F : FW h' Sf' f σ') (K : Kp Sf h Sf' h') :
    ∃ S', WT h' S' f c σ' κ n Sf' cm T clock ∧ Kp S h S' h' := by
  have sep : ∀ k, Sf' k → ¬ CB0.own c cm T k := fun k hk hk2 => by
    rcases K.own k hk with h | h
    · exact W.dis k h hk2
    · obtain ⟨o, ho⟩ := W.cb.ex k hk2; rw [h] at ho; cases ho
  refine ⟨fun k => Sf' k ∨ CB0.own c cm T k, ⟨F, W.cb.fr' K.fr fun k hk hs => W.dis k hs hk, sep, fun k => Iff.rfl, W.cc⟩, K.fr.mono fun k hk => (W.S k).2 (.inl hk), fun k hk => ?_⟩
  rcases hk with h | h
  · rcases K.own k h with h | h
    · exact .inl ((W.S k).2 (.inl h))
    · exact .inr h
  · exact .inl ((W.S k).2 (.inr h))
theorem WW.fs {h : H} {S : Nat → Prop} {f c : Nat} {σ : FSt} {κ : CSt} {n : Int} (W : WW h S f c σ κ n) : ∃ Sf, FW h Sf f σ ∧ (∀ k, Sf k → S k) ∧ ∀ Sf' h' σ', FW h' Sf' f σ' → Kp Sf h Sf' h' → ∃ S', WW h' S' f c σ' κ n ∧ Kp S h S' h' := by
  obtain ⟨Sf, cm, T, clock, W⟩ := W
  refine ⟨Sf, W.fs, fun k hk => (W.S k).2 (.inl hk), fun Sf' h' σ' F K => ?_⟩
  obtain ⟨S', W', K'⟩ := W.fsop F K
  exact ⟨S', ⟨Sf', cm, T, clock, W'⟩, K'⟩
theorem WT.cop {h : H} {S : Nat → Prop} {f c : Nat} {σ : FSt} {κ κ' : CSt} {n n' : Int} {Sf : Nat → Prop} {cm : Nat} {T T' : List CRow} {clock clock' : Int} (W : WT h S f c σ κ n Sf cm T clock) {h' : H} (C : CB0 h' c cm f κ'.most clock' T') (g : Fr (CB0.own c cm T) h h')
    (ho : ∀ k, CB0.own c cm T' k → CB0.own c cm T k ∨ h k = none) (cc : CC T' κ' clock' n') : ∃ S', WT h' S' f c σ κ' n' Sf cm T' clock' ∧ Kp S h S' h' := by
  refine ⟨fun k => Sf k ∨ CB0.own c cm T' k, ⟨W.fs.fr g fun k hk => W.dis k hk, C, fun k hk hk2 => ?_, fun k => Iff.rfl, cc⟩, g.mono fun k hk => (W.S k).2 (.inr hk), fun k hk => ?_⟩
  · rcases ho k hk2 with h | h
    · exact W.dis k hk h
    · obtain ⟨o, ho⟩ := W.fs.ex k hk; rw [h] at ho; cases ho
  · rcases hk with h | h
    · exact .inl ((W.S k).2 (.inl h))
    · rcases ho k h with h | h
      · exact .inl ((W.S k).2 (.inr h))
      · exact .inr h
theorem isAt_iff {nm : ByteArray} {i : Int} {x : Frm} : isAt nm i x = true ↔ x.name = nm ∧ x.i = i := by simp [isAt]
theorem get_none {T : List CRow} {κ : CSt} {nm : ByteArray} {i : Int} (hL : κ.L = T.map CRow.x) (h : ∀ t ∈ T, ¬ (t.x.name = nm ∧ t.x.i = i)) : κ.get nm i = none := by
  unfold CSt.get
  rw [hL, List.find?_eq_none]
  intro x hx
  obtain ⟨t, ht, rfl⟩ := List.mem_map.1 hx
  rw [isAt_iff]; exact h t ht
theorem get_some {A B : List CRow} {t : CRow} {κ : CSt} {nm : ByteArray} {i : Int} (hL : κ.L = (A ++ t :: B).map CRow.x) (hn : ((A ++ t :: B).map CRow.key).Nodup) (h : t.x.name = nm ∧ t.x.i = i) :
    κ.get nm i = some t.x ∧ κ.L.filter (fun y => !isAt nm i y) = (A ++ B).map CRow.x ∧ (∀ x ∈ A ++ B, isAt nm i x.x = false) := by
  have hkey : t.key = (nm, i) := by unfold CRow.key; rw [h.1, h.2]
  have hno : ∀ x ∈ A ++ B, isAt nm i x.x = false := by
    intro x hx
    rw [List.map_append, List.map_cons, List.nodup_append, List.nodup_cons] at hn
    rw [Bool.eq_false_iff, Ne, isAt_iff]
    intro e
    have hk : x.key = t.key := by rw [hkey]; unfold CRow.key; rw [e.1, e.2]
    rcases List.mem_append.1 hx with h1 | h1
    · exact hn.2.2 x.key (List.mem_map_of_mem h1) t.key (List.mem_cons_self ..) hk
    · exact hn.2.1.1 (hk ▸ List.mem_map_of_mem h1)
  have ht : isAt nm i t.x = true := isAt_iff.2 h
  refine ⟨?_, ?_, hno⟩
  · unfold CSt.get
    rw [hL, List.map_append, List.map_cons, List.find?_append]
    have : (A.map CRow.x).find? (isAt nm i) = none := List.find?_eq_none.2 fun x hx => by
      obtain ⟨a, ha, rfl⟩ := List.mem_map.1 hx
      rw [hno a (List.mem_append_left _ ha)]; decide
    rw [this, List.find?_cons, ht]; rfl
  · rw [hL, List.map_append, List.map_cons, List.filter_append, List.filter_cons, ht]
    have e : ∀ l : List CRow, (∀ x ∈ l, isAt nm i x.x = false) → (l.map CRow.x).filter (fun y => !isAt nm i y) = l.map CRow.x := fun l hl => by
      refine List.filter_eq_self.2 fun x hx => ?_
      obtain ⟨a, ha, rfl⟩ := List.mem_map.1 hx
      rw [hl a ha]; rfl
    rw [e A fun x hx => hno x (List.mem_append_left _ hx), e B fun x hx => hno x (List.mem_append_right _ hx), List.map_append]
    rfl
theorem own_mono {c cm : Nat} {T T' : List CRow} (h : ∀ t ∈ T', ∃ t' ∈ T, t'.b = t.b) : ∀ k, CB0.own c cm T' k → CB0.own c cm T k := by
  rintro k (h1 | h1 | ⟨t, ht, rfl⟩)
  · exact .inl h1
  · exact .inr (.inl h1)
  · obtain ⟨t', ht', e⟩ := h t ht
    exact .inr (.inr ⟨t', ht', e⟩)
theorem room_eq {T : List CRow} {κ : CSt} {clock n : Int} (C : CC T κ clock n) : κ.room = roomR κ.most T := by
  unfold CSt.room roomR
  rw [C.L, List.length_map, List.any_map]
  rfl
theorem find_i {h : H} {S : Nat → Prop} {f c : Nat} {σ : FSt} {κ : CSt} {n : Int} (W : WW h S f c σ κ n) (hn : n < 2305843009213693952) {nm : ByteArray} {i : Int} {Q : Option Addr × Int → HProp}
    (h1 : (getC σ κ nm i id).2.2.2 ≠ 0 → (∀ g, getC σ κ nm i g = getC σ κ nm i id) → ∀ S' h', WW h' S' f c (getC σ κ nm i id).1 (getC σ κ nm i id).2.1 n → Kp S h S' h' → Q (none, (getC σ κ nm i id).2.2.2) h')
    (h2 : ∀ σ' A t S' h' Sf cm clock, WT h' S' f c σ' { κ with L := (A ++ [t]).map CRow.x } (n + 1) Sf cm (A ++ [t]) clock → Kp S h S' h' → t.x.pins + 1 ≤ clock → (∀ g, getC σ κ nm i g = (σ', { κ with L := A.map CRow.x ++ [g t.x] }, t.x.data, 0)) → t.x.name = nm → t.x.i = i → Q (some (at0 t.b), 0) h') :
    cache_Cache_find (some (at0 c), nm, i) Q h := by
  obtain ⟨Sf, cm, T, clock, W⟩ := W
  have C := W.cb
  have cc := W.cc
  have hck := cc.ck
  unfold cache_Cache_find cache_Cache_find_F
  simp only [eqI_eq]
  refine cnone_i C (ite_f rfl (C.ldM (C.look (fun t ht en ei => ?_) fun hno => ?_)))
  · obtain ⟨A, B, rfl⟩ := List.append_of_mem ht
    refine with_u (ite_f (by rfl) (use_i C (by omega) fun h' C' g => ?_))
    have hpm : (A ++ { t with u := clock + 1 } :: B).Perm ((A ++ B) ++ [{ t with u := clock + 1 }]) := by
      refine List.perm_middle.trans ?_
      exact (List.perm_append_comm (l₁ := [{ t with u := clock + 1 }]) (l₂ := A ++ B))
    have C2 := C'.perm hpm
    obtain ⟨g1, g2, g3⟩ := get_some cc.L C.nd ⟨en, ei⟩
    have sub := mid_sub A t B
    have cc2 : CC ((A ++ B) ++ [{ t with u := clock + 1 }]) { κ with L := ((A ++ B) ++ [{ t with u := clock + 1 }]).map CRow.x } (clock + 1) (n + 1) := by
      refine ⟨rfl, ?_, fun x hx => ?_, by omega, cc.most, ?_, fun x hx => ?_, fun x hx => ?_⟩
      · refine List.pairwise_append.2 ⟨cc.rise.sublist sub, by simp, fun a ha b hb => ?_⟩
        have := cc.u a (sub.mem ha)
        simp at hb; subst hb
        show a.u < clock + 1
        omega
      · rcases List.mem_append.1 hx with h | h
        · have := cc.u x (sub.mem h); omega
        · simp at h; subst h; exact Int.le_refl _
      · have := cc.len
        simp only [List.length_append, List.length_cons, List.length_nil] at this ⊢
        exact this
      · rcases List.mem_append.1 hx with h | h
        · have := cc.pins x (sub.mem h); omega
        · simp at h; subst h
          have := cc.pins t ht
          show 0 ≤ t.x.pins ∧ t.x.pins ≤ _
          omega
      · rcases List.mem_append.1 hx with h | h
        · exact cc.data x (sub.mem h)
        · simp at h; subst h; exact cc.data t ht
    have hown : ∀ k, CB0.own c cm ((A ++ B) ++ [{ t with u := clock + 1 }]) k → CB0.own c cm (A ++ t :: B) k := own_mono fun x hx => by
      rcases List.mem_append.1 hx with h | h
      · exact ⟨x, sub.mem h, rfl⟩
      · simp at h; subst h; exact ⟨t, ht, rfl⟩
    obtain ⟨S', W', K'⟩ := W.cop (κ' := { κ with L := ((A ++ B) ++ [{ t with u := clock + 1 }]).map CRow.x }) C2 g (fun k hk => .inl (hown k hk)) cc2
    · refine h2 σ (A ++ B) { t with u := clock + 1 } S' h' Sf cm (clock + 1) W' K' (by have := cc.pins t ht; show t.x.pins + 1 ≤ _; omega) (fun g => ?_) en ei
      unfold getC CSt.use
      rw [g1, g2]
  · have hg := get_none cc.L hno
    have hroom := room_eq cc
    refine with_u (ite_t (by rfl) ?_)
    unfold cache_Cache_read cache_Cache_read_F
    simp only [eqI_eq]
    refine full_i C fun h0 E0 => ?_
    have C0 := C.ext E0
    have F0 := W.fs.ext E0
    have W0 : WT h0 S f c σ κ n Sf cm T clock := ⟨F0, C0, W.dis, W.S, cc⟩
    have K0 : Kp S h S h0 := Kp.ext E0
    refine ite_i (fun e => ?_) (fun e => ?_)
    · have hr : κ.room = false := by rw [hroom]; simpa using e
      have eg : ∀ g, getC σ κ nm i g = (σ, κ, ⟨#[]⟩, 70) := fun g => by
        unfold getC; rw [hg]; simp only []; rw [if_pos hr]
      rw [eg id] at h1
      exact ite_t (by rfl) (h1 (by simp) eg S h0 ⟨_, _, _, _, W0⟩ K0)
    · have hr : ¬ κ.room = false := by rw [hroom]; simpa using e
      refine deref_i (loadP_i (C0.obj.ld (j := 0) rfl) (read_i F0 fun h3 F3 K3 => ?_))
      obtain ⟨S3, W3, K3'⟩ := W0.fsop F3 K3
      have K03 := K0.trans K3'
      have eg1 : ∀ g, getC σ κ nm i g = if (σ.read nm i).2.2 ≠ 0 then ((σ.read nm i).1, κ, ⟨#[]⟩, (σ.read nm i).2.2) else match decP (σ.read nm i).2.1 with
          | none => ((σ.read nm i).1, κ, ⟨#[]⟩, 50)
          | some d => ((σ.read nm i).1, κ.add (g ⟨nm, i, d, 0⟩), d, 0) := fun g => by
        unfold getC; rw [hg]; simp only []; rw [if_neg hr]; rfl
      have hpg : (σ.read nm i).2.1.size ≤ 128 := by
        unfold FSt.read
        split
        · exact Nat.zero_le _
        · split
          · exact Nat.zero_le _
          · rename_i h4 h5
            have : (σ.rows nm).getD i.toNat ⟨#[]⟩ ∈ σ.rows nm := by
              have hl : i.toNat < (σ.rows nm).length := by omega
              rw [List.getD_eq_getElem?_getD, List.getElem?_eq_getElem hl]; exact List.getElem_mem hl
            have := W.fs.good.pages nm _ this
            show ((σ.rows nm).getD i.toNat ⟨#[]⟩).size ≤ 128
            omega
      generalize σ.read nm i = rd at *
      obtain ⟨σ', p, er⟩ := rd
      simp only at *
      refine ite_i (fun e => ?_) (fun e => ?_)
      · have e : er ≠ 0 := by simpa using e
        have eg : ∀ g, getC σ κ nm i g = (σ', κ, ⟨#[]⟩, er) := fun g => by rw [eg1, if_pos e]
        rw [eg id] at h1
        exact ite_t (by simpa using e) (h1 e eg S3 h3 ⟨_, _, _, _, W3⟩ K03)
      · have e : er = 0 := by simpa using e
        subst e
        refine pages_Decode_spec (by omega) fun h4 E4 => ?_
        have W4 : WT h4 S3 f c σ' κ n Sf cm T clock := ⟨W3.fs.ext E4, W3.cb.ext E4, W3.dis, W3.S, cc⟩
        have K04 := K03.trans (Kp.ext E4)
        cases hd : decP p with
        | none =>
          have eg : ∀ g, getC σ κ nm i g = (σ', κ, ⟨#[]⟩, 50) := fun g => by rw [eg1, hd]; rfl
          rw [eg id] at h1
          exact ite_t (by rfl) (ite_t (by rfl) (h1 (by simp) eg S3 h4 ⟨_, _, _, _, W4⟩ K04))
        | some d =>
          have hds : d.size ≤ 122 := by
            unfold decP at hd
            split at hd
            · rename_i hp
              cases hd
              rw [mkB_size]
              unfold isPage at hp
              simp only [Bool.and_eq_true, decide_eq_true_eq] at hp
              unfold dataP
              simp; omega
            · cases hd
          refine ite_f (by rfl) (come_i W4.cb cc.rise hno fun b h5 C5 hb g5 => ite_f (by rfl) ?_)
          have hck := cc.ck
          generalize hT' : (if (T.length : Int) ≥ κ.most then eraseR T else T) = T' at *
          have sub : T'.Sublist T := by rw [← hT']; split; exact eraseR_sub T; exact List.Sublist.refl _
          refine use_i (A := T') (B := []) (t := ⟨⟨nm, i, d, 0⟩, b, 0⟩) C5 (by omega) fun h6 C6 g6 => ?_
          have hlen : (T'.length : Int) + 1 ≤ κ.most := by
            have hl := cc.len
            by_cases e7 : (T.length : Int) ≥ κ.most
            · rw [if_pos e7] at hT'
              have : roomR κ.most T = true := by rw [← hroom]; simpa using hr
              unfold roomR at this
              rw [decide_eq_false (by omega), Bool.false_or, List.any_eq_true] at this
              obtain ⟨t0, ht0, hp0⟩ := this
              have : (eraseR T).length + 1 ≤ T.length := by
                have : ∀ l : List CRow, (∃ t ∈ l, t.x.pins = 0) → (eraseR l).length + 1 ≤ l.length := by
                  intro l
                  induction l with
                  | nil => rintro ⟨t, ht, _⟩; cases ht
                  | cons a r ih =>
                    rintro ⟨t, ht, hp⟩
                    simp only [eraseR]
                    split
                    · simp
                    · rename_i ha
                      have : t ∈ r := by
                        rcases List.mem_cons.1 ht with h | h
                        · subst h; exact absurd hp ha
                        · exact h
                      have := ih ⟨t, this, hp⟩
                      simp only [List.length_cons]; omega
                exact this T ⟨t0, ht0, of_decide_eq_true hp0⟩
              rw [hT'] at this
              omega
            · rw [if_neg e7] at hT'
              subst hT'; omega
          have cc6 : CC (T' ++ [⟨⟨nm, i, d, 0⟩, b, clock + 1⟩]) { κ with L := (T' ++ [(⟨⟨nm, i, d, 0⟩, b, clock + 1⟩ : CRow)]).map CRow.x } (clock + 1) (n + 1) := by
            refine ⟨rfl, ?_, fun x hx => ?_, by omega, cc.most, ?_, fun x hx => ?_, fun x hx => ?_⟩
            · refine List.pairwise_append.2 ⟨cc.rise.sublist sub, by simp, fun a ha x hx => ?_⟩
              have := cc.u a (sub.mem ha)
              simp at hx; subst hx
              show a.u < clock + 1
              omega
            · rcases List.mem_append.1 hx with h | h
              · have := cc.u x (sub.mem h); omega
              · simp at h; subst h; exact Int.le_refl _
            · simp only [List.length_append, List.length_cons, List.length_nil]
              show ((T'.length + 1 : Nat) : Int) ≤ κ.most
              omega
            · rcases List.mem_append.1 hx with h | h
              · have := cc.pins x (sub.mem h); omega
              · simp at h; subst h
                show (0 : Int) ≤ 0 ∧ (0 : Int) ≤ _
                omega
            · rcases List.mem_append.1 hx with h | h
              · exact cc.data x (sub.mem h)
              · simp at h; subst h; exact hds
          have hb4 : h4 b = none := hb
          have g46 : Fr (CB0.own c cm T) h4 h6 := by
            intro k o hk hs
            refine g6 k o (g5 k o hk hs) fun h => ?_
            rcases h with h | h | ⟨t, ht, e⟩
            · exact hs (.inl h)
            · exact hs (.inr (.inl h))
            · rcases List.mem_append.1 ht with h | h
              · exact hs (.inr (.inr ⟨t, sub.mem h, e⟩))
              · simp at h; subst h
                have e : b = k := e
                rw [← e, hb4] at hk; cases hk
          have hown : ∀ k, CB0.own c cm (T' ++ [(⟨⟨nm, i, d, 0⟩, b, clock + 1⟩ : CRow)]) k → CB0.own c cm T k ∨ h4 k = none := by
            rintro k (h | h | ⟨t, ht, rfl⟩)
            · exact .inl (.inl h)
            · exact .inl (.inr (.inl h))
            · rcases List.mem_append.1 ht with h | h
              · exact .inl (.inr (.inr ⟨t, sub.mem h, rfl⟩))
              · simp at h; subst h; exact .inr hb4
          obtain ⟨S6, W6, K6⟩ := W4.cop (κ' := { κ with L := (T' ++ [(⟨⟨nm, i, d, 0⟩, b, clock + 1⟩ : CRow)]).map CRow.x }) C6 g46 hown cc6
          refine h2 σ' T' ⟨⟨nm, i, d, 0⟩, b, clock + 1⟩ S6 h6 Sf cm (clock + 1) W6 (K04.trans K6) (by show (0 : Int) + 1 ≤ _; omega) (fun g => ?_) rfl rfl
          rw [eg1, hd]
          simp only [ne_eq, not_true_eq_false, if_false]
          unfold CSt.add
          rw [cc.L, List.length_map, ← hT']
          split
          · rw [eraseR_x]
          · rfl
end Go.Cz.S
namespace Go.Cz.S
open Go Go.Cz Go.Cz.Crc
set_option maxRecDepth 100000
set_option maxHeartbeats 1000000
set_option linter.unusedSimpArgs false
set_option linter.unusedVariables false
theorem pin_i {h : H} {S : Nat → Prop} {f c : Nat} {σ : FSt} {κ : CSt} {n : Int} (W : WW h S f c σ κ n) (hn : n < 2305843009213693952) {nm : ByteArray} {i : Int} {Q : ByteArray × Int → HProp}
    (hQ : ∀ S' h', WW h' S' f c (pinC σ κ nm i).1 (pinC σ κ nm i).2.1 (n + 1) → Kp S h S' h' → Q (pinC σ κ nm i).2.2 h') (hz : (pinC σ κ nm i).2.2.2 ≠ 0 → (pinC σ κ nm i).2.2.1 = ⟨#[]⟩) : cache_Cache_Pin (some (at0 c), nm, i) Q h := by
  unfold cache_Cache_Pin cache_Cache_Pin_F
  simp only [eqI_eq]
  refine find_i W hn (fun he hg S' h' W' K' => ?_) fun σ' A t S' h' Sf cm clock W' K' hp hg en ei => ?_
  · have e : pinC σ κ nm i = getC σ κ nm i id := hg _
    rw [e] at hQ hz
    refine ite_t (by simpa using he) ?_
    have := hQ S' h' (W'.mono (by omega)) K'
    have hz := hz he
    generalize getC σ κ nm i id = r at *
    obtain ⟨a, b, d, er⟩ := r
    simp only at *
    rw [hz] at this
    exact this
  · have e : pinC σ κ nm i = (σ', { κ with L := A.map CRow.x ++ [{ t.x with pins := t.x.pins + 1 }] }, t.x.data, 0) := hg _
    rw [e] at hQ
    have C := W'.cb
    have ht : t ∈ A ++ [t] := by simp
    have o := C.fr t ht
    have cc := W'.cc
    have hp0 := cc.pins t ht
    have hck := cc.ck
    refine ite_f (by rfl) (deref_i (loadI_i (n := t.x.pins) (o.ld (j := 1) rfl) (deref_i ?_)))
    rw [add_i64 (by omega) (by omega)]
    refine o.st (j := 1) (by simp [CRow.cells]) fun h2 o2 g2 => ?_
    have C2 : CB0 h2 c cm f κ.most clock (A ++ [{ t with x := { t.x with pins := t.x.pins + 1 } }]) := C.set (B := []) (t' := { t with x := { t.x with pins := t.x.pins + 1 } }) rfl rfl o2 g2
    have hown : ∀ k, CB0.own c cm (A ++ [{ t with x := { t.x with pins := t.x.pins + 1 } }]) k → CB0.own c cm (A ++ [t]) k := own_mono fun x hx => by
      rcases List.mem_append.1 hx with h | h
      · exact ⟨x, List.mem_append_left _ h, rfl⟩
      · simp at h; subst h; exact ⟨t, ht, rfl⟩
    have cc2 : CC (A ++ [{ t with x := { t.x with pins := t.x.pins + 1 } }]) { κ with L := (A ++ [{ t with x := { t.x with pins := t.x.pins + 1 } }]).map CRow.x } clock (n + 1) := by
      refine ⟨rfl, ?_, fun x hx => ?_, cc.ck, cc.most, ?_, fun x hx => ?_, fun x hx => ?_⟩
      · have := cc.rise
        unfold RiseR at *
        rw [List.pairwise_append] at this ⊢
        refine ⟨this.1, by simp, fun a ha x hx => ?_⟩
        simp at hx; subst hx
        exact this.2.2 a ha t (by simp)
      · rcases List.mem_append.1 hx with h | h
        · exact cc.u x (List.mem_append_left _ h)
        · simp at h; subst h; exact cc.u t ht
      · have := cc.len
        simp only [List.length_append, List.length_cons, List.length_nil] at this ⊢
        exact this
      · rcases List.mem_append.1 hx with h | h
        · exact cc.pins x (List.mem_append_left _ h)
        · simp at h; subst h
          show 0 ≤ t.x.pins + 1 ∧ t.x.pins + 1 ≤ clock
          omega
      · rcases List.mem_append.1 hx with h | h
        · exact cc.data x (List.mem_append_left _ h)
        · simp at h; subst h; exact cc.data t ht
    obtain ⟨S2, W2, K2⟩ := W'.cop (κ' := { κ with L := (A ++ [{ t with x := { t.x with pins := t.x.pins + 1 } }]).map CRow.x }) C2 (g2.mono fun k hk => .inr (.inr ⟨t, ht, hk.symm⟩)) (fun k hk => .inl (hown k hk)) cc2
    refine deref_i (loadS_i (n := t.x.data) (o2.ld (j := 0) rfl) (hQ S2 h2 ⟨Sf, cm, A ++ [{ t with x := { t.x with pins := t.x.pins + 1 } }], clock, ?_⟩ (K'.trans K2)))
    have : (A ++ [{ t with x := { t.x with pins := t.x.pins + 1 } }]).map CRow.x = A.map CRow.x ++ [{ t.x with pins := t.x.pins + 1 }] := by rw [List.map_append]; rfl
    rw [this] at W2
    exact W2
theorem getC_err (σ : FSt) (κ : CSt) (nm : ByteArray) (i : Int) (g : Frm → Frm) (h : (getC σ κ nm i g).2.2.2 ≠ 0) : (getC σ κ nm i g).2.2.1 = ⟨#[]⟩ := by
  cases hg : κ.get nm i with
  | some x =>
    have e : getC σ κ nm i g = (σ, κ.use nm i g, x.data, 0) := by unfold getC; rw [hg]
    rw [e] at h; exact absurd rfl h
  | none =>
    have e : getC σ κ nm i g = if κ.room = false then (σ, κ, ⟨#[]⟩, 70) else if (σ.read nm i).2.2 ≠ 0 then ((σ.read nm i).1, κ, ⟨#[]⟩, (σ.read nm i).2.2) else match decP (σ.read nm i).2.1 with
        | none => ((σ.read nm i).1, κ, ⟨#[]⟩, 50)
        | some d => ((σ.read nm i).1, κ.add (g ⟨nm, i, d, 0⟩), d, 0) := by
      unfold getC; rw [hg]; rfl
    rw [e] at h ⊢
    by_cases e1 : κ.room = false
    · rw [if_pos e1]
    · rw [if_neg e1] at h ⊢
      by_cases e2 : (σ.read nm i).2.2 ≠ 0
      · rw [if_pos e2]
      · rw [if_neg e2] at h ⊢
        cases e3 : decP (σ.read nm i).2.1 with
        | none => rfl
        | some d => rw [e3] at h; exact absurd rfl h
theorem Pin_i {h : H} {S : Nat → Prop} {f c : Nat} {σ : FSt} {κ : CSt} {n : Int} (W : WW h S f c σ κ n) (hn : n < 2305843009213693952) {nm : ByteArray} {i : Int} {Q : ByteArray × Int → HProp}
    (hQ : ∀ S' h', WW h' S' f c (pinC σ κ nm i).1 (pinC σ κ nm i).2.1 (n + 1) → Kp S h S' h' → Q (pinC σ κ nm i).2.2 h') : cache_Cache_Pin (some (at0 c), nm, i) Q h :=
  pin_i W hn hQ (getC_err σ κ nm i _)
theorem Unpin_i {h : H} {S : Nat → Prop} {f c : Nat} {σ : FSt} {κ : CSt} {n : Int} (W : WW h S f c σ κ n) (hn : n ≤ 2305843009213693952) {nm : ByteArray} {i : Int} {Q : Int → HProp}
    (hQ : ∀ S' h', WW h' S' f c σ (unpinC κ nm i).1 n → Kp S h S' h' → Q (unpinC κ nm i).2 h') : cache_Cache_Unpin (some (at0 c), nm, i) Q h := by
  obtain ⟨Sf, cm, T, clock, W⟩ := W
  have C := W.cb
  have cc := W.cc
  have hck := cc.ck
  unfold cache_Cache_Unpin cache_Cache_Unpin_F
  simp only [eqI_eq]
  refine cnone_i C (ite_f rfl (C.ldM (C.look (fun t ht en ei => ?_) fun hno => ?_)))
  · obtain ⟨A, B, rfl⟩ := List.append_of_mem ht
    obtain ⟨g1, g2, g3⟩ := get_some cc.L C.nd ⟨en, ei⟩
    have o := C.fr t ht
    have hp := cc.pins t ht
    refine with_b (decide (t.x.pins = 0)) (fun k hk => ite_f (by rfl) (deref_i (loadI_i (n := t.x.pins) (o.ld (j := 1) rfl) hk))) ?_
    refine ite_i (fun e => ?_) (fun e => ?_)
    · have e := of_decide_eq_true e
      have eu : unpinC κ nm i = (κ, 4) := by unfold unpinC; rw [g1]; simp only []; rw [if_pos e]
      rw [eu] at hQ
      exact hQ S h ⟨_, _, _, _, W⟩ (Kp.refl _ _)
    · have e := of_decide_eq_false e
      have eu : unpinC κ nm i = (κ.upd nm i fun x => { x with pins := x.pins - 1 }, 0) := by unfold unpinC; rw [g1]; simp only []; rw [if_neg e]
      rw [eu] at hQ
      refine deref_i (loadI_i (n := t.x.pins) (o.ld (j := 1) rfl) (deref_i ?_))
      rw [sub_i64 (by omega) (by omega)]
      refine o.st (j := 1) (by simp [CRow.cells]) fun h2 o2 g2' => ?_
      have C2 : CB0 h2 c cm f κ.most clock (A ++ { t with x := { t.x with pins := t.x.pins - 1 } } :: B) := C.set (t' := { t with x := { t.x with pins := t.x.pins - 1 } }) rfl rfl o2 g2'
      have cases' : ∀ x ∈ A ++ { t with x := { t.x with pins := t.x.pins - 1 } } :: B, x = { t with x := { t.x with pins := t.x.pins - 1 } } ∨ x ∈ A ++ t :: B := fun x hx => by
        rcases List.mem_append.1 hx with h | h
        · exact .inr (List.mem_append_left _ h)
        · rcases List.mem_cons.1 h with h | h
          · exact .inl h
          · exact .inr (List.mem_append_right _ (List.mem_cons_of_mem _ h))
      have hown : ∀ k, CB0.own c cm (A ++ { t with x := { t.x with pins := t.x.pins - 1 } } :: B) k → CB0.own c cm (A ++ t :: B) k := own_mono fun x hx => by
        rcases cases' x hx with rfl | h
        · exact ⟨t, ht, rfl⟩
        · exact ⟨x, h, rfl⟩
      have hL : (κ.upd nm i fun x => { x with pins := x.pins - 1 }).L = (A ++ { t with x := { t.x with pins := t.x.pins - 1 } } :: B).map CRow.x := by
        unfold CSt.upd
        show κ.L.map _ = _
        rw [cc.L, List.map_append, List.map_cons, List.map_append, List.map_append, List.map_cons, List.map_cons]
        have e1 : ∀ l : List CRow, (∀ x ∈ l, isAt nm i x.x = false) → (l.map CRow.x).map (fun x => if isAt nm i x = true then { x with pins := x.pins - 1 } else x) = l.map CRow.x := fun l hl => by
          rw [List.map_map]
          apply List.map_congr_left
          intro x hx
          show (if isAt nm i x.x = true then _ else _) = _
          rw [hl x hx]; rfl
        rw [e1 A fun x hx => g3 x (List.mem_append_left _ hx), e1 B fun x hx => g3 x (List.mem_append_right _ hx), if_pos (isAt_iff.2 ⟨en, ei⟩)]
      have cc2 : CC (A ++ { t with x := { t.x with pins := t.x.pins - 1 } } :: B) (κ.upd nm i fun x => { x with pins := x.pins - 1 }) clock n := by
        refine ⟨hL, ?_, fun x hx => ?_, cc.ck, cc.most, ?_, fun x hx => ?_, fun x hx => ?_⟩
        · have := cc.rise
          unfold RiseR at *
          rw [List.pairwise_append, List.pairwise_cons] at this ⊢
          refine ⟨this.1, this.2.1, fun a ha x hx => ?_⟩
          rcases List.mem_cons.1 hx with rfl | h
          · exact this.2.2 a ha t (List.mem_cons_self ..)
          · exact this.2.2 a ha x (List.mem_cons_of_mem _ h)
        · rcases cases' x hx with rfl | h
          · exact cc.u t ht
          · exact cc.u x h
        · have := cc.len
          simp only [List.length_append, List.length_cons] at this ⊢
          exact this
        · rcases cases' x hx with rfl | h
          · show 0 ≤ t.x.pins - 1 ∧ t.x.pins - 1 ≤ clock
            omega
          · exact cc.pins x h
        · rcases cases' x hx with rfl | h
          · exact cc.data t ht
          · exact cc.data x h
      obtain ⟨S2, W2, K2⟩ := W.cop (κ' := κ.upd nm i fun x => { x with pins := x.pins - 1 }) C2 (g2'.mono fun k hk => .inr (.inr ⟨t, ht, hk.symm⟩)) (fun k hk => .inl (hown k hk)) cc2
      exact hQ S2 h2 ⟨_, _, _, _, W2⟩ K2
  · have hg := get_none cc.L hno
    have eu : unpinC κ nm i = (κ, 4) := by unfold unpinC; rw [hg]
    rw [eu] at hQ
    exact with_b true (fun k hk => ite_t (by rfl) hk) (ite_t rfl (hQ S h ⟨_, _, _, _, W⟩ (Kp.refl _ _)))
end Go.Cz.S
namespace Go.Cz.S
open Go Go.Cz Go.Cz.Crc
set_option maxRecDepth 100000
set_option maxHeartbeats 1000000
set_option linter.unusedSimpArgs false
set_option linter.unusedVariables false
open Classical in
noncomputable def offH (S : Nat → Prop) (h : H) : H := fun k => if S k then none else h k
theorem offH_some {S : Nat → Prop} {h : H} {k : Nat} {o : Blk} (hk : h k = some o) (hs : ¬ S k) : offH S h k = some o := by unfold offH; rw [if_neg hs]; exact hk
theorem offH_of {S : Nat → Prop} {h : H} {k : Nat} {o : Blk} (hk : offH S h k = some o) : h k = some o ∧ ¬ S k := by
  unfold offH at hk
  split at hk
  · cases hk
  · rename_i hs; exact ⟨hk, hs⟩
abbrev Raw (h0 h : H) : Nat → Prop := fun k => h0 k = none ∧ ∃ T c, h k = some (.raw T c)
def BB (h0 h : H) (b : Nat) (t : List UInt8) : Prop := Bld h0 h b t ∧ ∀ k, h k = none → h0 k = none
theorem bb_new {h0 h : H} (N : ∀ k, h k = none → h0 k = none) {K : Nat → HProp} (hK : ∀ b h', BB h0 h' b [] → Ext h h' → K b h') : newRawW 135 [.pointer none, .slice none 0 0] K h := by
  unfold newRawW
  intro b hb
  refine hK b _ ⟨⟨none, ⟨none, 0, 0⟩, ⟨set_same _ _ _, .inl rfl, rfl, .inl ⟨rfl, rfl, rfl⟩⟩, N b hb, fun k hk => by obtain ⟨a, ha, _⟩ := hk; cases ha⟩, fun k hk => ?_⟩ (Ext.set hb)
  by_cases e : k = b
  · subst e; exact N k hb
  · rw [show (h.set b _) k = h k from if_neg e] at hk; exact N k hk
theorem set_none {h0 h : H} {b : Nat} {o : Blk} (N : ∀ k, h k = none → h0 k = none) : ∀ k, (h.set b o) k = none → h0 k = none := by
  intro k hk
  by_cases e : k = b
  · subst e; rw [set_same] at hk; cases hk
  · rw [show (h.set b o) k = h k from if_neg e] at hk; exact N k hk
theorem bb_write {h0 h : H} {b : Nat} {t : List UInt8} (B : BB h0 h b t) {s : ByteArray} (hb : t.length + s.size ≤ 140737488355328) {K : Int × Unit → HProp}
    (hK : ∀ h', BB h0 h' b (t ++ s.data.toList) → Fr (Raw h0 h) h h' → K (s.size, ()) h') : strings_Builder_WriteString (some ⟨b, 0, none⟩, s) K h := by
  obtain ⟨⟨q, v, B, n1, n2⟩, N⟩ := B
  unfold strings_Builder_WriteString
  have hsl : s.data.toList.length = s.size := size_data s
  have rb : Raw h0 h b := ⟨n1, _, _, B.blk⟩
  refine ⟨b, q, v, t, rfl, B, hb, fun hva hs0 => ?_, fun gb rest hva hg hle => ?_, fun gb rest hg => ?_⟩
  · have hs0 : s.size = 0 := hs0
    have ht : s.data.toList = [] := List.length_eq_zero_iff.1 (by omega)
    refine hK _ ⟨⟨some ⟨b, 0, none⟩, v, ⟨set_same _ _ _, .inr rfl, by rw [ht, List.append_nil]; exact B.len, ?_⟩, n1, n2⟩, set_none N⟩ (Fr.set.mono fun k hk => by subst hk; exact rb)
    rcases B.buf with ⟨e1, e2, e3⟩ | ⟨g', rest, e1, _⟩
    · exact .inl ⟨e1, e2, by rw [ht, e3]; rfl⟩
    · rw [hva] at e1; cases e1
  · have hle : s.size ≤ rest.length := hle
    have hgb : gb ≠ b := by
      rcases B.buf with ⟨e1, _⟩ | ⟨g', rest', e1, e2, _⟩
      · rw [hva] at e1; cases e1
      · rw [hva] at e1; cases e1; exact e2
    have hcap : v.cap = t.length + rest.length := by
      rcases B.buf with ⟨e1, _⟩ | ⟨g', rest', e1, e2, e3, e4⟩
      · rw [hva] at e1; cases e1
      · rw [hva] at e1; cases e1
        rw [hg] at e3
        have := congrArg (fun x : Option Blk => match x with | some (.raw _ c) => c.length | _ => 0) e3
        simp [u8s] at this
        omega
    refine hK _ ⟨⟨some ⟨b, 0, none⟩, ⟨v.a, v.len + s.size, v.cap⟩, ⟨set_same _ _ _, .inr rfl, by rw [List.length_append, hsl, B.len], .inr ⟨gb, rest.drop s.size, hva, hgb, ?_, ?_⟩⟩, n1, n2⟩, set_none (set_none N)⟩ ?_
    · rw [show ((h.set gb _).set b _) gb = (h.set gb _) gb from if_neg hgb]
      exact set_same _ _ _
    · simp [hsl]; omega
    · refine (Fr.set.mono fun k hk => ?_).trans (Fr.set.mono fun k hk => ?_)
      · subst hk; exact ⟨n2 _ ⟨_, hva, rfl⟩, _, _, hg⟩
      · subst hk; exact rb
  · have hgb : gb ≠ b := fun e => by subst e; have := B.blk; rw [hg] at this; cases this
    refine hK _ ⟨⟨some ⟨b, 0, none⟩, ⟨some ⟨gb, 0, none⟩, v.len + s.size, v.len + s.size + rest.length⟩, ⟨set_same _ _ _, .inr rfl, by rw [List.length_append, hsl, B.len], .inr ⟨gb, rest, rfl, hgb, ?_, ?_⟩⟩, n1, ?_⟩, set_none (set_none N)⟩ ?_
    · rw [show ((h.set gb _).set b _) gb = (h.set gb _) gb from if_neg hgb]
      exact set_same _ _ _
    · rw [List.length_append, hsl, B.len]
    · rintro k ⟨a, ha, rfl⟩
      cases ha; exact N _ hg
    · intro k o hk hr
      have k1 : k ≠ b := fun e => by subst e; exact hr rb
      have k2 : k ≠ gb := fun e => by subst e; rw [hg] at hk; cases hk
      simp [H.set, k1, k2, hk]
theorem bb_str {h0 h : H} {b : Nat} {t : List UInt8} (B : BB h0 h b t) (ht : t.length ≤ 140737488355328) {K : ByteArray → HProp}
    (hK : ∀ h', Fr (Raw h0 h) h h' → K (mkB t) h') : strings_Builder_String (some ⟨b, 0, none⟩) K h := by
  obtain ⟨⟨q, v, B, n1, n2⟩, N⟩ := B
  unfold strings_Builder_String
  refine ⟨b, q, v, t, rfl, B, ht, fun e => ?_, fun gb rest hne hva hg => ?_⟩
  · subst e; exact hK h (Fr.refl _ _)
  · exact hK _ (Fr.set.mono fun k hk => by subst hk; exact ⟨n2 _ ⟨_, hva, rfl⟩, _, _, hg⟩)
theorem WW.noraw {h : H} {S : Nat → Prop} {f c : Nat} {σ : FSt} {κ : CSt} {n : Int} (W : WW h S f c σ κ n) : ∀ k, S k → ∀ T cs, h k ≠ some (.raw T cs) := by
  obtain ⟨Sf, cm, T, clock, W⟩ := W
  intro k hk
  rcases (W.S k).1 hk with h | h
  · exact W.fs.nr k h
  · rcases h with rfl | rfl | ⟨t, ht, rfl⟩
    · exact W.cb.obj.nraw
    · exact W.cb.map.nraw
    · exact (W.cb.fr t ht).nraw
theorem BB.keep {h0 h h' : H} {S S' : Nat → Prop} {f c : Nat} {σ : FSt} {κ : CSt} {n : Int} {b : Nat} {t : List UInt8} (B : BB h0 h b t) (W : WW h S f c σ κ n) (K : Kp S h S' h') (N : ∀ k, h' k = none → h0 k = none) : BB h0 h' b t := by
  obtain ⟨⟨q, v, B, n1, n2⟩, _⟩ := B
  have st : ∀ k T cs, h k = some (.raw T cs) → h' k = some (.raw T cs) := fun k T cs hk => K.fr k _ hk fun hs => W.noraw k hs T cs hk
  refine ⟨⟨q, v, ⟨st _ _ _ B.blk, B.own, B.len, ?_⟩, n1, n2⟩, N⟩
  rcases B.buf with h | ⟨g, rest, e1, e2, e3, e4⟩
  · exact .inl h
  · exact .inr ⟨g, rest, e1, e2, st _ _ _ e3, e4⟩
theorem WW.raw {h0 h h' : H} {S : Nat → Prop} {f c : Nat} {σ : FSt} {κ : CSt} {n : Int} (W : WW h S f c σ κ n) (g : Fr (Raw h0 h) h h') : WW h' S f c σ κ n :=
  W.fr g fun k hk hr => by obtain ⟨_, T, cs, e⟩ := hr; exact W.noraw k hk T cs e
theorem Kp.raw {S0 S : Nat → Prop} {h0 h h' : H} (K : Kp S0 h0 S h) (g : Fr (Raw (offH S0 h0) h) h h') : Kp S0 h0 S h' :=
  ⟨fun k o hk hs => g k o (K.fr k o hk hs) (fun hr => by have := offH_some hk hs; rw [hr.1] at this; cases this), K.own⟩
theorem Kp.none {S0 S : Nat → Prop} {h0 h : H} (K : Kp S0 h0 S h) : ∀ k, h k = none → offH S0 h0 k = none := fun k hk => by
  cases e : offH S0 h0 k with
  | none => rfl
  | some o =>
    obtain ⟨h1, h2⟩ := offH_of e
    rw [K.fr k o h1 h2] at hk; cases hk
end Go.Cz.S
namespace Go.Cz.S
open Go Go.Cz Go.Cz.Crc
set_option maxRecDepth 100000
set_option maxHeartbeats 1000000
set_option linter.unusedSimpArgs false
set_option linter.unusedVariables false
theorem dec_size {p d : ByteArray} (h : decP p = some d) : d.size ≤ 122 := by
  unfold decP at h
  split at h
  · rename_i hp
    cases h
    rw [mkB_size]
    unfold isPage at hp
    simp only [Bool.and_eq_true, decide_eq_true_eq] at hp
    unfold dataP
    simp; omega
  · cases h
theorem getC_none {σ : FSt} {κ : CSt} {nm : ByteArray} {i : Int} (hg : κ.get nm i = none) (g : Frm → Frm) : getC σ κ nm i g = if κ.room = false then (σ, κ, ⟨#[]⟩, 70) else if (σ.read nm i).2.2 ≠ 0 then ((σ.read nm i).1, κ, ⟨#[]⟩, (σ.read nm i).2.2) else match decP (σ.read nm i).2.1 with
        | none => ((σ.read nm i).1, κ, ⟨#[]⟩, 50)
        | some d => ((σ.read nm i).1, κ.add (g ⟨nm, i, d, 0⟩), d, 0) := by
  unfold getC; rw [hg]; rfl
theorem getC_some {σ : FSt} {κ : CSt} {nm : ByteArray} {i : Int} {x : Frm} (hg : κ.get nm i = some x) (g : Frm → Frm) : getC σ κ nm i g = (σ, κ.use nm i g, x.data, 0) := by
  unfold getC; rw [hg]
theorem getC_size {h : H} {S : Nat → Prop} {f c : Nat} {σ : FSt} {κ : CSt} {n : Int} (W : WW h S f c σ κ n) (nm : ByteArray) (i : Int) (g : Frm → Frm) : (getC σ κ nm i g).2.2.1.size ≤ 122 := by
  obtain ⟨Sf, cm, T, clock, W⟩ := W
  cases hg : κ.get nm i with
  | some x =>
    rw [getC_some hg]
    have hx := List.mem_of_find?_eq_some hg
    rw [W.cc.L] at hx
    obtain ⟨t, ht, rfl⟩ := List.mem_map.1 hx
    exact W.cc.data t ht
  | none =>
    rw [getC_none hg]
    split
    · exact Nat.zero_le _
    · split
      · exact Nat.zero_le _
      · cases e3 : decP (σ.read nm i).2.1 with
        | none => exact Nat.zero_le _
        | some d => exact dec_size e3
theorem FW.pages {h : H} {S : Nat → Prop} {f : Nat} {σ : FSt} (F : FW h S f σ) {nm : ByteArray} {Q : Int → HProp} (hQ : Q ((σ.rows nm).length : Nat) h) : files_FS_Pages (some (at0 f), nm) Q h := by
  obtain ⟨⟨m, R, B, hS⟩, _⟩ := F
  exact B.pages hQ
theorem FW.few {h : H} {S : Nat → Prop} {f : Nat} {σ : FSt} (F : FW h S f σ) (nm : ByteArray) : (σ.rows nm).length ≤ 4096 := by
  have h1 := rows_le nm F.good.rise
  have h2 := F.good.used
  have h3 := F.good.room
  have e1 : σ.used = usedL σ.L := rfl
  have e2 : σ.rows nm = rowsL σ.L nm := rfl
  rw [e2]; omega
theorem WW.cfs {h : H} {S : Nat → Prop} {f c : Nat} {σ : FSt} {κ : CSt} {n : Int} (W : WW h S f c σ κ n) {Q : Option Addr → HProp} (hQ : Q (some (at0 f)) h) : cache_Cache_FS (some (at0 c)) Q h := by
  obtain ⟨Sf, cm, T, clock, W⟩ := W
  unfold cache_Cache_FS cache_Cache_FS_F
  exact cnone_i W.cb (ite_f rfl (deref_i (loadP_i (W.cb.obj.ld (j := 0) rfl) hQ)))
theorem page_i {h0 h : H} {S0 S : Nat → Prop} {f c : Nat} {σ : FSt} {κ : CSt} {n : Int} (W : WW h S f c σ κ n) (hn : n < 2305843009213693952) (K0 : Kp S0 h0 S h) {b : Nat} {d : List UInt8} (B : BB (offH S0 h0) h b d) (hd : d.length ≤ 1000000000) {nm : ByteArray} {i : Int} {Q : Int × Int → HProp}
    (h1 : (pinC σ κ nm i).2.2.2 ≠ 0 → ∀ S' h', WW h' S' f c (pinC σ κ nm i).1 (pinC σ κ nm i).2.1 (n + 1) → Kp S0 h0 S' h' → Q (0, (pinC σ κ nm i).2.2.2) h')
    (h2 : (pinC σ κ nm i).2.2.2 = 0 → ∀ S' h', WW h' S' f c (pinC σ κ nm i).1 (unpinC (pinC σ κ nm i).2.1 nm i).1 (n + 1) → Kp S0 h0 S' h' → BB (offH S0 h0) h' b (d ++ (pinC σ κ nm i).2.2.1.data.toList) → Q (((pinC σ κ nm i).2.2.1.size : Int), 0) h') : build_page (some (at0 c), nm, i, some ⟨b, 0, none⟩) Q h := by
  unfold build_page
  dsimp only
  simp only [eqI_eq]
  have hz : (pinC σ κ nm i).2.2.1.size ≤ 122 := getC_size W nm i _
  refine Pin_i W hn fun S1 h1' W1 K1 => ?_
  generalize pinC σ κ nm i = r at *
  obtain ⟨σ1, κ1, z, e⟩ := r
  simp only at *
  have K01 := K0.trans K1
  refine ite_i (fun he => ?_) (fun he => ?_)
  · have he : e = 0 := of_decide_eq_true he
    have B1 := B.keep W K1 (Kp.none K01)
    refine bb_write B1 (by omega) fun h2' B2 g2 => ?_
    have W2 := W1.raw g2
    have K02 := K01.raw g2
    refine Unpin_i W2 (by omega) fun S3 h3 W3 K3 => ?_
    have K03 := K02.trans K3
    exact h2 he S3 h3 W3 K03 (B2.keep W2 K3 (Kp.none K03))
  · have he : ¬ e = 0 := of_decide_eq_false he
    exact h1 he S1 h1' W1 K01
theorem fileGo_succ (nm : ByteArray) (many k : Nat) (f : FSt) (c : CSt) (d : List UInt8) (w : Bool) : fileGo nm many (k + 1) f c d w = (match pinC f c nm ((many - (k + 1) : Nat) : Int) with
    | (f', c', z, e) => if e ≠ 0 then (f', c', ⟨#[]⟩, e) else fileGo nm many k f' (unpinC c' nm ((many - (k + 1) : Nat) : Int)).1 (d ++ z.data.toList) (w && (decide (k = 0) || decide (z.size = 122)) && (decide (many = k + 1) || decide (0 < z.size)))) := rfl
theorem File_i {h : H} {S : Nat → Prop} {f c : Nat} {σ : FSt} {κ : CSt} {n : Int} (W : WW h S f c σ κ n) (hn : n + 5000 ≤ 2305843009213693952) {nm : ByteArray} {Q : ByteArray × Int → HProp}
    (hQ : ∀ S' h', WW h' S' f c (fileC σ κ nm).1 (fileC σ κ nm).2.1 (n + 4096) → Kp S h S' h' → (fileC σ κ nm).2.2.1.size ≤ 1000000 → Q (fileC σ κ nm).2.2 h') : build_File (some (at0 c), nm) Q h := by
  unfold build_File build_File_F
  simp only [eqI_eq, ltI_eq]
  have hfew : (σ.rows nm).length ≤ 4096 := by obtain ⟨Sf, F, _⟩ := W.fs; exact F.few nm
  refine W.cfs (ite_f (isNilP_some _) (W.cfs ?_))
  obtain ⟨Sf, F, _⟩ := W.fs
  refine F.pages ?_
  by_cases h0 : (σ.rows nm).length = 0
  · have e : fileC σ κ nm = (σ, κ, ⟨#[]⟩, 4) := by unfold fileC; rw [if_pos h0]
    rw [e] at hQ
    rw [h0]
    exact ite_t (by rfl) (hQ S h (W.mono (by omega)) (Kp.refl _ _) (Nat.zero_le _))
  · refine ite_f (decide_eq_false (by omega)) ?_
    have e0 : fileC σ κ nm = fileGo nm (σ.rows nm).length (σ.rows nm).length σ κ [] true := by unfold fileC; rw [if_neg h0]
    generalize (σ.rows nm).length = many at *
    rw [e0] at hQ
    refine bb_new (h0 := offH S h) (Kp.none (Kp.refl S h)) fun b h1 B1 E1 => ?_
    have W1 := W.ext E1
    have K1 : Kp S h S h1 := Kp.ext E1
    refine loop_i (fun (s : Bool × Int) h' => ∃ (j : Nat) (σj : FSt) (κj : CSt) (Sj : Nat → Prop) (d : List UInt8), s.2 = j ∧ j ≤ many ∧ WW h' Sj f c σj κj (n + j) ∧ Kp S h Sj h' ∧ BB (offH S h) h' b d ∧ d.length ≤ 122 * j ∧ fileGo nm many many σ κ [] true = fileGo nm many (many - j) σj κj d s.1) (fun s => (many - s.2).toNat)
      ⟨0, σ, κ, S, [], rfl, by omega, by simpa using W1, K1, B1, by simp, rfl⟩ ?_
    rintro ⟨w, i'⟩ h2 ⟨j, σj, κj, Sj, d, hj, hjm, Wj, Kj, Bj, hd, hgo⟩ k hk
    simp only at hj hgo
    subst hj
    dsimp only
    refine ite_i (fun e => ?_) (fun e => ?_)
    · have e := of_decide_eq_true e
      have hlt : j < many := by omega
      have hgo2 : fileGo nm many (many - j) σj κj d w = (match pinC σj κj nm (j : Int) with | (f', c', z, e) => if e ≠ 0 then (f', c', ⟨#[]⟩, e) else fileGo nm many (many - j - 1) f' (unpinC c' nm (j : Int)).1 (d ++ z.data.toList) (w && (decide (many - j - 1 = 0) || decide (z.size = 122)) && (decide (many = many - j - 1 + 1) || decide (0 < z.size)))) := by
        conv => lhs; rw [show many - j = (many - j - 1) + 1 by omega]
        rw [fileGo_succ, show many - (many - j - 1 + 1) = j by omega]
      rw [hgo2] at hgo
      refine page_i Wj (by omega) Kj Bj (by omega) (fun he S3 h3 W3 K3 => ?_) (fun he S3 h3 W3 K3 B3 => ?_)
      · refine ite_t (by simpa using he) ?_
        rw [hgo] at hQ
        generalize pinC σj κj nm (j : Int) = r at *
        obtain ⟨σ1, κ1, z, er⟩ := r
        simp only at *
        rw [if_pos he] at hQ
        exact hQ S3 h3 (W3.mono (by omega)) K3 (Nat.zero_le _)
      · have hz : (pinC σj κj nm (j : Int)).2.2.1.size ≤ 122 := getC_size Wj nm _ _
        refine ite_f (by rfl) ?_
        generalize pinC σj κj nm (j : Int) = r at *
        obtain ⟨σ1, κ1, z, er⟩ := r
        simp only at *
        rw [if_neg (by omega)] at hgo
        refine with_b (w && (decide (many - j - 1 = 0) || decide (z.size = 122)) && (decide (many = many - j - 1 + 1) || decide (0 < z.size))) (fun k2 hk2 => ?_) ?_
        · have hj0 : decide (many = many - j - 1 + 1) = decide (j = 0) := by rw [decide_eq_decide]; omega
          rw [hj0] at hk2
          rw [sub_i64 (by omega) (by omega)]
          refine ite_i (fun ew => ?_) (fun ew => ?_)
          · have ew : w = true := ew
            rw [ew, Bool.true_and] at hk2
            have tail : ∀ q : Bool, (q = (decide (j = 0) || decide (0 < z.size))) → k2 q h3 → iteW (decide ((j : Int) = 0)) (k2 true) (k2 (decide ((0 : Int) < z.size))) h3 := by
              intro q hq hkq
              refine ite_i (fun e1 => ?_) (fun e1 => ?_)
              · have e1 := of_decide_eq_true e1
                rw [decide_eq_true (by omega : j = 0), Bool.true_or] at hq
                rw [hq] at hkq; exact hkq
              · have e1 := of_decide_eq_false e1
                rw [decide_eq_false (by omega : ¬ j = 0), Bool.false_or] at hq
                have : decide ((0 : Int) < z.size) = decide (0 < z.size) := by rw [decide_eq_decide]; omega
                rw [this, ← hq]; exact hkq
            refine ite_i (fun e1 => ?_) (fun e1 => ?_)
            · have e1 := of_decide_eq_true e1
              rw [decide_eq_true (by omega : many - j - 1 = 0), Bool.true_or, Bool.true_and] at hk2
              exact tail _ rfl hk2
            · have e1 := of_decide_eq_false e1
              rw [decide_eq_false (by omega : ¬ many - j - 1 = 0), Bool.false_or] at hk2
              refine ite_i (fun e2 => ?_) (fun e2 => ?_)
              · have e2 := of_decide_eq_true e2
                rw [decide_eq_true (by omega : z.size = 122), Bool.true_and] at hk2
                exact tail _ rfl hk2
              · have e2 := of_decide_eq_false e2
                rw [decide_eq_false (by omega : ¬ z.size = 122), Bool.false_and] at hk2
                exact hk2
          · have ew : w = false := ew
            rw [ew, Bool.false_and, Bool.false_and] at hk2
            exact hk2
        rw [add_i64 (by omega) (by omega)]
        refine hk (_, _) h3 ⟨j + 1, σ1, (unpinC κ1 nm (j : Int)).1, S3, d ++ z.data.toList, by simp, by omega, ?_, K3, B3, ?_, ?_⟩ (by show (many - ((j : Int) + 1)).toNat < (many - (j : Int)).toNat; omega)
        · rw [show n + ((j + 1 : Nat) : Int) = n + j + 1 by omega]; exact W3
        · rw [List.length_append, size_data]; omega
        · rw [show many - (j + 1) = many - j - 1 by omega]; exact hgo
    · have e := of_decide_eq_false e
      have hjm2 : many - j = 0 := by omega
      rw [hjm2] at hgo
      rw [hgo] at hQ
      have Wf : WW h2 Sj f c σj κj (n + 4096) := Wj.mono (by omega)
      simp only [fileGo] at hQ
      cases w with
      | false => exact ite_t (by rfl) (hQ Sj h2 Wf Kj (Nat.zero_le _))
      | true =>
        refine ite_f (by rfl) (bb_str Bj (by omega) fun h3 g3 => ?_)
        exact hQ Sj h3 (Wf.raw g3) (Kj.raw g3) (by show (mkB d).size ≤ _; rw [mkB_size]; omega)
end Go.Cz.S
