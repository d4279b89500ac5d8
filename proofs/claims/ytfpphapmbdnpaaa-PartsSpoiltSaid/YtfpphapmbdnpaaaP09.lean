/- Part of the proof of a law of 09: an engine that runs a function over an abstract heap, and what the functions compute; own work. -/
import Derived.Test.YtfpphapmbdnpaaaD09
import Derived.Test.YtfpphapmbdnpaaaSpec1
set_option linter.unusedVariables false
set_option linter.unusedSimpArgs false
set_option linter.unusedSectionVars false
/- Chapter 9: what the functions of the parts compute, and the laws. -/
namespace Go.Cz.S
open Go Go.Cz
set_option linter.unusedSimpArgs false
set_option linter.unusedVariables false

def cutL (n s : Int) : List (Int × Int) := (List.range s.toNat).map fun k : Nat => ((k : Int) * n / s, ((k : Int) + 1) * n / s)
def badCut (n s : Int) : Bool := decide (n < 1 ∨ n > 256 ∨ s < 1 ∨ s > n ∨ s > 16)

theorem mulb {a b A B : Int} (h0 : 0 ≤ a) (h1 : a ≤ A) (h2 : 0 ≤ b) (h3 : b ≤ B) : 0 ≤ a * b ∧ a * b ≤ A * B :=
  ⟨Int.mul_nonneg h0 h2, Int.mul_le_mul h1 h3 h2 (Int.le_trans h0 h1)⟩

theorem parts_Cut_spec {n s : Int} {h : H} {Q : Sl × Int → HProp}
    (hbad : badCut n s = true → Q (⟨none, 0, 0⟩, 2) h)
    (hok : badCut n s = false → ∀ v h', Ext h h' → New h v → Vec h' v eP (cutL n s) → Q (v, 0) h') : parts_Cut (n, s) Q h := by
  unfold parts_Cut
  refine with_b (badCut n s) (fun k hk => ?_) ?_
  · simp only [ltI_eq, minI_eq]
    have hk2 : ∀ b, b = badCut n s → k b h := fun b e => by rw [e]; exact hk
    refine ite_i (fun e => hk2 _ ?_) (fun e1 => ite_i (fun e => hk2 _ ?_) (fun e2 => ite_i (fun e => hk2 _ ?_) (fun e3 => hk2 _ ?_)))
    · simp at e; symm; simp [badCut]; omega
    · simp at e; symm; simp [badCut]; omega
    · simp at e; symm; simp [badCut]; omega
    · simp at e1 e2 e3
      simp only [badCut, decide_eq_decide]
      split <;> omega
  · refine ite_i hbad (fun hb => ?_)
    have hb' := hb
    simp [badCut] at hb'
    obtain ⟨b1, b2, b3, b4, b5⟩ := hb'
    refine make_i (E := eP) (x0 := (0, 0)) rfl (by omega) (by omega) (by omega) (by omega) ?_
    intro v h1 V _ hn hext hva
    refine loop_i (fun i h2 => 0 ≤ i ∧ i ≤ s ∧ Ext h h2 ∧ ∃ l, l.length = s.toNat ∧ Vec h2 v eP l ∧ ∀ j, j < i.toNat → l[j]? = (cutL n s)[j]?) (fun i => (s - i).toNat)
      ⟨Int.le_refl _, by omega, hext, _, by simp, V, fun j hj => by simp at hj⟩ ?_
    rintro i h2 ⟨i0, i1, hx2, l, hl, V2, hj⟩ k hk
    have hvl : (v.len : Int) = s := by rw [V2.len, hl]; omega
    refine ite_i (fun e => ?_) (fun e => ?_)
    · rw [ltI_eq] at e
      have hi : i < s := by simpa [hvl] using e
      refine must_i (by show s ≠ 0; omega) (must_i (by show s ≠ 0; omega) ?_)
      refine V2.arr.index i0 (by omega) (fun a ha => ?_)
      have m1 := mulb i0 (A := 16) (by omega) (by omega : 0 ≤ n) (B := 256) (by omega)
      have m2 := mulb (a := i + 1) (A := 16) (by omega) (by omega) (by omega : 0 ≤ n) (B := 256) (by omega)
      show storesW a [.int .i64 (quo .i64 (mul .i64 i n) s), .int .i64 (quo .i64 (mul .i64 (add .i64 i 1) n) s)] _ _
      rw [add_i64 (by omega) (by omega), mul_i64 (by omega) (by omega), mul_i64 (by omega) (by omega), quo_i64 m1.1 (by omega) (by omega), quo_i64 m2.1 (by omega) (by omega)]
      refine V2.stores (x := (i * n / s, (i + 1) * n / s)) ha (by rw [hl]; omega) rfl (fun h3 V3 f3 => ?_)
      refine hk _ _ ⟨by omega, by omega, hx2.of_new f3 hn, _, by simpa using hl, V3, fun j hj2 => ?_⟩ (by omega)
      by_cases e2 : j = i.toNat
      · subst e2
        rw [List.getElem?_set_self (by rw [hl]; omega)]
        have : i.toNat < s.toNat := by omega
        have e3 : ((i.toNat : Nat) : Int) = i := by omega
        simp only [cutL, List.getElem?_map, List.getElem?_range this, Option.map_some, e3]
      · rw [List.getElem?_set_ne (by omega)]
        exact hj j (by omega)
    · rw [ltI_eq] at e
      have hi : i = s := by have := of_decide_eq_false e; omega
      have : l = cutL n s := by
        apply List.ext_getElem?
        intro j
        by_cases h3 : j < i.toNat
        · exact hj j h3
        · rw [List.getElem?_eq_none (by omega), List.getElem?_eq_none (by simp [cutL]; omega)]
      subst this
      exact hok hb v h2 hx2 hn V2

theorem ref09_Cut_spec {n s : Int} {h : H} {Q : Sl × Int → HProp}
    (hbad : badCut n s = true → Q (⟨none, 0, 0⟩, 2) h)
    (hok : badCut n s = false → ∀ v h', Ext h h' → New h v → Vec h' v eP (cutL n s) → Q (v, 0) h') : ref09_Cut (n, s) Q h := by
  unfold ref09_Cut
  refine with_b (badCut n s) (fun k hk => ?_) ?_
  · simp only [ltI_eq]
    have hk2 : ∀ b, b = badCut n s → k b h := fun b e => by rw [e]; exact hk
    refine ite_i (fun e => hk2 _ ?_) (fun e1 => ite_i (fun e => hk2 _ ?_) (fun e2 => ite_i (fun e => hk2 _ ?_) (fun e3 => ite_i (fun e => hk2 _ ?_) (fun e4 => hk2 _ ?_))))
    · simp at e; symm; simp [badCut]; omega
    · simp at e; symm; simp [badCut]; omega
    · simp at e; symm; simp [badCut]; omega
    · simp at e; symm; simp [badCut]; omega
    · simp at e1 e2 e3 e4
      simp only [badCut, decide_eq_decide]
      omega
  · refine ite_i hbad (fun hb => ?_)
    have hb' := hb
    simp [badCut] at hb'
    obtain ⟨b1, b2, b3, b4, b5⟩ := hb'
    refine loop_i (fun (t : Sl × Int) h2 => 0 ≤ t.2 ∧ t.2 ≤ s ∧ Ext h h2 ∧ New h t.1 ∧ Vec h2 t.1 eP ((cutL n s).take t.2.toNat)) (fun t => (s - t.2).toNat)
      ⟨Int.le_refl _, by show 0 ≤ s; omega, Ext.refl h, New.nil0, Vec.nil0⟩ ?_
    rintro ⟨v, i⟩ h2 ⟨i0, i1, hx2, nw, V2⟩ k hk
    simp only at i0 i1 nw V2
    refine ite_i (fun e => ?_) (fun e => ?_)
    · rw [ltI_eq] at e
      have hi : i < s := by simpa using e
      have m1 := mulb i0 (A := 16) (by omega) (by omega : 0 ≤ n) (B := 256) (by omega)
      have m2 := mulb (a := i + 1) (A := 16) (by omega) (by omega) (by omega : 0 ≤ n) (B := 256) (by omega)
      refine must_i (by show s ≠ 0; omega) (must_i (by show s ≠ 0; omega) ?_)
      show appendW v _ _ _ [.int .i64 (quo .i64 (mul .i64 i n) s), .int .i64 (quo .i64 (mul .i64 (add .i64 i 1) n) s)] _ _
      rw [add_i64 (by omega) (by omega), mul_i64 (by omega) (by omega), mul_i64 (by omega) (by omega), quo_i64 m1.1 (by omega) (by omega), quo_i64 m2.1 (by omega) (by omega)]
      have hll : ((cutL n s).take i.toNat).length = i.toNat := by simp [cutL]; omega
      refine V2.append_new hx2 nw (m := [(i * n / s, (i + 1) * n / s)]) rfl rfl rfl (by rw [hll]; omega) ?_
      intro u h3 V3 hx3 nw3 _ _
      refine hk _ _ ⟨by show 0 ≤ i + 1; omega, by show i + 1 ≤ s; omega, hx3, nw3, ?_⟩ (by show (s - (i + 1)).toNat < (s - i).toNat; omega)
      show Vec h3 u eP ((cutL n s).take (i + 1).toNat)
      rw [show (i + 1).toNat = i.toNat + 1 by omega, List.take_add_one]
      have : i.toNat < s.toNat := by omega
      have e3 : ((i.toNat : Nat) : Int) = i := by omega
      simpa [cutL, List.getElem?_range this, e3] using V3
    · rw [ltI_eq] at e
      have hi : i = s := by have := of_decide_eq_false e; simp only at this; omega
      subst hi
      rw [List.take_of_length_le (by simp [cutL])] at V2
      exact hok hb v h2 hx2 nw V2

theorem law09_Same_spec {a b : Sl} {l m : List (Int × Int)} {h : H} {Q : Bool → HProp} (A : Arr h a eP l) (B : Arr h b eP m) (hl : l.length ≤ 140737488355328) (hQ : Q (decide (l = m)) h) : law09_Same (a, b) Q h := by
  unfold law09_Same
  have la := A.len
  have lb := B.len
  simp only
  rw [eqI_eq]
  refine ite_i (fun e => ?_) (fun e => ?_)
  · have : l ≠ m := by rintro rfl; simp [la, lb] at e
    rw [decide_eq_false this] at hQ; exact hQ
  · have hlm : l.length = m.length := by simp at e; omega
    refine loop_i (fun i h2 => 0 ≤ i ∧ i ≤ l.length ∧ h2 = h ∧ l.take i.toNat = m.take i.toNat) (fun i => (l.length - i).toNat) ⟨Int.le_refl _, by omega, rfl, by simp⟩ ?_
    rintro i h2 ⟨i0, i1, rfl, hj⟩ k hk
    rw [ltI_eq]
    refine ite_i (fun e => ?_) (fun e => ?_)
    · have hi : i.toNat < l.length := by simp at e; omega
      refine A.index i0 (by omega) (fun p hp => ?_)
      have hx : l[i.toNat]? = some l[i.toNat] := by simp [hi]
      have hy : m[i.toNat]? = some m[i.toNat] := by simp [hlm ▸ hi]
      refine loadI_i (A.cell (j := 0) hp hx rfl) (loadI_i (A.cell (j := 1) hp hx rfl) ?_)
      refine B.index i0 (by omega) (fun q hq => ?_)
      refine loadI_i (B.cell (j := 0) hq hy rfl) (loadI_i (B.cell (j := 1) hq hy rfl) ?_)
      simp only [eqPairs, eqI_eq]
      refine ite_i (fun e2 => ?_) (fun e2 => ?_)
      · have : l ≠ m := by rintro rfl; simp at e2
        rw [decide_eq_false this] at hQ; exact hQ
      · rw [add_i64 (by omega) (by omega)]
        refine hk _ _ ⟨by omega, by omega, rfl, ?_⟩ (by omega)
        rw [show (i + 1).toNat = i.toNat + 1 by omega, List.take_add_one, List.take_add_one, hj, hx, hy]
        simp at e2
        rw [show l[i.toNat] = m[i.toNat] from Prod.ext e2.1 e2.2]
    · have hi : l.length ≤ i.toNat := by simp at e; omega
      have : l = m := by
        rw [List.take_of_length_le hi, List.take_of_length_le (by omega)] at hj; exact hj
      rw [decide_eq_true this] at hQ; exact hQ

def ofL (l : List (Int × Int)) (v : Int) : Int := match l.findIdx? (fun p => decide (p.1 ≤ v) && decide (v < p.2)) with | some i => i | none => -1
theorem findIdx_at {α : Type} {p : α → Bool} {l : List α} {i : Nat} (hi : i < l.length) (hp : p l[i] = true) (hb : ∀ j, j < i → ∀ x, l[j]? = some x → p x = false) : l.findIdx? p = some i := by
  rw [List.findIdx?_eq_some_iff_getElem]
  refine ⟨hi, hp, fun j hj => ?_⟩
  have := hb j hj l[j] (by simp [Nat.lt_trans hj hi])
  simp [this]
theorem findIdx_none {α : Type} {p : α → Bool} {l : List α} (hb : ∀ (j : Nat) x, l[j]? = some x → p x = false) : l.findIdx? p = none := by
  rw [List.findIdx?_eq_none_iff]
  intro x hx
  obtain ⟨j, hj⟩ := List.mem_iff_getElem?.1 hx
  exact hb j x hj

theorem slices_IndexFunc_spec {a : Sl} {l : List (Int × Int)} {h : H} {f : Int × Int → (Bool → HProp) → HProp} {p : Int × Int → Bool} {Q : Int → HProp} (A : Arr h a eP l) (hl : l.length ≤ 140737488355328)
    (hf : ∀ x Q, Q (p x) h → f x Q h) (hQ : Q (match l.findIdx? p with | some i => i | none => -1) h) : slices_IndexFunc_api_Part_api_Part (a, f) Q h := by
  unfold slices_IndexFunc_api_Part_api_Part
  have la := A.len
  refine loop_i (fun i h2 => 0 ≤ i ∧ i ≤ l.length ∧ h2 = h ∧ ∀ j, j < i.toNat → ∀ x, l[j]? = some x → p x = false) (fun i => (l.length - i).toNat) ⟨Int.le_refl _, by omega, rfl, by simp⟩ ?_
  rintro i h2 ⟨i0, i1, rfl, hj⟩ k hk
  rw [ltI_eq]
  refine ite_i (fun e => ?_) (fun e => ?_)
  · have hi : i.toNat < l.length := by simp at e; omega
    refine A.index i0 (by omega) (fun q hq => ?_)
    have hx : l[i.toNat]? = some l[i.toNat] := by simp [hi]
    refine loadI_i (A.cell (j := 0) hq hx rfl) (loadI_i (A.cell (j := 1) hq hx rfl) ?_)
    refine hf _ _ ?_
    refine ite_i (fun e2 => ?_) (fun e2 => ?_)
    · rw [findIdx_at hi e2 hj] at hQ
      have e3 : ((i.toNat : Nat) : Int) = i := by omega
      simpa [e3] using hQ
    · rw [add_i64 (by omega) (by omega)]
      refine hk _ _ ⟨by omega, by omega, rfl, fun j hj2 x hx2 => ?_⟩ (by omega)
      by_cases e3 : j = i.toNat
      · subst e3; rw [hx] at hx2; cases hx2; exact e2
      · exact hj j (by omega) x hx2
  · have hi : l.length ≤ i.toNat := by simp at e; omega
    rw [findIdx_none (fun j x hx => hj j (by have := (List.getElem?_eq_some_iff.1 hx).1; omega) x hx)] at hQ
    exact hQ
theorem parts_Of_spec {a : Sl} {l : List (Int × Int)} {v : Int} {h : H} {Q : Int → HProp} (A : Arr h a eP l) (hl : l.length ≤ 140737488355328) (hQ : Q (ofL l v) h) : parts_Of (a, v) Q h := by
  unfold parts_Of
  refine slices_IndexFunc_spec (p := fun p => decide (p.1 ≤ v) && decide (v < p.2)) A hl ?_ hQ
  intro x Q hQ
  unfold parts_vertex_in
  refine with_u ?_
  simp only [leI_eq, ltI_eq]
  refine ite_i (fun e => ?_) (fun e => ?_)
  · rw [e] at hQ; simpa using hQ
  · rw [e] at hQ; simpa using hQ
theorem ref09_Of_spec {a : Sl} {l : List (Int × Int)} {v : Int} {h : H} {Q : Int → HProp} (A : Arr h a eP l) (hl : l.length ≤ 140737488355328) (hQ : Q (ofL l v) h) : ref09_Of (a, v) Q h := by
  unfold ref09_Of
  have la := A.len
  refine loop_i (fun i h2 => 0 ≤ i ∧ i ≤ l.length ∧ h2 = h ∧ ∀ j, j < i.toNat → ∀ x, l[j]? = some x → (fun p : Int × Int => decide (p.1 ≤ v) && decide (v < p.2)) x = false) (fun i => (l.length - i).toNat) ⟨Int.le_refl _, by omega, rfl, by simp⟩ ?_
  rintro i h2 ⟨i0, i1, rfl, hj⟩ k hk
  simp only [ltI_eq, leI_eq]
  refine ite_i (fun e => ?_) (fun e => ?_)
  · have hi : i.toNat < l.length := by simp at e; omega
    have hx : l[i.toNat]? = some l[i.toNat] := by simp [hi]
    refine with_b ((fun p : Int × Int => decide (p.1 ≤ v) && decide (v < p.2)) l[i.toNat]) (fun k2 hk2 => ?_) ?_
    · refine A.index i0 (by omega) (fun q hq => loadI_i (A.cell (j := 0) hq hx rfl) ?_)
      refine ite_i (fun e2 => ?_) (fun e2 => ?_)
      · refine A.index i0 (by omega) (fun q hq => loadI_i (A.cell (j := 1) hq hx rfl) ?_)
        simp only [e2] at hk2; simpa using hk2
      · simp only [e2] at hk2; simpa using hk2
    refine ite_i (fun e2 => ?_) (fun e2 => ?_)
    · unfold ofL at hQ
      rw [findIdx_at hi e2 hj] at hQ
      have e3 : ((i.toNat : Nat) : Int) = i := by omega
      simpa [e3] using hQ
    · rw [add_i64 (by omega) (by omega)]
      refine hk _ _ ⟨by omega, by omega, rfl, fun j hj2 x hx2 => ?_⟩ (by omega)
      by_cases e3 : j = i.toNat
      · subst e3; rw [hx] at hx2; cases hx2; exact e2
      · exact hj j (by omega) x hx2
  · have hi : l.length ≤ i.toNat := by simp at e; omega
    unfold ofL at hQ
    rw [findIdx_none (fun j x hx => hj j (by have := (List.getElem?_eq_some_iff.1 hx).1; omega) x hx)] at hQ
    exact hQ

def walkL : Int → List (Int × Int) → Option Int
  | a, [] => some a
  | a, p :: r => if p.1 = a ∧ a < p.2 then walkL p.2 r else none
def checkL (n : Int) (l : List (Int × Int)) : Int := if 1 ≤ n ∧ n ≤ 256 ∧ l.length ≤ 16 ∧ walkL 0 l = some n then 0 else 2
def at_ (l : List (Int × Int)) (i : Nat) : Int × Int := l.getD i (0, 0)
theorem at_some {l : List (Int × Int)} {i : Nat} (h : i < l.length) : l[i]? = some (at_ l i) := by simp [at_, h]
theorem walk_iff : ∀ (l : List (Int × Int)) (a n : Int), walkL a l = some n ↔
    (∀ i, i < l.length → (at_ l i).1 = (if i = 0 then a else (at_ l (i - 1)).2) ∧ (at_ l i).1 < (at_ l i).2) ∧ n = (if l.length = 0 then a else (at_ l (l.length - 1)).2)
  | [], a, n => by simp [walkL]; exact eq_comm
  | p :: r, a, n => by
    simp only [walkL]
    by_cases hp : p.1 = a ∧ a < p.2
    · rw [if_pos hp, walk_iff r p.2 n]
      constructor
      · rintro ⟨h1, h2⟩
        refine ⟨fun i hi => ?_, ?_⟩
        · cases i with
          | zero => simp [at_]; omega
          | succ i =>
            have := h1 i (by simpa using hi)
            cases i with
            | zero => simpa [at_] using this
            | succ i => simpa [at_] using this
        · rw [h2]
          cases r with
          | nil => simp [at_]
          | cons q r => simp [at_]
      · rintro ⟨h1, h2⟩
        refine ⟨fun i hi => ?_, ?_⟩
        · have := h1 (i + 1) (by simpa using hi)
          cases i with
          | zero => simpa [at_] using this
          | succ i => simpa [at_] using this
        · rw [h2]
          cases r with
          | nil => simp [at_]
          | cons q r => simp [at_]
    · rw [if_neg hp]
      constructor
      · intro h; cases h
      · rintro ⟨h1, h2⟩
        have := h1 0 (by simp)
        simp [at_] at this
        omega

theorem parts_Check_spec {n : Int} {a : Sl} {l : List (Int × Int)} {h : H} {Q : Int → HProp} (A : Arr h a eP l) (hQ : Q (checkL n l) h) : parts_Check (n, a) Q h := by
  unfold parts_Check
  have la := A.len
  refine with_b (decide (n < 1 ∨ 256 < n ∨ 16 < l.length)) (fun k hk => ?_) ?_
  · simp only [ltI_eq]
    have hk2 : ∀ b, b = decide (n < 1 ∨ 256 < n ∨ 16 < l.length) → k b h := fun b e => by rw [e]; exact hk
    refine ite_i (fun e => hk2 _ ?_) (fun e1 => ite_i (fun e => hk2 _ ?_) (fun e2 => hk2 _ ?_))
    · simp at e; symm; simp; omega
    · simp at e; symm; simp; omega
    · simp at e1 e2; simp only [decide_eq_decide, la]; omega
  refine ite_i (fun e => ?_) (fun e => ?_)
  · have : checkL n l = 2 := by
      unfold checkL; rw [if_neg]
      simp at e; omega
    rw [this] at hQ; exact hQ
  · simp at e
    obtain ⟨e1, e2, e3⟩ := e
    refine loop_i (fun (t : Int × Int) h2 => 0 ≤ t.2 ∧ t.2 ≤ l.length ∧ h2 = h ∧ walkL 0 l = walkL t.1 (l.drop t.2.toNat)) (fun t => (l.length - t.2).toNat) ⟨Int.le_refl _, by simp, rfl, by simp⟩ ?_
    rintro ⟨b, i⟩ h2 ⟨i0, i1, rfl, hj⟩ k hk
    simp only at i0 i1 hj
    simp only [ltI_eq, leI_eq, eqI_eq]
    refine ite_i (fun e => ?_) (fun e => ?_)
    · have hi : i.toNat < l.length := by simp at e; omega
      have hx : l[i.toNat]? = some l[i.toNat] := by simp [hi]
      rw [List.drop_eq_getElem_cons hi] at hj
      simp only [walkL] at hj
      refine A.index i0 (by omega) (fun q hq => loadI_i (A.cell (j := 0) hq hx rfl) (loadI_i (A.cell (j := 1) hq hx rfl) ?_))
      refine with_b (decide (l[i.toNat].1 ≠ b ∨ l[i.toNat].2 ≤ b)) (fun k2 hk2 => ?_) ?_
      · refine ite_i (fun e2 => ?_) (fun e2 => ?_)
        · simp at e2; rw [decide_eq_true (.inl e2)] at hk2; exact hk2
        · simp at e2; simpa [e2] using hk2
      refine ite_i (fun e2 => ?_) (fun e2 => ?_)
      · rw [if_neg (by simp at e2; omega)] at hj
        have : checkL n l = 2 := by unfold checkL; rw [hj]; simp
        rw [this] at hQ; exact hQ
      · rw [if_pos (by simp at e2; omega)] at hj
        rw [add_i64 (by omega) (by omega)]
        refine hk _ _ ⟨by show 0 ≤ i + 1; omega, by show i + 1 ≤ _; omega, rfl, ?_⟩ (by show (l.length - (i + 1)).toNat < (l.length - i).toNat; omega)
        rw [hj]; show _ = walkL _ (l.drop (i + 1).toNat)
        rw [show (i + 1).toNat = i.toNat + 1 by omega]
    · have hi : l.length ≤ i.toNat := by simp at e; omega
      rw [List.drop_eq_nil_of_le hi] at hj
      simp only [walkL] at hj
      refine ite_i (fun e4 => ?_) (fun e4 => ?_)
      · simp at e4
        have : checkL n l = 2 := by unfold checkL; rw [hj, if_neg]; rintro ⟨_, _, _, h⟩; cases h; exact e4 rfl
        rw [this] at hQ; exact hQ
      · simp at e4
        have : checkL n l = 0 := by unfold checkL; rw [hj, if_pos ⟨e1, e2, by omega, by rw [e4]⟩]
        rw [this] at hQ; exact hQ

theorem ref09_Check_spec {n : Int} {a : Sl} {l : List (Int × Int)} {h : H} {Q : Int → HProp} (A : Arr h a eP l) (hQ : Q (checkL n l) h) : ref09_Check (n, a) Q h := by
  unfold ref09_Check
  have la := A.len
  refine with_b (decide (n < 1 ∨ 256 < n ∨ l.length < 1 ∨ 16 < l.length ∨ (at_ l 0).1 ≠ 0 ∨ (at_ l (l.length - 1)).2 ≠ n)) (fun k hk => ?_) ?_
  · simp only [ltI_eq, eqI_eq]
    have hk2 : ∀ b, b = decide (n < 1 ∨ 256 < n ∨ l.length < 1 ∨ 16 < l.length ∨ (at_ l 0).1 ≠ 0 ∨ (at_ l (l.length - 1)).2 ≠ n) → k b h := fun b e => by rw [e]; exact hk
    refine ite_i (fun e => hk2 _ ?_) (fun e1 => ite_i (fun e => hk2 _ ?_) (fun e2 => ite_i (fun e => hk2 _ ?_) (fun e3 => ite_i (fun e => hk2 _ ?_) (fun e4 => ?_))))
    · simp at e; symm; simp; omega
    · simp at e; symm; simp; omega
    · simp [la] at e; symm; exact decide_eq_true (.inr (.inr (.inl (by omega))))
    · simp at e; symm; simp; omega
    · simp at e1 e2 e3 e4
      have hx := at_some (l := l) (i := 0) (by omega)
      refine A.index (by omega) (by omega) (fun q hq => loadI_i (A.cell (j := 0) hq hx rfl) ?_)
      refine ite_i (fun e => hk2 _ ?_) (fun e5 => ?_)
      · simp at e; symm; simp [e]
      · have hy := at_some (l := l) (i := l.length - 1) (by omega)
        simp only [la]
        rw [sub_i64 (by omega) (by omega)]
        refine A.index (by omega) (by omega) (fun q hq => ?_)
        rw [show ((l.length : Int) - 1).toNat = l.length - 1 by omega] at hq
        refine loadI_i (A.cell (j := 1) hq hy rfl) (hk2 _ ?_)
        simp at e5
        simp only [e5]
        rw [← decide_not, decide_eq_decide]
        have : l.length ≠ 0 := by omega
        constructor
        · intro h; right; right; right; right; right; exact h
        · rintro (h | h | h | h | h | h)
          · omega
          · omega
          · omega
          · omega
          · exact absurd rfl h
          · exact h
  refine ite_i (fun e => ?_) (fun e => ?_)
  · have : checkL n l = 2 := by
      unfold checkL; rw [if_neg]
      rintro ⟨h1, h2, h3, h4⟩
      obtain ⟨h5, h6⟩ := (walk_iff l 0 n).1 h4
      simp at e
      by_cases h0 : l.length = 0
      · rw [if_pos h0] at h6; omega
      · rw [if_neg h0] at h6
        have := h5 0 (by omega)
        simp at this
        rcases e with h | h | h | h | h | h
        · omega
        · omega
        · exact h0 (by rw [h]; rfl)
        · omega
        · exact h this.1
        · exact h h6.symm
    rw [this] at hQ; exact hQ
  · simp only [decide_eq_false_iff_not, not_or, Decidable.not_not] at e
    obtain ⟨e1, e2, e3, e4, e5, e6⟩ := e
    refine loop_i (fun (i : Int) h2 => 0 ≤ i ∧ i ≤ l.length ∧ h2 = h ∧ ∀ j, j < i.toNat → (at_ l j).1 < (at_ l j).2 ∧ (0 < j → (at_ l j).1 = (at_ l (j - 1)).2)) (fun i => (l.length - i).toNat) ⟨Int.le_refl _, by omega, rfl, by simp⟩ ?_
    rintro i h2 ⟨i0, i1, rfl, hj⟩ k hk
    simp only [ltI_eq, leI_eq, eqI_eq]
    refine ite_i (fun e => ?_) (fun e => ?_)
    · have hi : i.toNat < l.length := by simp at e; omega
      have hx := at_some hi
      refine with_b (decide ((at_ l i.toNat).2 ≤ (at_ l i.toNat).1 ∨ 0 < i.toNat ∧ (at_ l i.toNat).1 ≠ (at_ l (i.toNat - 1)).2)) (fun k2 hk2 => ?_) ?_
      · refine A.index i0 (by omega) (fun q hq => loadI_i (A.cell (j := 0) hq hx rfl) ?_)
        refine A.index i0 (by omega) (fun q hq => loadI_i (A.cell (j := 1) hq hx rfl) ?_)
        refine ite_i (fun e7 => ?_) (fun e7 => ?_)
        · have e7 := of_decide_eq_true e7
          rw [decide_eq_true (.inl e7)] at hk2; exact hk2
        · have e7 := of_decide_eq_false e7
          refine ite_i (fun e8 => ?_) (fun e8 => ?_)
          · have e8 := of_decide_eq_true e8
            have hy := at_some (l := l) (i := i.toNat - 1) (by omega)
            refine A.index i0 (by omega) (fun q hq => loadI_i (A.cell (j := 0) hq hx rfl) ?_)
            rw [sub_i64 (by omega) (by omega)]
            refine A.index (by omega) (by omega) (fun q hq => ?_)
            rw [show (i - 1).toNat = i.toNat - 1 by omega] at hq
            refine loadI_i (A.cell (j := 1) hq hy rfl) ?_
            have : (decide ((at_ l i.toNat).2 ≤ (at_ l i.toNat).1 ∨ 0 < i.toNat ∧ (at_ l i.toNat).1 ≠ (at_ l (i.toNat - 1)).2)) = !decide ((at_ l i.toNat).1 = (at_ l (i.toNat - 1)).2) := by
              rw [← decide_not, decide_eq_decide]
              constructor
              · rintro (h | h); exact absurd h e7; exact h.2
              · intro h; exact .inr ⟨by omega, h⟩
            rw [this] at hk2; exact hk2
          · have e8 := of_decide_eq_false e8
            rw [decide_eq_false (by rintro (h | h); exact e7 h; omega)] at hk2; exact hk2
      refine ite_i (fun e7 => ?_) (fun e7 => ?_)
      · have e7 := of_decide_eq_true e7
        have : checkL n l = 2 := by
          unfold checkL; rw [if_neg]
          rintro ⟨_, _, _, h4⟩
          obtain ⟨h5, h6⟩ := (walk_iff l 0 n).1 h4
          have := h5 i.toNat hi
          rcases e7 with h | h
          · omega
          · rw [if_neg (by omega)] at this; exact h.2 this.1
        rw [this] at hQ; exact hQ
      · have e7 := of_decide_eq_false e7
        rw [add_i64 (by omega) (by omega)]
        refine hk _ _ ⟨by omega, by omega, rfl, fun j hj2 => ?_⟩ (by omega)
        by_cases e8 : j = i.toNat
        · subst e8
          refine ⟨by omega, fun h9 => ?_⟩
          by_cases h10 : (at_ l i.toNat).1 = (at_ l (i.toNat - 1)).2
          · exact h10
          · exact absurd (.inr ⟨h9, h10⟩) e7
        · exact hj j (by omega)
    · have hi : l.length ≤ i.toNat := by simp at e; omega
      have : checkL n l = 0 := by
        unfold checkL; rw [if_pos]
        refine ⟨by omega, by omega, by omega, (walk_iff l 0 n).2 ⟨fun j hj2 => ?_, ?_⟩⟩
        · have := hj j (by omega)
          by_cases h0 : j = 0
          · subst h0; exact ⟨by simpa using e5, this.1⟩
          · rw [if_neg h0]; exact ⟨this.2 (by omega), this.1⟩
        · rw [if_neg (by omega)]; exact e6.symm
      rw [this] at hQ; exact hQ

theorem law09_does_spec {h : H} {Q : Bool → HProp} (hQ : ∀ h', Ext h h' → Q true h') : law09_does () Q h := by
  unfold law09_does
  refine parts_Cut_spec (fun e => absurd e (by decide)) (fun _ v h1 x1 n1 V1 => ?_)
  have ec : cutL 10 3 = [(0, 3), (3, 6), (6, 10)] := by decide
  rw [ec] at V1
  refine parts_Cut_spec (fun _ => ?_) (fun e => absurd e (by decide))
  refine with_i (fun b h' => b = true ∧ Ext h1 h') (fun k hk => ?_) ?_
  · simp only [eqI_eq]
    refine ite_t (by decide) (new_i (E := eP) (l := [(0, 3), (3, 6), (6, 10)]) rfl rfl fun b h2 V2 n2 x2 => ?_)
    refine law09_Same_spec (V1.arr.ext x2) V2.arr (by decide) (ite_t (by decide) (ite_t (by decide) ?_))
    refine parts_Of_spec (V1.arr.ext x2) (by decide) (ite_t (by decide) ?_)
    refine parts_Of_spec (V1.arr.ext x2) (by decide) (ite_t (by decide) ?_)
    refine parts_Check_spec (V1.arr.ext x2) (ite_t (by decide) ?_)
    refine (V1.arr.ext x2).slice rfl (by decide) (by decide) (by decide) (fun u A _ _ _ => ?_)
    exact parts_Check_spec A (hk _ _ ⟨by decide, x2⟩)
  · rintro b h' ⟨rfl, hx⟩
    exact hQ h' (x1.trans hx)

theorem Arr.nil0 {α : Type} {h : H} {E : Enc α} : Arr h ⟨none, 0, 0⟩ E [] := Vec.nil0.arr

/-! ## the laws -/
theorem law09_PartsCut_holds (n s : Int) (h : H) : law09_PartsCut (n, s) (fun r _ => r = true) h := by
  unfold law09_PartsCut
  have fin : ∀ (k : Bool → HProp) (h1 : H), (∀ a h', a = true → k a h') → law09_does () k h1 := fun k h1 hk => law09_does_spec fun h' _ => hk true h' rfl
  refine parts_Cut_spec (fun e => ?_) (fun e v h1 x1 n1 V1 => ?_)
  · refine ref09_Cut_spec (fun _ => ?_) (fun e2 => by rw [e] at e2; cases e2)
    refine with_i (fun b _ => b = true) (fun k hk => ?_) (fun a h' e => e)
    simp only [eqI_eq]
    exact ite_t rfl (law09_Same_spec (l := []) (m := []) Arr.nil0 Arr.nil0 (by decide) (ite_t rfl (fin _ _ hk)))
  · refine ref09_Cut_spec (fun e2 => by rw [e] at e2; cases e2) (fun _ u h2 x2 n2 V2 => ?_)
    refine with_i (fun b _ => b = true) (fun k hk => ?_) (fun a h' e => e)
    simp only [eqI_eq]
    refine ite_t rfl (law09_Same_spec (V1.arr.ext x2) V2.arr ?_ (ite_t (by simp) (fin _ _ hk)))
    simp [badCut] at e
    simp [cutL]; omega

theorem law09_PartsAsk_holds (n v : Int) (a : Sl) (l : List (Int × Int)) (h : H) (A : Arr h a eP l) : law09_PartsAsk (n, a, v) (fun r _ => r = true) h := by
  unfold law09_PartsAsk
  have la := A.len
  simp only [ltI_eq, eqI_eq]
  refine ite_i (fun _ => trivial) (fun e => ?_)
  have e := of_decide_eq_false e
  have hl : l.length ≤ 60 := by omega
  refine A.row rfl ?_
  refine (Vec.nil0 (E := eP)).append_new (Ext.refl h) New.nil0 (m := l) rfl rfl la.symm (by simp [la]; omega) ?_
  intro u h1 V1 x1 n1 _ _
  simp only [List.nil_append] at V1
  refine with_i (fun b _ => b = true) (fun k hk => ?_) (fun a h' e => e)
  refine parts_Of_spec V1.arr (by omega) (ref09_Of_spec (A.ext x1) (by omega) (ite_t (by simp) ?_))
  refine parts_Check_spec V1.arr (ref09_Check_spec (A.ext x1) (ite_t (by simp) ?_))
  exact law09_Same_spec V1.arr (A.ext x1) (by omega) (ite_t (by simp) (law09_does_spec fun h' _ => hk true h' rfl))

/-! ### cut in parts -/
theorem div_lo {x y K : Int} (hK : 0 < K) : x / K + y / K ≤ (x + y) / K := by
  rw [Int.le_ediv_iff_mul_le hK, Int.add_mul]
  have h1 := Int.ediv_mul_le x (Int.ne_of_gt hK)
  have h2 := Int.ediv_mul_le y (Int.ne_of_gt hK)
  omega
theorem div_hi {x y K : Int} (hK : 0 < K) : (x + y) / K ≤ x / K + (y + K - 1) / K := by
  have h1 := Int.lt_ediv_add_one_mul_self x hK
  have h2 := Int.lt_ediv_add_one_mul_self (y + K - 1) hK
  rw [Int.add_mul, Int.one_mul] at h1 h2
  apply Int.le_of_lt_add_one
  rw [Int.ediv_lt_iff_lt_mul hK, Int.add_mul, Int.add_mul]
  omega
theorem cut_len (n s : Int) : (cutL n s).length = s.toNat := by simp [cutL]
theorem cut_at {n s : Int} {i : Nat} (h : i < s.toNat) : at_ (cutL n s) i = ((i : Int) * n / s, ((i : Int) + 1) * n / s) := by
  simp [at_, cutL, List.getD, List.getElem?_range h]
theorem cut_size {n s : Int} (hs : 0 < s) (i : Nat) : n / s ≤ ((i : Int) + 1) * n / s - (i : Int) * n / s ∧ ((i : Int) + 1) * n / s - (i : Int) * n / s ≤ (n + s - 1) / s := by
  have h1 := div_lo (x := (i : Int) * n) (y := n) hs
  have h2 := div_hi (x := (i : Int) * n) (y := n) hs
  rw [show (i : Int) * n + n = ((i : Int) + 1) * n by rw [Int.add_mul, Int.one_mul]] at h1 h2
  omega
theorem cut_check {n s : Int} (h1 : 1 ≤ s) (h2 : s ≤ n) (h3 : n ≤ 256) (h4 : s ≤ 16) : checkL n (cutL n s) = 0 := by
  unfold checkL
  rw [if_pos]
  refine ⟨by omega, h3, by rw [cut_len]; omega, (walk_iff _ _ _).2 ⟨fun i hi => ?_, ?_⟩⟩
  · rw [cut_len] at hi
    have hd : 1 ≤ n / s := by rw [Int.le_ediv_iff_mul_le (by omega)]; omega
    have := (cut_size (n := n) (s := s) (by omega) i).1
    rw [cut_at hi]
    refine ⟨?_, by simp only; omega⟩
    by_cases h0 : i = 0
    · subst h0; simp
    · rw [if_neg h0, cut_at (by omega)]
      simp only
      rw [show ((i - 1 : Nat) : Int) + 1 = i by omega]
  · rw [cut_len, if_neg (by omega), cut_at (by omega)]
    simp only
    rw [show ((s.toNat - 1 : Nat) : Int) + 1 = s by omega, Int.mul_ediv_cancel_left _ (by omega)]

theorem law09_PartsAlike_holds (n s : Int) (h : H) (n0 : 0 ≤ n) (n1 : n ≤ 255) (s0 : 0 ≤ s) (s1 : s ≤ 255) : law09_PartsAlike (n, s) (fun r _ => r = true) h := by
  unfold law09_PartsAlike
  simp only [rem_nn s0, cnv_i64 (show -9223372036854775808 ≤ n by omega) (by omega), cnv_i64 (show -9223372036854775808 ≤ s by omega) (by omega), ltI_eq, eqI_eq]
  have r0 : 0 ≤ s % 16 ∧ s % 16 < 16 := ⟨by omega, by omega⟩
  rw [add_i64 (a := 1) (b := n) (by omega) (by omega), add_i64 (a := 1) (b := s % 16) (by omega) (by omega)]
  generalize hM : 1 + n = M
  generalize hKs : 1 + s % 16 = K
  have fin : ∀ (h1 : H), law09_does () (fun r _ => r = true) h1 := fun h1 => law09_does_spec fun h' _ => rfl
  refine must_i (by decide) ?_
  refine parts_Cut_spec (fun e => ?_) (fun e v h1 x1 n1' V1 => ?_)
  · simp [badCut] at e
    refine ite_t (by simp; omega) ?_
    refine with_i (fun b _ => b = true) (fun k hk => ?_) (fun a h' e => e)
    exact ite_t rfl (ite_t rfl (law09_does_spec fun h' _ => hk true h' rfl))
  · simp [badCut] at e
    have hlen := V1.len
    rw [cut_len] at hlen
    refine ite_f (by simp; omega) ?_
    refine with_b false (fun k hk => ?_) ?_
    · refine ite_f rfl (ite_f (by simp; omega) (parts_Check_spec V1.arr ?_))
      rw [cut_check (by omega) (by omega) (by omega) (by omega)]; exact hk
    refine ite_f rfl ?_
    refine loop_i (fun (i : Int) h2 => 0 ≤ i ∧ i ≤ K ∧ h2 = h1) (fun i => (K - i).toNat) ⟨Int.le_refl _, by omega, rfl⟩ ?_
    rintro i h2 ⟨i0, i1, rfl⟩ k hk
    refine ite_i (fun e2 => ?_) (fun e2 => fin _)
    have e2 := of_decide_eq_true e2
    have hi : i.toNat < (cutL M K).length := by rw [cut_len]; omega
    have hx := at_some hi
    rw [cut_at (by omega), show ((i.toNat : Nat) : Int) = i by omega] at hx
    refine V1.arr.index i0 (by omega) (fun q hq => loadI_i (V1.arr.cell (j := 1) hq hx rfl) ?_)
    refine V1.arr.index i0 (by omega) (fun q hq => loadI_i (V1.arr.cell (j := 0) hq hx rfl) ?_)
    have sz := cut_size (n := M) (s := K) (by omega) i.toNat
    rw [show ((i.toNat : Nat) : Int) = i by omega] at sz
    have q1 := Int.ediv_le_self (a := M) K (by omega)
    have q2 : 0 ≤ M / K := Int.ediv_nonneg (by omega) (by omega)
    have q3 := Int.ediv_le_self (a := M + K - 1) K (by omega)
    refine with_b false (fun k2 hk2 => ?_) ?_
    · refine must_i (by omega) ?_
      rw [sub_i64 (a := (i + 1) * M / K) (by omega) (by omega), quo_i64 (by omega) (by omega) (by omega), add_i64 (a := M) (by omega) (by omega), sub_i64 (a := M + K) (by omega) (by omega), quo_i64 (by omega) (by omega) (by omega)]
      refine ite_f (by simp; omega) (must_i (by omega) ?_)
      rw [decide_eq_false (by omega)]; exact hk2
    refine ite_f rfl ?_
    rw [add_i64 (by omega) (by omega)]
    exact hk _ _ ⟨by omega, by omega, rfl⟩ (by omega)

/-! ### parts by their sizes -/
def size1 (z : Int) : Int := 1 + z % 16
def buildL : Int → List Int → List (Int × Int)
  | _, [] => []
  | n, z :: r => (n, n + size1 z) :: buildL (n + size1 z) r
def totalL : Int → List Int → Int
  | n, [] => n
  | n, z :: r => totalL (n + size1 z) r
theorem build_append : ∀ (l m : List Int) (n : Int), buildL n (l ++ m) = buildL n l ++ buildL (totalL n l) m
  | [], m, n => rfl
  | z :: r, m, n => by simp [buildL, totalL, build_append r m]
theorem total_append : ∀ (l m : List Int) (n : Int), totalL n (l ++ m) = totalL (totalL n l) m
  | [], m, n => rfl
  | z :: r, m, n => by simp [totalL, total_append r m]
theorem build_len : ∀ (l : List Int) (n : Int), (buildL n l).length = l.length
  | [], n => rfl
  | z :: r, n => by simp [buildL, build_len r]
theorem size_pos (z : Int) : 1 ≤ size1 z ∧ size1 z ≤ 16 := by unfold size1; omega
theorem total_bd : ∀ (l : List Int) (n : Int), n + l.length ≤ totalL n l ∧ totalL n l ≤ n + 16 * l.length
  | [], n => by simp [totalL]
  | z :: r, n => by
    have := total_bd r (n + size1 z)
    have := size_pos z
    simp only [totalL, List.length_cons]
    omega
theorem build_walk : ∀ (l : List Int) (n : Int), walkL n (buildL n l) = some (totalL n l)
  | [], n => rfl
  | z :: r, n => by
    have := size_pos z
    simp only [buildL, walkL, totalL]
    rw [if_pos ⟨trivial, by omega⟩, build_walk r]
theorem walk_mem : ∀ (l : List (Int × Int)) (a n : Int), walkL a l = some n → a ≤ n ∧ ∀ p ∈ l, a ≤ p.1 ∧ p.1 < p.2 ∧ p.2 ≤ n
  | [], a, n, h => by simp [walkL] at h; subst h; simp
  | p :: r, a, n, h => by
    simp only [walkL] at h
    split at h
    · rename_i hp
      obtain ⟨h1, h2⟩ := walk_mem r p.2 n h
      refine ⟨by omega, fun q hq => ?_⟩
      rcases List.mem_cons.1 hq with rfl | hq
      · omega
      · have := h2 q hq; omega
    · cases h
theorem walk_has : ∀ (l : List (Int × Int)) (a n u : Int), walkL a l = some n → a ≤ u → u < n → ∃ p ∈ l, p.1 ≤ u ∧ u < p.2
  | [], a, n, u, h, h1, h2 => by simp [walkL] at h; omega
  | p :: r, a, n, u, h, h1, h2 => by
    simp only [walkL] at h
    split at h
    · rename_i hp
      by_cases hu : u < p.2
      · exact ⟨p, by simp, by omega, hu⟩
      · obtain ⟨q, hq, h3⟩ := walk_has r p.2 n u h (by omega) h2
        exact ⟨q, by simp [hq], h3⟩
    · cases h
theorem of_pos {l : List (Int × Int)} {v : Int} (h : 0 ≤ ofL l v) : (ofL l v).toNat < l.length ∧ (at_ l (ofL l v).toNat).1 ≤ v ∧ v < (at_ l (ofL l v).toNat).2 := by
  unfold ofL at h ⊢
  cases hf : l.findIdx? (fun p => decide (p.1 ≤ v) && decide (v < p.2)) with
  | none => rw [hf] at h; simp at h
  | some i =>
    obtain ⟨h1, h2, _⟩ := List.findIdx?_eq_some_iff_getElem.1 hf
    simp at h2
    simp [at_, h1]
    exact h2
theorem of_has {l : List (Int × Int)} {v : Int} {p : Int × Int} (hp : p ∈ l) (h1 : p.1 ≤ v) (h2 : v < p.2) : 0 ≤ ofL l v := by
  unfold ofL
  cases hf : l.findIdx? (fun p => decide (p.1 ≤ v) && decide (v < p.2)) with
  | none =>
    have := List.findIdx?_eq_none_iff.1 hf p hp
    simp [h1, h2] at this
  | some i => simp

/-- the loop that makes parts of sizes -/
theorem parts_loop {a : Sl} {zs : List Int} {h : H} {K : Sl × Int × Int → HProp} {body : Sl × Int × Int → (Sl × Int × Int → HProp) → HProp} (A : Arr h a (eI .u8) zs) (hz : ∀ z ∈ zs, 0 ≤ z ∧ z ≤ 255)
    (hbody : ∀ s k, body s k = withK (fun (t_1 : Bool) =>
        iteW t_1
          (indexW s.snd.snd a 1 fun (a : Addr) =>
            loadI IntKind.u8 a fun (x : Int) =>
              mustW ((16 : Int) ≠ 0)
                (appendW s.fst [Value.int IntKind.i64 0, Value.int IntKind.i64 0] 16 1
                  [Value.int IntKind.i64 s.snd.fst,
                    Value.int IntKind.i64 (add IntKind.i64 s.snd.fst (add IntKind.i64 1 (rem (cnv IntKind.i64 x) 16)))]
                  fun (u : Sl) =>
                  k
                    (u, add IntKind.i64 s.snd.fst (add IntKind.i64 1 (rem (cnv IntKind.i64 x) 16)),
                      add IntKind.i64 s.snd.snd 1)))
          (K s))
      fun (k : Bool → HProp) => iteW (ltI s.snd.snd ↑a.len) (k (ltI s.snd.snd 16)) (k false))
    (hK : ∀ v h' i, Ext h h' → New h v → Vec h' v eP (buildL 0 (zs.take 16)) → K (v, totalL 0 (zs.take 16), i) h') : loopW (⟨none, 0, 0⟩, 0, 0) body h := by
  have la := A.len
  refine loop_i (fun (t : Sl × Int × Int) h2 => 0 ≤ t.2.2 ∧ t.2.2 ≤ zs.length ∧ t.2.2 ≤ 16 ∧ t.2.1 = totalL 0 (zs.take t.2.2.toNat) ∧ Ext h h2 ∧ New h t.1 ∧ Vec h2 t.1 eP (buildL 0 (zs.take t.2.2.toNat))) (fun t => (16 - t.2.2).toNat)
    ⟨Int.le_refl _, by simp, by simp, by simp [totalL], Ext.refl h, New.nil0, by simpa [buildL] using Vec.nil0⟩ ?_
  rintro ⟨v, n, i⟩ h2 ⟨i0, i1, i2, en, x2, nw, V2⟩ k hk
  simp only at i0 i1 i2 en x2 nw V2
  rw [hbody]
  simp only [ltI_eq]
  refine with_b (decide (i < zs.length ∧ i < 16)) (fun k2 hk2 => ?_) ?_
  · refine ite_i (fun e => ?_) (fun e => ?_)
    · have e := of_decide_eq_true e
      rw [show decide (i < 16) = decide (i < zs.length ∧ i < 16) by rw [decide_eq_decide]; omega]
      exact hk2
    · have e := of_decide_eq_false e
      rw [decide_eq_false (by omega)] at hk2; exact hk2
  refine ite_i (fun e => ?_) (fun e => ?_)
  · have e := of_decide_eq_true e
    have hi : i.toNat < zs.length := by omega
    have hx : zs[i.toNat]? = some zs[i.toNat] := by simp [hi]
    have hzb := hz _ (List.getElem_mem hi)
    refine (A.ext x2).index i0 (by omega) (fun q hq => ?_)
    have hc := (A.ext x2).cell (j := 0) hq hx rfl
    rw [add0] at hc
    refine loadI_i hc (must_i (by decide) ?_)
    have bd := total_bd (zs.take i.toNat) 0
    rw [List.length_take, Nat.min_eq_left (by omega)] at bd
    have sp := size_pos zs[i.toNat]
    have es : add .i64 n (add .i64 1 (rem (cnv .i64 zs[i.toNat]) 16)) = n + size1 zs[i.toNat] := by
      rw [cnv_i64 (by omega) (by omega), rem_nn hzb.1, add_i64 (a := 1) (b := zs[i.toNat] % 16) (by omega) (by omega), add_i64 (by unfold size1 at sp; omega) (by unfold size1 at sp; omega)]
      rfl
    simp only [es]
    have et : zs.take (i + 1).toNat = zs.take i.toNat ++ [zs[i.toNat]] := by
      rw [show (i + 1).toNat = i.toNat + 1 by omega, List.take_add_one, hx]; rfl
    refine V2.append_new x2 nw (m := [(n, n + size1 zs[i.toNat])]) rfl rfl rfl (by rw [build_len, List.length_take]; omega) ?_
    intro u h3 V3 x3 nw3 _ _
    rw [add_i64 (by omega) (by omega)]
    refine hk _ _ ⟨by show 0 ≤ i + 1; omega, by show i + 1 ≤ _; omega, by show i + 1 ≤ _; omega, ?_, x3, nw3, ?_⟩ (by show (16 - (i + 1)).toNat < (16 - i).toNat; omega)
    · show n + size1 _ = totalL 0 (zs.take (i + 1).toNat)
      rw [et, total_append, ← en]; rfl
    · show Vec h3 u eP (buildL 0 (zs.take (i + 1).toNat))
      rw [et, build_append, ← en]; exact V3
  · have e := of_decide_eq_false e
    have et : zs.take i.toNat = zs.take 16 := by
      by_cases h16 : i = 16
      · rw [h16]; rfl
      · rw [List.take_of_length_le (by omega), List.take_of_length_le (by omega)]
    rw [et] at en V2
    subst en
    exact hK v h2 i x2 nw V2

theorem law09_PartsOne_holds (a : Sl) (zs : List Int) (v : Int) (h : H) (A : Arr h a (eI .u8) zs) (hz : ∀ z ∈ zs, 0 ≤ z ∧ z ≤ 255) : law09_PartsOne (a, v) (fun r _ => r = true) h := by
  unfold law09_PartsOne
  refine parts_loop A hz (fun s k => rfl) (fun w h1 _ x1 n1 V1 => ?_)
  have hw := build_walk (zs.take 16) 0
  have hl := build_len (zs.take 16) 0
  have hbd := total_bd (zs.take 16) 0
  generalize buildL 0 (zs.take 16) = L at *
  generalize totalL 0 (zs.take 16) = N at *
  have h16 : (zs.take 16).length ≤ 16 := by simp; omega
  have hlen := V1.len
  simp only [ltI_eq, leI_eq, eqI_eq]
  refine with_b false (fun k hk => ?_) ?_
  · refine parts_Check_spec V1.arr (ite_f ?_ ?_)
    · unfold checkL
      by_cases h0 : 0 < N
      · rw [if_pos ⟨by omega, by omega, by omega, hw⟩, decide_eq_true h0]; rfl
      · rw [if_neg (by omega), decide_eq_false h0]; rfl
    rw [add_i64 (by omega) (by omega)]
    refine parts_Check_spec V1.arr (ite_f ?_ ?_)
    · unfold checkL
      rw [if_neg]
      · rfl
      · rintro ⟨_, _, _, h4⟩; rw [hw] at h4; have := Option.some.inj h4; omega
    refine parts_Of_spec V1.arr (by omega) (ite_i (fun e => ?_) (fun _ => hk))
    have e := of_decide_eq_true e
    obtain ⟨e1, e2, e3⟩ := of_pos e
    have hm : at_ L (ofL L v).toNat ∈ L := List.mem_of_getElem? (at_some e1)
    have := (walk_mem L 0 N hw).2 _ hm
    refine ite_f (by simp; omega) ?_
    rw [decide_eq_false (by omega)]; exact hk
  refine ite_f rfl ?_
  refine loop_i (fun (i : Int) h2 => 0 ≤ i ∧ i ≤ N ∧ h2 = h1) (fun i => (N - i).toNat) ⟨Int.le_refl _, by omega, rfl⟩ ?_
  rintro i h2 ⟨i0, i1, rfl⟩ k hk
  refine ite_i (fun e => ?_) (fun _ => law09_does_spec fun h' _ => rfl)
  have e := of_decide_eq_true e
  refine parts_Of_spec V1.arr (by omega) ?_
  obtain ⟨p, hp, hp1, hp2⟩ := walk_has L 0 N i hw i0 e
  obtain ⟨e1, e2, e3⟩ := of_pos (of_has hp hp1 hp2)
  have e0 := of_has hp hp1 hp2
  have hx := at_some e1
  refine with_b false (fun k2 hk2 => ?_) ?_
  · refine ite_f (by simp; omega) (ite_f (by simp; omega) ?_)
    refine V1.arr.index e0 (by omega) (fun q hq => loadI_i (V1.arr.cell (j := 0) hq hx rfl) ?_)
    refine ite_f (by simp; omega) ?_
    refine V1.arr.index e0 (by omega) (fun q hq => loadI_i (V1.arr.cell (j := 1) hq hx rfl) ?_)
    rw [decide_eq_false (by omega)]; exact hk2
  refine ite_f rfl ?_
  rw [add_i64 (by omega) (by omega)]
  exact hk _ _ ⟨by omega, by omega, rfl⟩ (by omega)

/-! ### parts that are spoilt -/
theorem walk_app : ∀ (l m : List (Int × Int)) (a : Int), walkL a (l ++ m) = (walkL a l).bind fun b => walkL b m
  | [], m, a => by simp [walkL]
  | p :: r, m, a => by
    simp only [List.cons_append, walkL]
    split
    · exact walk_app r m p.2
    · rfl
theorem walk_split {l m : List (Int × Int)} {p : Int × Int} {a n : Int} (h : walkL a (l ++ p :: m) = some n) : walkL a l = some p.1 ∧ p.1 < p.2 ∧ walkL p.2 m = some n := by
  rw [walk_app] at h
  cases hl : walkL a l with
  | none => rw [hl] at h; cases h
  | some b =>
    rw [hl] at h
    simp only [Option.bind_some, walkL] at h
    split at h
    · rename_i hp; obtain ⟨rfl, hp⟩ := hp; exact ⟨rfl, hp, h⟩
    · cases h
theorem walk_start {m : List (Int × Int)} {a b n : Int} (h : walkL a m = some n) (h2 : walkL b m = some n) : a = b := by
  cases m with
  | nil => simp [walkL] at h h2; omega
  | cons p r =>
    simp only [walkL] at h h2
    split at h
    · split at h2
      · omega
      · cases h2
    · cases h
theorem check_bad {n : Int} {l : List (Int × Int)} (h : walkL 0 l ≠ some n) : checkL n l = 2 := by
  unfold checkL
  rw [if_neg (fun hh => h hh.2.2.2)]

theorem law09_PartsSpoilt_holds (a : Sl) (zs : List Int) (w by_ : Int) (h : H) (A : Arr h a (eI .u8) zs) (hz : ∀ z ∈ zs, 0 ≤ z ∧ z ≤ 255) (w0 : 0 ≤ w) (w1 : w ≤ 255) (b0 : 0 ≤ by_) (b1 : by_ ≤ 255) :
    law09_PartsSpoilt (a, w, by_) (fun r _ => r = true) h := by
  unfold law09_PartsSpoilt
  refine parts_loop A hz (fun s k => rfl) (fun v h1 _ x1 n1 V1 => ?_)
  have hw := build_walk (zs.take 16) 0
  have hl := build_len (zs.take 16) 0
  have hbd := total_bd (zs.take 16) 0
  generalize buildL 0 (zs.take 16) = L at *
  generalize totalL 0 (zs.take 16) = N at *
  have h16 : (zs.take 16).length ≤ 16 := by simp; omega
  have hlen := V1.len
  have fin : ∀ (h1 : H), law09_does () (fun r _ => r = true) h1 := fun h1 => law09_does_spec fun h' _ => rfl
  simp only [ltI_eq, leI_eq, eqI_eq, cnv_i64 (show -9223372036854775808 ≤ w by omega) (by omega), cnv_i64 (show -9223372036854775808 ≤ by_ by omega) (by omega), rem_nn w0]
  refine with_b (decide (L.length = 0 ∨ by_ = 0)) (fun k hk => ?_) ?_
  · refine ite_i (fun e => ?_) (fun e => ?_)
    · have e := of_decide_eq_true e
      rw [decide_eq_true (.inl (by omega))] at hk; exact hk
    · have e := of_decide_eq_false e
      rw [show decide (by_ = 0) = decide (L.length = 0 ∨ by_ = 0) by rw [decide_eq_decide]; omega]; exact hk
  refine ite_i (fun _ => fin _) (fun e => ?_)
  have e := of_decide_eq_false e
  have hL0 : L.length ≠ 0 := fun h => e (.inl h)
  have hb0 : by_ ≠ 0 := fun h => e (.inr h)
  refine must_i (by show (v.len : Int) ≠ 0; omega) ?_
  rw [hlen]
  have kr : 0 ≤ w % (L.length : Int) ∧ w % (L.length : Int) < L.length := ⟨Int.emod_nonneg _ (by omega), Int.emod_lt_of_pos _ (by omega)⟩
  generalize hk0 : w % (L.length : Int) = k0 at *
  have hk : k0.toNat < L.length := by omega
  have hx := at_some hk
  generalize hp : at_ L k0.toNat = p at *
  -- the list, apart
  have hsplit : L = L.take k0.toNat ++ p :: L.drop (k0.toNat + 1) := by
    rw [← (List.getElem?_eq_some_iff.1 hx).2, ← List.drop_eq_getElem_cons hk, List.take_append_drop]
  have hws := hw
  rw [hsplit] at hws
  obtain ⟨g1, g2, g3⟩ := walk_split hws
  have pin := (walk_mem L 0 N hw).2 p (List.mem_of_getElem? hx)
  refine V1.arr.row rfl ?_
  refine (Vec.nil0 (E := eP)).append_new (Ext.refl h1) New.nil0 (m := L) rfl rfl rfl (by simp; omega) ?_
  intro u h2 U2 x2 nu _ _
  simp only [List.nil_append] at U2
  refine U2.arr.index kr.1 kr.2 (fun q hq => loadI_i (U2.arr.cell (j := 0) hq hx rfl) ?_)
  refine U2.arr.index kr.1 kr.2 (fun q hq => ?_)
  rw [add_i64 (by omega) (by omega)]
  refine U2.store (x' := (p.1 + by_, p.2)) hq hx (by decide) rfl (fun h3 U3 f3 => ?_)
  have x3 := x2.of_new f3 nu
  refine parts_Check_spec U3.arr ?_
  have c1 : checkL N (L.set k0.toNat (p.1 + by_, p.2)) = 2 := by
    apply check_bad
    rw [List.set_eq_take_append_cons_drop, if_pos hk]
    intro hh
    obtain ⟨r1, _, _⟩ := walk_split hh
    rw [g1] at r1
    have := Option.some.inj r1
    simp only at this
    omega
  rw [c1]
  refine ite_f rfl ?_
  refine (V1.arr.ext x3).index kr.1 kr.2 (fun q hq => loadI_i ((V1.arr.ext x3).cell (j := 0) hq hx rfl) (loadI_i ((V1.arr.ext x3).cell (j := 1) hq hx rfl) ?_))
  refine U3.arr.index kr.1 (by simpa using kr.2) (fun q hq => U3.stores (x := p) hq (by simpa using hk) rfl (fun h4 U4 f4 => ?_))
  have x4 := x3.of_new f4 nu
  rw [List.set_set] at U4
  have es : L.set k0.toNat p = L := by
    rw [← (List.getElem?_eq_some_iff.1 hx).2, List.set_getElem_self]
  rw [es] at U4
  refine U4.arr.index kr.1 kr.2 (fun q hq => loadI_i (U4.arr.cell (j := 1) hq hx rfl) ?_)
  refine U4.arr.index kr.1 kr.2 (fun q hq => ?_)
  rw [sub_i64 (by omega) (by omega)]
  refine U4.store (x' := (p.1, p.2 - by_)) hq hx (by decide) rfl (fun h5 U5 f5 => ?_)
  have x5 := x4.of_new f5 nu
  refine parts_Check_spec U5.arr ?_
  have c2 : checkL N (L.set k0.toNat (p.1, p.2 - by_)) = 2 := by
    apply check_bad
    rw [List.set_eq_take_append_cons_drop, if_pos hk]
    intro hh
    obtain ⟨_, _, r3⟩ := walk_split hh
    have := walk_start g3 r3
    simp only at this
    omega
  rw [c2]
  refine ite_f rfl ?_
  -- without one, and twice
  have A5 := V1.arr.ext x5
  refine A5.slice rfl (by omega) kr.1 (by omega) (fun s1 S1 _ ls1 _ => ?_)
  rw [add_i64 (by omega) (by omega)]
  refine A5.slice rfl (by omega) (by omega) (by omega) (fun s2 S2 _ ls2 _ => ?_)
  simp only [Int.toNat_zero, List.drop_zero, Nat.sub_zero] at S1
  have e1 : (k0 + 1).toNat = k0.toNat + 1 := by omega
  have e2 : (List.take (((L.length : Int)).toNat - (k0 + 1).toNat) (List.drop (k0 + 1).toNat L)) = L.drop (k0.toNat + 1) := by
    rw [e1, List.take_of_length_le (by simp)]
  rw [e2] at S2
  refine S1.row rfl ?_
  refine (Vec.nil0 (E := eP)).append_new (Ext.refl h5) New.nil0 (m := L.take k0.toNat) rfl rfl S1.len.symm (by rw [S1.len]; simp; omega) ?_
  intro t1 h6 T1 x6 nt1 _ _
  simp only [List.nil_append] at T1
  refine (S2.ext x6).row rfl ?_
  refine T1.append_new x6 nt1 (m := L.drop (k0.toNat + 1)) rfl rfl S2.len.symm (by rw [S2.len]; simp; omega) ?_
  intro t2 h7 T2 x7 nt2 _ _
  have A7 := A5.ext x7
  refine A7.slice rfl (by omega) (by omega) (by omega) (fun s3 S3 _ ls3 _ => ?_)
  refine A7.slice rfl (by omega) (by omega) (by omega) (fun s4 S4 _ ls4 _ => ?_)
  simp only [Int.toNat_zero, List.drop_zero, Nat.sub_zero, e1] at S3
  have e4 : (List.take (((L.length : Int)).toNat - k0.toNat) (List.drop k0.toNat L)) = L.drop k0.toNat := by
    rw [List.take_of_length_le (by simp)]
  rw [e4] at S4
  refine S3.row rfl ?_
  refine (Vec.nil0 (E := eP)).append_new (Ext.refl h7) New.nil0 (m := L.take (k0.toNat + 1)) rfl rfl S3.len.symm (by rw [S3.len]; simp; omega) ?_
  intro t3 h8 T3 x8 nt3 _ _
  simp only [List.nil_append] at T3
  refine (S4.ext x8).row rfl ?_
  refine T3.append_new x8 nt3 (m := L.drop k0.toNat) rfl rfl S4.len.symm (by rw [S4.len]; simp; omega) ?_
  intro t4 h9 T4 x9 nt4 _ _
  refine with_i (fun b _ => b = true) (fun kk hkk => ?_) (fun a h' e => e)
  refine parts_Check_spec (T2.arr.ext x9) ?_
  have c3 : checkL N (L.take k0.toNat ++ L.drop (k0.toNat + 1)) = 2 := by
    apply check_bad
    intro hh
    rw [walk_app, g1] at hh
    have := walk_start g3 hh
    omega
  rw [c3]
  refine ite_t rfl (parts_Check_spec T4.arr ?_)
  have c4 : checkL N (L.take (k0.toNat + 1) ++ L.drop k0.toNat) = 2 := by
    apply check_bad
    intro hh
    have e5 : L.take (k0.toNat + 1) = L.take k0.toNat ++ [p] := by
      rw [List.take_add_one, hx]; rfl
    have e6 : L.drop k0.toNat = p :: L.drop (k0.toNat + 1) := by
      rw [← (List.getElem?_eq_some_iff.1 hx).2, ← List.drop_eq_getElem_cons hk]
    rw [e5, e6, List.append_assoc] at hh
    obtain ⟨_, _, r3⟩ := walk_split (p := p) hh
    have r4 : walkL p.2 (p :: L.drop (k0.toNat + 1)) = some N := r3
    simp only [walkL] at r4
    rw [if_neg (by omega)] at r4
    cases r4
  rw [c4]
  exact ite_t rfl (law09_does_spec fun h' _ => hkk true h' rfl)
end Go.Cz.S
