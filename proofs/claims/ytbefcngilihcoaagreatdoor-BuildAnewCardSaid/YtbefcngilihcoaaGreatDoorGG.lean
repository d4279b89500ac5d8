/- Part of the proof of a law of 1312: an engine that runs a function over an abstract heap, and what the functions compute; own work. -/
import Derived.Test.YtbefcngilihcoaaGreatDoorGF
import Derived.Test.YtbefcngilihcoaaGreatDoorGR
import Derived.Test.YtbefcngilihcoaaGreatDoorGC
set_option linter.unusedVariables false
set_option linter.unusedSimpArgs false
set_option linter.unusedSectionVars false
namespace Go.Cz.S
open Go Go.Cz Go.Cz.Crc
set_option maxRecDepth 100000
set_option maxHeartbeats 1000000
set_option linter.unusedSimpArgs false
set_option linter.unusedVariables false
def nameN (i : Nat) : List UInt8 := if i < 10 then [115, UInt8.ofNat (48 + i)] else [115, 49, UInt8.ofNat (48 + (i - 10))]
def nameB (i : Int) : ByteArray := if 0 ≤ i ∧ i < 16 then mkB (nameN i.toNat) else ⟨#[]⟩
def mN : ByteArray := ⟨#[109]⟩
theorem nameN_digits {i : Nat} (h : i < 16) : 115 :: Lib.decDigits i = nameN i := by
  unfold nameN
  rw [Lib.decDigits]
  by_cases h1 : i < 10
  · rw [dif_pos h1, if_pos h1]
  · rw [dif_neg h1, if_neg h1, Lib.decDigits, dif_pos (by omega)]
    rw [show i / 10 = 1 by omega, show i % 10 = i - 10 by omega]
    rfl
theorem bname_i {i : Int} {h : H} {Q : ByteArray → HProp} (hQ : Q (nameB i) h) : build_Name i Q h := by
  unfold build_Name build_Name_F
  simp only [ltI_eq, leI_eq]
  refine with_b (decide (i < 0) || decide (16 ≤ i)) (fun k hk => ite_i (fun e => by rw [e] at hk; exact hk) (fun e => by rw [e] at hk; exact hk)) ?_
  refine ite_i (fun e => ?_) (fun e => ?_)
  · have : nameB i = ⟨#[]⟩ := by unfold nameB; rw [if_neg]; simp at e; omega
    rw [this] at hQ; exact hQ
  · have e : 0 ≤ i ∧ i < 16 := by simp at e; exact e
    unfold strconv_Itoa itoaW
    have hd := nameN_digits (i := i.toNat) (by omega)
    have hl : (nameN i.toNat).length ≤ 3 := by unfold nameN; split <;> simp
    have hl2 : (Lib.decDigits i.toNat).length ≤ 2 := by rw [← hd] at hl; simp at hl; exact hl
    refine ⟨e.1, by omega, must_i ?_ ?_⟩
    · show 1 + (Lib.decDigits i.toNat).toArray.size ≤ _
      rw [List.size_toArray]; omega
    · have : ByteArray.mk #[115] ++ ⟨(Lib.decDigits i.toNat).toArray⟩ = nameB i := by
        apply ba_ext
        unfold nameB
        rw [if_pos e, app_data, mkB_data, ← hd]
        simp
      rw [this]; exact hQ
theorem nameB_size (i : Int) : (nameB i).size ≤ 3 := by
  unfold nameB
  split
  · rw [mkB_size]; unfold nameN; split <;> simp
  · exact Nat.zero_le _
theorem nameB_ok {i : Nat} (h : i < 16) : okName (nameB i) = true := by
  have : ∀ i : Fin 16, okName (nameB (i.val : Int)) = true := by decide +kernel
  exact this ⟨i, h⟩
theorem nameB_inj {i j : Int} (hi : 0 ≤ i ∧ i < 16) (h : nameB i = nameB j) : i = j := by
  have h0 : ∀ i : Fin 16, nameB (i.val : Int) ≠ ⟨#[]⟩ := by decide +kernel
  have h1 : ∀ i j : Fin 16, nameB (i.val : Int) = nameB (j.val : Int) → i = j := by decide +kernel
  by_cases hj : 0 ≤ j ∧ j < 16
  · have := h1 ⟨i.toNat, by omega⟩ ⟨j.toNat, by omega⟩ (by simp only [Int.toNat_of_nonneg hi.1, Int.toNat_of_nonneg hj.1]; exact h)
    have := congrArg Fin.val this
    simp only at this
    omega
  · have := h0 ⟨i.toNat, by omega⟩
    simp only [Int.toNat_of_nonneg hi.1] at this
    rw [h] at this
    exact absurd (by unfold nameB; rw [if_neg hj]) this
theorem nameB_m (i : Int) : nameB i ≠ mN := by
  have h1 : ∀ i : Fin 16, nameB (i.val : Int) ≠ mN := by decide +kernel
  by_cases hj : 0 ≤ i ∧ i < 16
  · have := h1 ⟨i.toNat, by omega⟩
    simp only [Int.toNat_of_nonneg hj.1] at this
    exact this
  · unfold nameB; rw [if_neg hj]; decide
theorem mN_ok : okName mN = true := by decide +kernel
def wipeN (σ : FSt) (i : Nat) : FSt := (List.range i).foldl (fun σ (j : Nat) => (σ.remove (nameB j)).1) (σ.remove mN).1
theorem wipeN_succ (σ : FSt) (i : Nat) : wipeN σ (i + 1) = ((wipeN σ i).remove (nameB i)).1 := by
  unfold wipeN; rw [List.range_succ, List.foldl_append]; rfl
theorem wipe_i {h : H} {S : Nat → Prop} {f : Nat} {σ : FSt} (F : FW h S f σ) {Q : Unit → HProp} (hQ : ∀ S' h', FW h' S' f (wipeN σ 16) → Kp S h S' h' → Q () h') : build_wipe (some (at0 f)) Q h := by
  unfold build_wipe build_wipe_F
  simp only [ltI_eq]
  refine remove_i F fun S1 h1 F1 K1 => ?_
  refine loop_i (fun (s : Int) h' => ∃ (i : Nat) (S' : Nat → Prop), s = i ∧ i ≤ 16 ∧ FW h' S' f (wipeN σ i) ∧ Kp S h S' h') (fun s => (16 - s).toNat) ⟨0, S1, rfl, by omega, F1, K1⟩ ?_
  rintro s h2 ⟨i, S2, rfl, hi, F2, K2⟩ k hk
  refine ite_i (fun e => ?_) (fun e => ?_)
  · have e := of_decide_eq_true e
    refine bname_i (remove_i F2 fun S3 h3 F3 K3 => ?_)
    rw [add_i64 (by omega) (by omega)]
    exact hk _ _ ⟨i + 1, S3, rfl, by omega, by rw [wipeN_succ]; exact F3, K2.trans K3⟩ (by omega)
  · have e := of_decide_eq_false e
    obtain rfl : i = 16 := by omega
    exact hQ S2 h2 F2 K2
theorem rises_of {l : List Int} {a : Int} (h : l.Pairwise fun a b => a < b) (ha : ∀ x ∈ l, a < x) : rises a l = true := by
  induction l generalizing a with
  | nil => rfl
  | cons x r ih =>
    rw [List.pairwise_cons] at h
    simp only [rises, Bool.and_eq_true, decide_eq_true_eq]
    exact ⟨ha x (List.mem_cons_self ..), ih h.2 h.1⟩
theorem sum_out (M : List (Int × Int)) (a : Int) : ∀ n : Nat, manyS ((List.range n).map fun i : Nat => rowE M (a + i)) = (M.filter fun x => decide (a ≤ x.1) && decide (x.1 < a + n)).length := by
  intro n
  induction n with
  | zero =>
    have : M.filter (fun x => decide (a ≤ x.1) && decide (x.1 < a + (0 : Nat))) = [] := List.filter_eq_nil_iff.2 fun x _ => by simp only [Bool.and_eq_true, decide_eq_true_eq]; omega
    rw [this]; rfl
  | succ n ih =>
    rw [List.range_succ, List.map_append]
    have e1 : ∀ A B : List (List Int), manyS (A ++ B) = manyS A + manyS B := fun A B => by unfold manyS; rw [List.map_append, List.sum_append]
    rw [e1, ih]
    have e2 : manyS ([n].map fun i : Nat => rowE M (a + i)) = (M.filter fun x => decide (x.1 = a + n)).length := by
      unfold manyS rowE; simp
    rw [e2]
    clear ih e2
    induction M with
    | nil => rfl
    | cons x r ih =>
      simp only [List.filter_cons]
      by_cases h1 : a ≤ x.1 ∧ x.1 < a + n
      · rw [if_pos (by simp [h1]), if_neg (by simp; omega), if_pos (by simp; omega)]
        simp only [List.length_cons] at *; omega
      · rw [if_neg (by simp; omega)]
        by_cases h2 : x.1 = a + n
        · rw [if_pos (by simp [h2]), if_pos (by simp; omega)]
          simp only [List.length_cons] at *; omega
        · rw [if_neg (by simp [h2]), if_neg (by simp; omega)]
          exact ih
theorem okLists_of {v : Int} {out : List (List Int)} (h : ∀ i, (hi : i < out.length) → okList (v + i) out[i] = true) : okLists v out = true := okLists_take.2 h
theorem good_edges {n : Int} {L : List (Int × Int)} (h : badG n L = false) : 1 ≤ n ∧ n ≤ 256 ∧ ∀ x ∈ L, 0 ≤ x.1 ∧ x.1 < n ∧ 0 ≤ x.2 ∧ x.2 < n ∧ x.1 ≠ x.2 := by
  unfold badG at h
  simp only [Bool.or_eq_false_iff, Bool.not_eq_false', Bool.and_eq_true, decide_eq_true_eq] at h
  refine ⟨h.1.1, h.1.2, fun x hx => ?_⟩
  have := h.2
  rw [List.any_eq_false] at this
  have := this x hx
  unfold badE at this
  simp only [Bool.or_eq_true, Bool.not_eq_true', Bool.and_eq_false_iff, decide_eq_false_iff_not, decide_eq_true_eq] at this
  omega
theorem okShard_out {n : Int} {M : List (Int × Int)} (hM : ∀ x ∈ M, 0 ≤ x.1 ∧ x.1 < n ∧ 0 ≤ x.2 ∧ x.2 < n ∧ x.1 ≠ x.2) (hn : n ≤ 256) (hR : Rising M) (hl : M.length ≤ 4096) {a b : Int} (hp : okPart a b = true) : okShard ⟨a, b, outE M a b⟩ = true := by
  have hp' := hp
  unfold okPart at hp'
  simp only [Bool.and_eq_true, decide_eq_true_eq] at hp'
  unfold okShard
  simp only [Bool.and_eq_true, decide_eq_true_eq, hp, true_and]
  refine ⟨⟨?_, ?_⟩, okLists_of fun i hi => ?_⟩
  · rw [outE_len]; omega
  · unfold outE
    rw [sum_out]
    have := List.length_filter_le (fun x : Int × Int => decide (a ≤ x.1) && decide (x.1 < a + ((b - a).toNat : Nat))) M
    omega
  · rw [outE_len] at hi
    have he : (outE M a b)[i]'(by rw [outE_len]; exact hi) = rowE M (a + i) := by
      have := outE_at (L := M) hi
      rw [List.getElem?_eq_getElem (by rw [outE_len]; exact hi)] at this
      exact Option.some.inj this
    rw [he]
    have hmem : ∀ y ∈ rowE M (a + i), 0 ≤ y ∧ y < n ∧ y ≠ a + i := by
      intro y hy
      unfold rowE at hy
      obtain ⟨x, hx, rfl⟩ := List.mem_map.1 hy
      obtain ⟨hx1, hx2⟩ := List.mem_filter.1 hx
      have := hM x hx1
      have e := of_decide_eq_true hx2
      exact ⟨this.2.2.1, this.2.2.2.1, fun h => this.2.2.2.2 (by omega)⟩
    unfold okList
    rw [rises_of (rowE_rise hR _) fun x hx => by have := hmem x hx; omega]
    simp only [Bool.true_and, Bool.and_eq_true, Bool.not_eq_true', Bool.or_eq_true, decide_eq_true_eq]
    refine ⟨?_, ?_⟩
    · rw [Bool.eq_false_iff]
      intro h
      exact (hmem _ (by simpa using h)).2.2 rfl
    · cases hr : rowE M (a + i) with
      | nil => exact .inl rfl
      | cons x r =>
        right
        have : (rowE M (a + i)).getLastD 0 ∈ rowE M (a + i) := by
          rw [hr, List.getLastD_cons]
          have key : ∀ (r : List Int) (x : Int), r.getLastD x ∈ x :: r := by
            intro r
            induction r with
            | nil => intro x; simp
            | cons y s ih => intro x; rw [List.getLastD_cons]; exact List.mem_cons_of_mem _ (ih y)
          exact key r x
        rw [hr] at this
        rw [hr] at hmem
        have := hmem _ this
        omega
def shardF (M : List (Int × Int)) (p : Int × Int) : Shd := ⟨p.1, p.2, outE M p.1 p.2⟩
def writeAll (M : List (Int × Int)) : Nat → List (Int × Int) → FSt → FSt × Int
  | _, [], σ => (σ, 0)
  | i, p :: r, σ => match σ.write (nameB i) (splitP (mkB (encS (shardF M p)))) with
    | (σ', e) => if e ≠ 0 then (σ', e) else writeAll M (i + 1) r σ'
def endB (n : Int) (m : Nat) (P : List (Int × Int)) (r : FSt × Int) : FSt × Int := if r.2 ≠ 0 then r else r.1.write mN (splitP (mkB (encM ⟨n, m, P⟩)))
def buildF (σ : FSt) (n : Int) (L : List (Int × Int)) (s : Int) : FSt × Int :=
  if normE n L ≠ 0 then (σ, normE n L) else if badCut n s = true then (σ, 2) else
    endB n (normG L).length (cutL n s) (writeAll (normG L) 0 (cutL n s) (wipeN σ 16))
end Go.Cz.S
namespace Go.Cz.S
open Go Go.Cz Go.Cz.Crc
set_option maxRecDepth 100000
set_option maxHeartbeats 1000000
set_option linter.unusedSimpArgs false
set_option linter.unusedVariables false
theorem div_lo {x y K : Int} (hK : 0 < K) : x / K + y / K ≤ (x + y) / K := by
  rw [Int.le_ediv_iff_mul_le hK, Int.add_mul]
  have h1 := Int.ediv_mul_le x (Int.ne_of_gt hK)
  have h2 := Int.ediv_mul_le y (Int.ne_of_gt hK)
  omega
theorem div_hi {x y K : Int} (hK : 0 < K) : (x + y) / K ≤ x / K + (y + K - 1) / K := by
  have h1 := Int.lt_ediv_add_one_mul_self x hK
  have h2 := Int.lt_ediv_add_one_mul_self (y + K - 1) hK
  rw [Int.add_mul, Int.one_mul] at h1 h2
  apply Int.le_of_lt_add_one
  rw [Int.ediv_lt_iff_lt_mul hK, Int.add_mul, Int.add_mul]
  omega
theorem cut_len (n s : Int) : (cutL n s).length = s.toNat := by simp [cutL]
theorem cut_at {n s : Int} {i : Nat} (h : i < s.toNat) : at_ (cutL n s) i = ((i : Int) * n / s, ((i : Int) + 1) * n / s) := by
  simp [at_, cutL, List.getD, List.getElem?_range h]
theorem cut_size {n s : Int} (hs : 0 < s) (i : Nat) : n / s ≤ ((i : Int) + 1) * n / s - (i : Int) * n / s ∧ ((i : Int) + 1) * n / s - (i : Int) * n / s ≤ (n + s - 1) / s := by
  have h1 := div_lo (x := (i : Int) * n) (y := n) hs
  have h2 := div_hi (x := (i : Int) * n) (y := n) hs
  rw [show (i : Int) * n + n = ((i : Int) + 1) * n by rw [Int.add_mul, Int.one_mul]] at h1 h2
  omega
theorem cut_check {n s : Int} (h1 : 1 ≤ s) (h2 : s ≤ n) (h3 : n ≤ 256) (h4 : s ≤ 16) : checkL n (cutL n s) = 0 := by
  unfold checkL
  rw [if_pos]
  refine ⟨by omega, h3, by rw [cut_len]; omega, (walk_iff _ _ _).2 ⟨fun i hi => ?_, ?_⟩⟩
  · rw [cut_len] at hi
    have hd : 1 ≤ n / s := by rw [Int.le_ediv_iff_mul_le (by omega)]; omega
    have := (cut_size (n := n) (s := s) (by omega) i).1
    rw [cut_at hi]
    refine ⟨?_, by simp only; omega⟩
    by_cases h0 : i = 0
    · subst h0; simp
    · rw [if_neg h0, cut_at (by omega)]
      simp only
      rw [show ((i - 1 : Nat) : Int) + 1 = i by omega]
  · rw [cut_len, if_neg (by omega), cut_at (by omega)]
    simp only
    rw [show ((s.toNat - 1 : Nat) : Int) + 1 = s by omega, Int.mul_ediv_cancel_left _ (by omega)]
theorem walk_mem : ∀ (l : List (Int × Int)) (a n : Int), walkL a l = some n → a ≤ n ∧ ∀ p ∈ l, a ≤ p.1 ∧ p.1 < p.2 ∧ p.2 ≤ n
  | [], a, n, h => by simp [walkL] at h; subst h; simp
  | p :: r, a, n, h => by
    simp only [walkL] at h
    split at h
    · rename_i hp
      obtain ⟨h1, h2⟩ := walk_mem r p.2 n h
      refine ⟨by omega, fun q hq => ?_⟩
      rcases List.mem_cons.1 hq with rfl | hq
      · omega
      · have := h2 q hq; omega
    · cases h
theorem cut_facts {n s : Int} (h : badCut n s = false) : (cutL n s).length ≤ 16 ∧ checkL n (cutL n s) = 0 ∧ ∀ p ∈ cutL n s, okPart p.1 p.2 = true := by
  unfold badCut at h
  simp only [decide_eq_false_iff_not] at h
  have hc := cut_check (n := n) (s := s) (by omega) (by omega) (by omega) (by omega)
  obtain ⟨h1, h2, h3, h4⟩ := check_facts hc
  refine ⟨h3, hc, fun p hp => ?_⟩
  have := (walk_mem _ _ _ h4).2 p hp
  unfold okPart
  simp only [Bool.and_eq_true, decide_eq_true_eq]
  omega
theorem encS_len {s : Shd} (h : okShard s = true) : (encS s).length ≤ 100000 := by
  have hs := h
  unfold okShard at h
  simp only [Bool.and_eq_true, decide_eq_true_eq] at h
  obtain ⟨⟨⟨hp, hl⟩, hm⟩, _⟩ := h
  unfold okPart at hp
  simp only [Bool.and_eq_true, decide_eq_true_eq] at hp
  have h1 := lists_len s.out
  have h2 := putN_len s.a.toNat
  have h3 := putN_len s.b.toNat
  have h4 := putN_len (manyS s.out)
  have h5 := wl_33 (degs s.out)
  have h6 : (packB (wl (degs s.out)) (degs s.out)).data.toList.length ≤ 1100 := by
    unfold packB
    rw [mkB_data, Bits.bytes_len]
    have : (degs s.out).length = s.out.length := by simp [degs]
    rw [this]
    have : s.out.length * wl (degs s.out) ≤ 256 * 33 := Nat.mul_le_mul (by omega) h5
    omega
  simp only [encS, sealed, headS, restS, List.length_append, List.length_cons, List.length_nil, crc4_len]
  omega
theorem splitP_128 {d : ByteArray} : ∀ p ∈ splitP d, p.size = 128 := by
  intro p hp
  unfold splitP at hp
  obtain ⟨l, hl, rfl⟩ := List.mem_map.1 hp
  rw [mkB_size]
  refine pageL_len (chunks_le _ _ ?_ l hl)
  omega
theorem bwrite_i {h : H} {S : Nat → Prop} {f : Nat} {σ : FSt} (F : FW h S f σ) {i : Int} {a b : Int} {v : Sl} {out : List (List Int)} (R : Rows2 h v out) (ok : okShard ⟨a, b, out⟩ = true) {Q : Int → HProp}
    (hQ : ∀ S' h', FW h' S' f (σ.write (nameB i) (splitP (mkB (encS ⟨a, b, out⟩)))).1 → Kp S h S' h' → Q (σ.write (nameB i) (splitP (mkB (encS ⟨a, b, out⟩)))).2 h') : build_write (some (at0 f), i, a, b, v) Q h := by
  unfold build_write build_write_F
  simp only [eqI_eq]
  have hk := ok
  unfold okShard at hk
  simp only [Bool.and_eq_true, decide_eq_true_eq] at hk
  obtain ⟨⟨⟨hp, hl⟩, hm⟩, hls⟩ := hk
  unfold okPart at hp
  simp only [Bool.and_eq_true, decide_eq_true_eq] at hp
  have hx : ∀ l ∈ out, l.length ≤ 1000000 := by
    intro l hl2
    have : ∀ o : List (List Int), l ∈ o → l.length ≤ manyS o := by
      intro o
      induction o with
      | nil => intro h; cases h
      | cons x r ih =>
        intro h
        have e : manyS (x :: r) = x.length + manyS r := by simp [manyS]
        rcases List.mem_cons.1 h with rfl | h
        · omega
        · have := ih h; omega
    have := this out hl2
    omega
  refine shEncode_i R (by omega) (by omega) (by omega) hx fun h1 E1 => ?_
  rw [ok]
  simp only [if_true]
  refine ite_f (by rfl) (bname_i ?_)
  have hel := encS_len ok
  refine pages_Split_spec (by rw [mkB_size]; omega) fun u h2 V nw E2 => ?_
  have hsl : (splitP (mkB (encS ⟨a, b, out⟩))).length ≤ 1000000 := by
    unfold splitP chunksOf
    rw [List.length_map, mkB_data]
    have : ∀ (n : Nat) (d : List UInt8), (chunks n d).length ≤ n + 1 := by
      intro n
      induction n with
      | zero => intro d; simp [chunks]
      | succ n ih =>
        intro d
        unfold chunks
        split
        · simp
        · have := ih (d.drop 122); simp only [List.length_cons]; omega
    have := this (encS ⟨a, b, out⟩).length (encS ⟨a, b, out⟩)
    omega
  have hns := nameB_size i
  refine write_i ((F.ext E1).ext E2) (by omega) V.arr hsl fun S' h3 F3 K3 => ?_
  exact hQ S' h3 F3 ((Kp.ext (E1.trans E2)).trans K3)
theorem chunks_many (d : List UInt8) : (chunksOf d).length ≤ d.length + 1 := by
  unfold chunksOf
  have : ∀ (n : Nat) (d : List UInt8), (chunks n d).length ≤ n + 1 := by
    intro n
    induction n with
    | zero => intro d; simp [chunks]
    | succ n ih =>
      intro d
      unfold chunks
      split
      · simp
      · have := ih (d.drop 122); simp only [List.length_cons]; omega
  exact this _ _
theorem split_many (d : ByteArray) : (splitP d).length ≤ d.size + 1 := by
  unfold splitP
  rw [List.length_map]
  have := chunks_many d.data.toList
  rw [size_data] at this
  exact this
theorem rows_empty {σ : FSt} (G : GoodF σ) : σ.rows ⟨#[]⟩ = [] := by
  refine rowsL_none fun x hx e => ?_
  have := G.nm x hx
  rw [e] at this
  revert this; decide
theorem writeAll_cons (M : List (Int × Int)) (i : Nat) (p : Int × Int) (r : List (Int × Int)) (σ : FSt) : writeAll M i (p :: r) σ = if (σ.write (nameB i) (splitP (mkB (encS (shardF M p))))).2 ≠ 0 then σ.write (nameB i) (splitP (mkB (encS (shardF M p)))) else writeAll M (i + 1) r (σ.write (nameB i) (splitP (mkB (encS (shardF M p))))).1 := by
  show (match σ.write (nameB i) (splitP (mkB (encS (shardF M p)))) with
    | (σ', e) => if e ≠ 0 then (σ', e) else writeAll M (i + 1) r σ') = _
  rfl
theorem remove_none {h : H} {S : Nat → Prop} {f : Nat} {σ : FSt} (F : FW h S f σ) {nm : ByteArray} (hr : σ.rows nm = []) {Q : Int → HProp} (hQ : Q 4 h) : files_FS_Remove (some (at0 f), nm) Q h := by
  obtain ⟨⟨m, R, B, hS⟩, _⟩ := F
  unfold files_FS_Remove files_FS_Remove_F
  simp only [eqI_eq]
  refine B.there ?_
  have e : codeT σ nm 0 = 4 := by unfold codeT; rw [hr]; rfl
  rw [e]
  exact ite_t (by rfl) hQ
theorem Build_i {h : H} {S : Nat → Prop} {f : Nat} {σ : FSt} (F : FW h S f σ) {v : Sl} {L : List (Int × Int)} (A : Arr h v eP L) (hL : L.length ≤ 1000000) {n s : Int} {Q : Int × Int × Sl × Int → HProp}
    (h1 : (buildF σ n L s).2 ≠ 0 → ∀ S' h', FW h' S' f (buildF σ n L s).1 → Kp S h S' h' → Q (0, 0, ⟨none, 0, 0⟩, (buildF σ n L s).2) h')
    (h2 : (buildF σ n L s).2 = 0 → ∀ S' h' v', FW h' S' f (buildF σ n L s).1 → Kp S h S' h' → Off S' h' v' eP (cutL n s) → New h v' → Q (n, ((normG L).length : Nat), v', 0) h') : build_Build (some (at0 f), n, v, s) Q h := by
  unfold build_Build build_Build_F
  simp only [eqI_eq, ltI_eq]
  refine remove_none F (rows_empty F.good) (ite_f (by rfl) ?_)
  unfold buildF at h1 h2
  refine normal_i A hL (fun hb h3 E3 => ?_) (fun hg u h3 V3 nw3 E3 => ?_)
  · rw [if_pos hb] at h1
    exact ite_t (by simpa using hb) (h1 hb S h3 (F.ext E3) (Kp.ext E3))
  have hbad : badG n L = false := by
    cases e : badG n L with
    | false => rfl
    | true => unfold normE at hg; rw [if_pos e] at hg; cases hg
  have hml : (normG L).length ≤ 4096 := by
    unfold normE at hg
    rw [if_neg (by rw [hbad]; decide)] at hg
    split at hg
    · cases hg
    · omega
  obtain ⟨n1, n2, hLe⟩ := good_edges hbad
  have hM : ∀ x ∈ normG L, 0 ≤ x.1 ∧ x.1 < n ∧ 0 ≤ x.2 ∧ x.2 < n ∧ x.1 ≠ x.2 := fun x hx => hLe x (norm_mem.1 hx)
  have hR := norm_rise L
  rw [if_neg (by rw [hg]; decide)] at h1 h2
  generalize normG L = M at *
  refine ite_f (by rfl) ?_
  have F3 := F.ext E3
  refine parts_Cut_spec (fun hb => ?_) (fun hb w h4 E4 nw4 V4 => ?_)
  · rw [if_pos hb] at h1
    exact ite_t (by rfl) (h1 (by simp) S h3 F3 (Kp.ext E3))
  rw [if_neg (by rw [hb]; decide)] at h1 h2
  obtain ⟨c1, c2, c3⟩ := cut_facts hb
  generalize hP : cutL n s = P at *
  refine ite_f (by rfl) ?_
  have F4 := F3.ext E4
  have O3 : Off S h4 u eP M := (Off.new V3 nw3 F.ex).ext E4
  have O4 : Off S h4 w eP P := Off.new V4 nw4 F3.ex
  refine wipe_i F4 fun S5 h5 F5 K5 => ?_
  have K05 : Kp S h S5 h5 := (Kp.ext (E3.trans E4)).trans K5
  have O3 := O3.kp K5
  have O4 := O4.kp K5
  have hwl := O4.1.len
  refine loop_i (fun (t : Int × Int × Int × Sl) h' => ∃ (j : Nat) (S' : Nat → Prop) (σj : FSt), t.1 = j ∧ j ≤ P.length ∧ FW h' S' f σj ∧ Kp S h S' h' ∧ Off S' h' u eP M ∧ Off S' h' w eP P ∧ writeAll M 0 P (wipeN σ 16) = writeAll M j (P.drop j) σj) (fun t => (P.length - t.1).toNat)
    ⟨0, S5, _, rfl, by omega, F5, K05, O3, O4, rfl⟩ ?_
  rintro ⟨j', x1, x2, x3⟩ h6 ⟨j, S6, σj, hj, hjl, F6, K6, O5, O6, hw⟩ k hk
  simp only at hj
  subst hj
  dsimp only
  refine ite_i (fun e => ?_) (fun e => ?_)
  · have e := of_decide_eq_true e
    have hlt : j < P.length := by omega
    refine O6.1.pair hlt ?_
    have hp := c3 _ (List.getElem_mem hlt)
    have hdr := List.drop_eq_getElem_cons hlt
    generalize P[j] = p at *
    refine make_i' O5.1 (by omega) hR (fun x hx => by have := hM x hx; omega) hp fun r h7 R7 E7 => ?_
    have ok := okShard_out hM n2 hR hml hp
    refine bwrite_i (F6.ext E7) R7 ok fun S8 h8 F8 K8 => ?_
    have K68 : Kp S6 h6 S8 h8 := (Kp.ext E7).trans K8
    have K08 := K6.trans K68
    rw [hdr, writeAll_cons] at hw
    refine ite_i (fun e2 => ?_) (fun e2 => ?_)
    · have e2 : (σj.write (nameB (j : Int)) (splitP (mkB (encS (shardF M p))))).2 ≠ 0 := by
        rw [Bool.not_eq_true'] at e2
        exact of_decide_eq_false e2
      rw [if_pos e2] at hw
      rw [hw] at h1
      unfold endB at h1
      rw [if_pos e2] at h1
      exact h1 e2 S8 h8 F8 K08
    · have e2 : (σj.write (nameB (j : Int)) (splitP (mkB (encS (shardF M p))))).2 = 0 := by
        rw [Bool.not_eq_false'] at e2
        exact of_decide_eq_true e2
      rw [if_neg (by rw [e2]; simp)] at hw
      rw [add_i64 (by omega) (by omega)]
      exact hk (_, x1, x2, x3) h8 ⟨j + 1, S8, _, by simp, by omega, F8, K08, O5.kp K68, O6.kp K68, hw⟩ (by show (P.length - ((j : Int) + 1)).toNat < (P.length - (j : Int)).toNat; omega)
  · have e := of_decide_eq_false e
    rw [List.drop_of_length_le (by omega)] at hw
    have hw : writeAll M 0 P (wipeN σ 16) = (σj, 0) := hw
    rw [hw] at h1 h2
    unfold endB at h1 h2
    simp only [ne_eq, not_true_eq_false, if_false] at h1 h2
    have om : okMan ⟨n, M.length, P⟩ = true := by
      unfold okMan
      simp only [Bool.and_eq_true, decide_eq_true_eq]
      omega
    have hul := O5.1.len
    rw [hul]
    refine manEnc_i O6.1 fun h7 E7 => ?_
    rw [om]
    simp only [if_true]
    refine ite_f (by rfl) ?_
    have hml2 := textM_len om
    have hsz : (mkB (encM ⟨n, M.length, P⟩)).size ≤ 500 := by
      rw [mkB_size]; simp only [encM, sealed, List.length_append, crc4_len]; omega
    refine pages_Split_spec (by omega) fun q h8 V8 nw8 E8 => ?_
    have hsm := split_many (mkB (encM ⟨n, M.length, P⟩))
    have E78 := E7.trans E8
    refine write_i (F6.ext E78) (by decide) V8.arr (by omega) fun S9 h9 F9 K9 => ?_
    have K69 : Kp S6 h6 S9 h9 := (Kp.ext E78).trans K9
    have K09 := K6.trans K69
    show iteW _ _ _ _
    have emn : (ByteArray.mk #[109]) = mN := rfl
    rw [emn] at F9 ⊢
    refine ite_i (fun e2 => ?_) (fun e2 => ?_)
    · have e2 : ¬ (σj.write mN (splitP (mkB (encM ⟨n, M.length, P⟩)))).2 = 0 := by simpa only [Bool.not_eq_true', decide_eq_false_iff_not] using e2
      exact h1 e2 S9 h9 F9 K09
    · have e2 : (σj.write mN (splitP (mkB (encM ⟨n, M.length, P⟩)))).2 = 0 := by simpa only [Bool.not_eq_false', decide_eq_true_eq] using e2
      exact h2 e2 S9 h9 w F9 K09 (O6.kp K69) (New.mono E3 nw4)
end Go.Cz.S
namespace Go.Cz.S
open Go Go.Cz Go.Cz.Crc
set_option maxRecDepth 100000
set_option maxHeartbeats 1000000
set_option linter.unusedSimpArgs false
set_option linter.unusedVariables false
theorem encS_inj {s t : Shd} (hs : okShard s = true) (ht : okShard t = true) (h : mkB (encS s) = mkB (encS t)) : s = t := by
  have bs := okShard_bd hs
  have bt := okShard_bd ht
  generalize hz : mkB (encS t) = z at h
  have a1 := read_a hs h
  have a2 := read_a ht hz
  rw [a1] at a2
  have ea : s.a.toNat = t.a.toNat := (Prod.mk.inj (Option.some.inj a2)).1
  have b1 := read_b hs h
  have b2 := read_b ht hz
  rw [ea] at b1
  rw [b1] at b2
  have eb : s.b.toNat = t.b.toNat := (Prod.mk.inj (Option.some.inj b2)).1
  have ep : posT s = posT t := by unfold posT; rw [ea, eb]
  have w1 := (read_w h).1
  have w2 := (read_w hz).1
  rw [ep, w2] at w1
  have w1 := Option.some.inj w1
  have s1 := wl_small hs
  have s2 := wl_small ht
  have ew : wl (degs s.out) = wl (degs t.out) := by
    have := congrArg UInt8.toNat w1
    rw [UInt8.toNat_ofNat', UInt8.toNat_ofNat'] at this
    omega
  have el : s.out.length = t.out.length := by omega
  have et : tabL' s = tabL' t := by rw [tab_len, tab_len, el, ew]
  have step : ∀ i, i ≤ s.out.length → s.out.take i = t.out.take i := by
    intro i
    induction i with
    | zero => intro _; rfl
    | succ i ih =>
      intro hi
      have ih := ih (by omega)
      have hi1 : i < s.out.length := by omega
      have hi2 : i < t.out.length := by omega
      have r1 := (read_l hs h hi1).1
      have r2 := (read_l ht hz hi2).1
      have epl : posL s i = posL t i := by unfold posL; rw [ep, et, ih]
      rw [epl, r2] at r1
      have e : t.out[i] = s.out[i] := by
        have := Option.some.inj r1
        exact congrArg Prod.fst this
      rw [List.take_succ_eq_append_getElem hi1, List.take_succ_eq_append_getElem hi2, ih, e]
  have eo : s.out = t.out := by
    have := step s.out.length (Nat.le_refl _)
    rw [List.take_length, el, List.take_length] at this
    exact this
  obtain ⟨a, b, o⟩ := s
  obtain ⟨a', b', o'⟩ := t
  simp only at *
  have : a = a' := by omega
  have : b = b' := by omega
  subst eo; subst a; subst b; rfl
open Classical in
noncomputable def decS (z : ByteArray) : Option Shd := if h : ∃ s, okShard s = true ∧ mkB (encS s) = z then some h.choose else none
theorem decS_enc {s : Shd} (hs : okShard s = true) : decS (mkB (encS s)) = some s := by
  unfold decS
  have hex : ∃ t, okShard t = true ∧ mkB (encS t) = mkB (encS s) := ⟨s, hs, rfl⟩
  rw [dif_pos hex]
  obtain ⟨h1, h2⟩ := hex.choose_spec
  rw [encS_inj h1 hs h2]
theorem decS_some {z : ByteArray} {s : Shd} (h : decS z = some s) : okShard s = true ∧ mkB (encS s) = z := by
  unfold decS at h
  split at h
  · rename_i hex
    cases h
    exact hex.choose_spec
  · cases h
theorem sdec_i {z : ByteArray} {h : H} (hz : z.size ≤ 1000000) {Q : Int × Int × Sl × Int → HProp}
    (h1 : ∀ s, decS z = some s → ∀ v h', RowsN h h' v s.out → Ext h h' → Q (s.a, s.b, v, 0) h') (h2 : decS z = none → ∀ h', Ext h h' → Q (0, 0, ⟨none, 0, 0⟩, 10) h') : shards_Decode z Q h := by
  refine shDecode_i hz (fun s hs he v h' R E => h1 s ?_ v h' R E) (fun hno h' E => h2 ?_ h' E)
  · rw [← he]; exact decS_enc hs
  · cases e : decS z with
    | none => rfl
    | some s =>
      obtain ⟨h3, h4⟩ := decS_some e
      exact absurd h4 (hno s h3)
def ROff (S : Nat → Prop) (h : H) (v : Sl) (out : List (List Int)) : Prop := ∃ svs : List Sl, Off S h v eL svs ∧ svs.length = out.length ∧ ∀ (i : Nat) (w : Sl) (l : List Int), svs[i]? = some w → out[i]? = some l → Off S h w (eI .i64) l
theorem ROff.kp {S S' : Nat → Prop} {h h' : H} {v : Sl} {out : List (List Int)} (R : ROff S h v out) (K : Kp S h S' h') : ROff S' h' v out := by
  obtain ⟨svs, A, hl, hr⟩ := R
  exact ⟨svs, A.kp K, hl, fun i w l h1 h2 => (hr i w l h1 h2).kp K⟩
theorem ROff.rows {S : Nat → Prop} {h : H} {v : Sl} {out : List (List Int)} (R : ROff S h v out) : Rows2 h v out := by
  obtain ⟨svs, A, hl, hr⟩ := R
  exact ⟨svs, A.1, hl, fun i w l h1 h2 => (hr i w l h1 h2).1⟩
theorem RowsN.off {S : Nat → Prop} {h0 h : H} {v : Sl} {out : List (List Int)} (R : RowsN h0 h v out) (hs : ∀ k, S k → ∃ o, h0 k = some o) : ROff S h v out := by
  obtain ⟨svs, A, hl, hr, n1, n2⟩ := R
  have ne : ∀ w : Sl, New h0 w → ∀ k, w.on k → ¬ S k := fun w nw k hk h => by obtain ⟨o, ho⟩ := hs k h; rw [nw k hk] at ho; cases ho
  exact ⟨svs, ⟨A, fun _ => ne v n1⟩, hl, fun i w l h1 h2 => ⟨hr i w l h1 h2, fun _ => ne w (n2 w (List.mem_of_getElem? h1))⟩⟩
theorem newC_i {n : Int} {h : H} {S0 : Nat → Prop} {f : Nat} {σ : FSt} (F : FW h S0 f σ) {Q : Option Addr × Int → HProp} (h1 : (n < 1 ∨ 64 < n) → Q (none, 2) h)
    (h2 : 1 ≤ n → n ≤ 64 → ∀ S c h', WW h' S f c σ ⟨n, []⟩ 0 → Kp S0 h S h' → Ext h h' → Q (some (at0 c), 0) h') : cache_New (some (at0 f), n) Q h := by
  unfold cache_New
  simp only [ltI_eq]
  refine ite_f (isNilP_some _) ?_
  refine with_b (decide (n < 1) || decide (64 < n)) (fun k hk => ?_) ?_
  · refine ite_i (fun e => by rw [e] at hk; exact hk) (fun e => by rw [e] at hk; exact hk)
  refine ite_i (fun e => ?_) (fun e => ?_)
  · exact h1 (by simpa using e)
  · simp only [Bool.or_eq_false_iff, decide_eq_false_iff_not] at e
    refine newMap_i fun m h3 M hm E3 => Obj.new fun c h4 o hc E4 => ?_
    have cm : c ≠ m := fun e => by obtain ⟨es, ck, M⟩ := M; have := M.blk; rw [e] at hc; rw [hc] at this; cases this
    have E34 := E3.trans E4
    have C : CB0 h4 c m f n 0 [] := ⟨o, M.fr E4 fun h => h, (fun t ht => by cases ht), List.nodup_nil, List.nodup_nil, (fun t ht => by cases ht), cm⟩
    have hn : ∀ k, CB0.own c m [] k → h k = none := by
      rintro k (rfl | rfl | ⟨t, ht, _⟩)
      · exact E3.none hc
      · exact hm
      · cases ht
    refine h2 (by omega) (by omega) (fun k => S0 k ∨ CB0.own c m [] k) c h4 ⟨S0, m, [], 0, F.ext E34, C, fun k hk hk2 => ?_, fun k => Iff.rfl, ⟨rfl, List.Pairwise.nil, (fun t ht => by cases ht), by omega, by show 1 ≤ n ∧ n ≤ 64; omega, by show ((0 : Nat) : Int) ≤ n; omega, (fun t ht => by cases ht), (fun t ht => by cases ht)⟩⟩ ⟨E34.fr, fun k hk => ?_⟩ E34
    · obtain ⟨o, ho⟩ := F.ex k hk
      rw [hn k hk2] at ho; cases ho
    · rcases hk with h | h
      · exact .inl h
      · exact .inr (hn k h)
theorem Open_i {h : H} {S : Nat → Prop} {f c : Nat} {σ : FSt} {κ : CSt} {n : Int} (W : WW h S f c σ κ n) (hn : n + 5000 ≤ 2305843009213693952) {Q : Int × Int × Sl × Int → HProp}
    (h1 : (fileC σ κ mN).2.2.2 ≠ 0 → ∀ S' h', WW h' S' f c (fileC σ κ mN).1 (fileC σ κ mN).2.1 (n + 4096) → Kp S h S' h' → Q (0, 0, ⟨none, 0, 0⟩, (fileC σ κ mN).2.2.2) h')
    (h2 : (fileC σ κ mN).2.2.2 = 0 → decM (fileC σ κ mN).2.2.1 = none → ∀ S' h', WW h' S' f c (fileC σ κ mN).1 (fileC σ κ mN).2.1 (n + 4096) → Kp S h S' h' → Q (0, 0, ⟨none, 0, 0⟩, 10) h')
    (h3 : (fileC σ κ mN).2.2.2 = 0 → ∀ m, decM (fileC σ κ mN).2.2.1 = some m → ∀ S' h' v, WW h' S' f c (fileC σ κ mN).1 (fileC σ κ mN).2.1 (n + 4096) → Kp S h S' h' → Off S' h' v eP m.L → Q (m.n, m.e, v, 0) h') : build_Open (some (at0 c)) Q h := by
  unfold build_Open build_Open_F
  simp only [eqI_eq, show (ByteArray.mk #[109]) = mN from rfl]
  refine File_i W hn fun S' h' W' K' hsz => ?_
  generalize fileC σ κ mN = r at *
  obtain ⟨σ', κ', z, e⟩ := r
  simp only at *
  refine ite_i (fun he => ?_) (fun he => ?_)
  · exact h1 (by simpa using he) S' h' W' K'
  · have he : e = 0 := by simpa using he
    refine manDec_i hsz (fun m hm v h'' V nw E => ?_) (fun hm h'' E => ?_)
    · exact h3 he m hm S' h'' v (W'.ext E) (K'.trans (Kp.ext E)) (Off.new V nw W'.ex)
    · exact h2 he hm S' h'' (W'.ext E) (K'.trans (Kp.ext E))
end Go.Cz.S
namespace Go.Cz.S
open Go Go.Cz Go.Cz.Crc
set_option maxRecDepth 100000
set_option maxHeartbeats 1000000
set_option linter.unusedSimpArgs false
set_option linter.unusedVariables false
noncomputable def loadF (σ : FSt) (κ : CSt) (m : Man) (k : Int) : FSt × CSt × Option Shd × Int :=
  if okMan m = false ∨ k < 0 ∨ (m.L.length : Int) ≤ k then (σ, κ, none, 2) else
    if (fileC σ κ (nameB k)).2.2.2 ≠ 0 then ((fileC σ κ (nameB k)).1, (fileC σ κ (nameB k)).2.1, none, (fileC σ κ (nameB k)).2.2.2) else
      match decS (fileC σ κ (nameB k)).2.2.1 with
      | none => ((fileC σ κ (nameB k)).1, (fileC σ κ (nameB k)).2.1, none, 10)
      | some s => if (s.a, s.b) ≠ at_ m.L k.toNat then ((fileC σ κ (nameB k)).1, (fileC σ κ (nameB k)).2.1, none, 130) else ((fileC σ κ (nameB k)).1, (fileC σ κ (nameB k)).2.1, some s, 0)
def jobL (c : Nat) (m : Man) (v : Sl) (k : Int) (z : ByteArray) (x y : Int) (w : Sl) : List Value := [.pointer (some (at0 c)), .int .i64 m.n, .int .i64 m.e, .slice v.a v.len v.cap, .int .i64 k, .string z, .int .i64 x, .int .i64 y, .slice w.a w.len w.cap]
theorem Off.one {α : Type} {S : Nat → Prop} {h h2 : H} {v : Sl} {E : Enc α} {l : List α} {b : Nat} (A : Off S h v E l) (g : Fr (fun k => k = b) h h2) (hb : l ≠ [] → ¬ v.on b) : Off S h2 v E l := by
  obtain ⟨A, hn⟩ := A
  by_cases hl : l = []
  · subst hl
    exact ⟨⟨A.len, A.le, A.nil, fun a ha h => absurd rfl h⟩, fun h => absurd rfl h⟩
  · exact ⟨A.fr g fun k hk e => by subst e; exact hb hl hk, hn⟩
structure Job (h0 : H) (S0 : Nat → Prop) (b f c : Nat) (m : Man) (v : Sl) (k : Int) (h : H) (S : Nat → Prop) (σ : FSt) (κ : CSt) (n : Int) (z : ByteArray) (x y : Int) (w : Sl) : Prop where
  W : WW h S f c σ κ n
  K : Kp S0 h0 S h
  o : Obj h b (jobL c m v k z x y w)
  nb : ¬ S b
  A : Off S h v eP m.L
  av : m.L ≠ [] → ¬ v.on b
  b0 : h0 b = none
end Go.Cz.S
namespace Go.Cz.S
open Go Go.Cz Go.Cz.Crc
set_option maxRecDepth 100000
set_option maxHeartbeats 1000000
set_option linter.unusedSimpArgs false
set_option linter.unusedVariables false
theorem law08_Same_i {a b : Sl} {l m : List (Int × Int)} {h : H} {Q : Bool → HProp} (A : Arr h a eP l) (B : Arr h b eP m) (hl : l.length ≤ 1000000) (hQ : Q (decide (l = m)) h) : law08_Same (a, b) Q h := by
  have e : law08_Same = law09_Same := rfl
  rw [e]; exact law09_Same_spec A B (by omega) hQ
theorem law11_Same_i {n e n' e' : Int} {a b : Sl} {l m : List (Int × Int)} {h : H} {Q : Bool → HProp} (A : Arr h a eP l) (B : Arr h b eP m) (hl : l.length ≤ 1000000) (hQ : Q (decide ((n, e, l) = (n', e', m))) h) : law11_Same (n, e, a, n', e', b) Q h := by
  unfold law11_Same law11_Same_F
  simp only [eqI_eq]
  refine with_u (ite_i (fun e1 => ?_) fun e1 => ?_)
  · have e1 : n = n' := by simpa using e1
    refine ite_i (fun e2 => ?_) fun e2 => ?_
    · have e2 : e = e' := by simpa using e2
      subst e1; subst e2
      refine law09_Same_spec A B (by omega) ?_
      rw [show decide (l = m) = decide ((n, e, l) = (n, e, m)) by simp]
      exact hQ
    · have e2 : e ≠ e' := by simpa using e2
      rw [decide_eq_false (by simp [e2])] at hQ; exact hQ
  · have e1 : n ≠ n' := by simpa using e1
    rw [decide_eq_false (by simp [e1])] at hQ; exact hQ
theorem Arr.txt {h : H} {v : Sl} {L : List ByteArray} (A : Arr h v eS L) {i : Nat} (hi : i < L.length) {K : ByteArray → HProp} (hK : K L[i] h) : indexW i v 1 (fun a => loadS a K) h := by
  refine A.str (by omega) (by omega) ?_
  rw [Int.toNat_natCast, List.getD_eq_getElem?_getD, List.getElem?_eq_getElem hi]
  exact hK
theorem Texts_i {a b : Sl} {l m : List ByteArray} {h : H} {Q : Bool → HProp} (A : Arr h a eS l) (B : Arr h b eS m) (hl : l.length ≤ 1000000) (hQ : Q (decide (l = m)) h) : law05_Texts (a, b) Q h := by
  unfold law05_Texts
  have la := A.len
  have lb := B.len
  simp only [eqI_eq, ltI_eq, eqS_eq]
  refine ite_i (fun e => ?_) (fun e => ?_)
  · have : l ≠ m := by rintro rfl; simp [la, lb] at e
    rw [decide_eq_false this] at hQ; exact hQ
  · have hlm : l.length = m.length := by simp at e; omega
    refine loop_i (fun i h2 => 0 ≤ i ∧ i ≤ l.length ∧ h2 = h ∧ l.take i.toNat = m.take i.toNat) (fun i => (l.length - i).toNat) ⟨Int.le_refl _, by omega, rfl, by simp⟩ ?_
    rintro i h2 ⟨i0, i1, rfl, hj⟩ k hk
    refine ite_i (fun e => ?_) (fun e => ?_)
    · have hi : i.toNat < l.length := by simp at e; omega
      have hx : l[i.toNat]? = some l[i.toNat] := by simp [hi]
      have hy : m[i.toNat]? = some m[i.toNat] := by simp [hlm ▸ hi]
      have go : iteW (!decide (l[i.toNat] = m[i.toNat])) (Q false) (k (add .i64 i 1)) h2 := by
        refine ite_i (fun e2 => ?_) (fun e2 => ?_)
        · have : l ≠ m := by rintro rfl; simp at e2
          rw [decide_eq_false this] at hQ; exact hQ
        · rw [add_i64 (by omega) (by omega)]
          refine hk _ _ ⟨by omega, by omega, rfl, ?_⟩ (by omega)
          rw [show (i + 1).toNat = i.toNat + 1 by omega, List.take_add_one, List.take_add_one, hj, hx, hy]
          simp at e2
          rw [e2]
      obtain ⟨i', rfl⟩ : ∃ i' : Nat, i = i' := ⟨i.toNat, by omega⟩
      simp only [Int.toNat_natCast] at hi go
      exact Arr.txt A hi (Arr.txt B (hlm ▸ hi) go)
    · have hi : l.length ≤ i.toNat := by simp at e; omega
      rw [List.take_of_length_le hi, List.take_of_length_le (by omega)] at hj
      rw [decide_eq_true hj] at hQ; exact hQ
end Go.Cz.S
namespace Go.Cz.S
open Go Go.Cz Go.Cz.Crc
set_option maxRecDepth 100000
set_option maxHeartbeats 1000000
set_option linter.unusedSimpArgs false
set_option linter.unusedVariables false
theorem chunks_pos : ∀ (n : Nat) (d : List UInt8), d.length ≤ 122 + 122 * n → 0 < d.length → ∀ c ∈ chunks n d, 0 < c.length
  | 0, d, h, h0, c, hc => by simp [chunks] at hc; subst hc; exact h0
  | n + 1, d, h, h0, c, hc => by
    unfold chunks at hc
    split at hc
    · simp at hc; subst hc; exact h0
    · rcases List.mem_cons.1 hc with rfl | hc
      · simp; omega
      · exact chunks_pos n _ (by simp; omega) (by simp; omega) c hc
theorem chunks_full : ∀ (n : Nat) (d : List UInt8), d.length ≤ 122 + 122 * n → ∀ j, (hj : j + 1 < (chunks n d).length) → ((chunks n d)[j]'(by omega)).length = 122
  | 0, d, h, j, hj => by simp [chunks] at hj
  | n + 1, d, h, j, hj => by
    by_cases hd : d.length ≤ 122
    · have e : chunks (n + 1) d = [d] := by unfold chunks; rw [if_pos hd]
      rw [e] at hj; simp at hj
    · have e : chunks (n + 1) d = d.take 122 :: chunks n (d.drop 122) := by conv => lhs; unfold chunks; rw [if_neg hd]
      simp only [e] at hj ⊢
      cases j with
      | zero => simp; omega
      | succ j =>
        have := chunks_full n (d.drop 122) (by simp; omega) j (by simpa using hj)
        simpa using this
theorem chunks_one : ∀ (n : Nat) (d : List UInt8), d.length ≤ 122 + 122 * n → 1 < (chunks n d).length → 0 < d.length
  | 0, d, h, hj => by simp [chunks] at hj
  | n + 1, d, h, hj => by
    unfold chunks at hj
    split at hj
    · simp at hj
    · omega
theorem chunks_cnt : ∀ (n : Nat) (d : List UInt8), d.length ≤ 122 + 122 * n → (chunks n d).length ≤ d.length / 122 + 1
  | 0, d, h => by simp [chunks]
  | n + 1, d, h => by
    unfold chunks
    split
    · simp
    · have := chunks_cnt n (d.drop 122) (by simp; omega)
      rw [List.length_drop] at this
      rw [List.length_cons]
      omega
structure Cut (d : ByteArray) (cs : List (List UInt8)) : Prop where
  le : ∀ c ∈ cs, c.length ≤ 122
  full : ∀ j, (hj : j + 1 < cs.length) → (cs[j]'(by omega)).length = 122
  pos : 1 < cs.length → ∀ c ∈ cs, 0 < c.length
  join : cs.flatten = d.data.toList
  ne : cs ≠ []
  cnt : cs.length ≤ d.size / 122 + 1
theorem split_cut (d : ByteArray) : ∃ cs, Cut d cs ∧ splitP d = cs.map fun l => mkB (pageL l) := by
  have hl : d.data.toList.length ≤ 122 + 122 * d.data.toList.length := by omega
  refine ⟨chunksOf d.data.toList, ⟨chunks_le _ _ hl, chunks_full _ _ hl, fun h => chunks_pos _ _ hl (chunks_one _ _ hl h), chunks_join _ _, chunks_ne _ _, ?_⟩, rfl⟩
  have := chunks_cnt _ _ hl
  rw [size_data] at this
  exact this
theorem split_cnt (d : ByteArray) : 1 ≤ (splitP d).length ∧ (splitP d).length ≤ d.size / 122 + 1 := by
  obtain ⟨cs, C, e⟩ := split_cut d
  rw [e, List.length_map]
  exact ⟨List.length_pos_iff.2 C.ne, C.cnt⟩
def OkFrm (σ : FSt) (x : Frm) : Prop := 0 ≤ x.i ∧ x.i < (σ.rows x.name).length ∧ decP ((σ.rows x.name).getD x.i.toNat ⟨#[]⟩) = some x.data
structure Fresh (σ : FSt) (κ : CSt) : Prop where
  most : 1 ≤ κ.most
  ok : ∀ x ∈ κ.L, x.pins = 0 ∧ OkFrm σ x
theorem read_whole {σ : FSt} (hl : σ.left = -1) {nm : ByteArray} {i : Int} (h0 : 0 ≤ i) (h1 : i < (σ.rows nm).length) : σ.read nm i = (σ, (σ.rows nm).getD i.toNat ⟨#[]⟩, 0) := by
  unfold FSt.read
  rw [if_neg (by omega), if_neg (by omega), if_neg (by omega)]
theorem Fresh.room {σ : FSt} {κ : CSt} (F : Fresh σ κ) : κ.room = true := by
  unfold CSt.room
  by_cases h : (κ.L.length : Int) < κ.most
  · rw [decide_eq_true h]; rfl
  · have hne : κ.L ≠ [] := fun e => by rw [e] at h; have := F.most; simp at h; omega
    obtain ⟨x, r, e⟩ := List.exists_cons_of_ne_nil hne
    have : κ.L.any (fun x => decide (x.pins = 0)) = true := List.any_eq_true.2 ⟨x, by rw [e]; exact List.mem_cons_self .., decide_eq_true (F.ok x (by rw [e]; exact List.mem_cons_self ..)).1⟩
    rw [this, Bool.or_true]
theorem eraseFirst_mem : ∀ {L : List Frm} {x : Frm}, x ∈ eraseFirst L → x ∈ L
  | y :: r, x, h => by
    simp only [eraseFirst] at h
    split at h
    · exact List.mem_cons_of_mem _ h
    · rcases List.mem_cons.1 h with h | h
      · rw [h]; exact List.mem_cons_self ..
      · exact List.mem_cons_of_mem _ (eraseFirst_mem h)
theorem unpin_last {κ : CSt} {nm : ByteArray} {i : Int} {L : List Frm} {x : Frm} (hL : κ.L = L ++ [x]) (hx : isAt nm i x = true) (hn : ∀ y ∈ L, isAt nm i y = false) (hp : x.pins ≠ 0) : (unpinC κ nm i).1 = { κ with L := L ++ [{ x with pins := x.pins - 1 }] } := by
  have hg : κ.get nm i = some x := by
    unfold CSt.get
    rw [hL, List.find?_append, List.find?_eq_none.2 fun y hy => by rw [hn y hy]; decide]
    simp [hx]
  unfold unpinC
  rw [hg]
  simp only []
  rw [if_neg hp]
  unfold CSt.upd
  rw [hL, List.map_append]
  have : L.map (fun y => if isAt nm i y = true then { y with pins := y.pins - 1 } else y) = L := by
    conv => rhs; rw [← List.map_id L]
    apply List.map_congr_left
    intro y hy
    rw [hn y hy]; rfl
  rw [this, List.map_cons, if_pos hx]
  rfl
theorem pin_fresh {σ : FSt} {κ : CSt} (F : Fresh σ κ) (hl : σ.left = -1) {nm : ByteArray} {i : Int} {d : ByteArray} (h0 : 0 ≤ i) (h1 : i < (σ.rows nm).length) (hd : decP ((σ.rows nm).getD i.toNat ⟨#[]⟩) = some d) :
    ∃ κ1 κ2, pinC σ κ nm i = (σ, κ1, d, 0) ∧ (unpinC κ1 nm i).1 = κ2 ∧ Fresh σ κ2 ∧ κ2.most = κ.most := by
  unfold pinC
  cases hg : κ.get nm i with
  | some x =>
    rw [getC_some hg]
    have hx := List.mem_of_find?_eq_some hg
    have hat : isAt nm i x = true := List.find?_some hg
    obtain ⟨en, ei⟩ := isAt_iff.1 hat
    have hox := F.ok x hx
    have hdx : x.data = d := by
      have := hox.2.2.2
      rw [en, ei, hd] at this
      exact (Option.some.inj this).symm
    have hu : κ.use nm i (fun x => { x with pins := x.pins + 1 }) = { κ with L := κ.L.filter (fun y => !isAt nm i y) ++ [{ x with pins := x.pins + 1 }] } := by
      unfold CSt.use; rw [hg]
    refine ⟨κ.use nm i (fun x => { x with pins := x.pins + 1 }), _, by rw [hdx], unpin_last (L := κ.L.filter fun y => !isAt nm i y) (x := { x with pins := x.pins + 1 }) (by rw [hu]) hat (fun y hy => by simpa using (List.mem_filter.1 hy).2) (by show x.pins + 1 ≠ 0; rw [hox.1]; decide), ⟨by rw [hu]; exact F.most, fun y hy => ?_⟩, by rw [hu]⟩
    rcases List.mem_append.1 hy with h | h
    · exact F.ok y (List.mem_filter.1 h).1
    · have h := List.mem_singleton.1 h
      subst h
      exact ⟨by show x.pins + 1 - 1 = 0; rw [hox.1]; rfl, hox.2⟩
  | none =>
    rw [getC_none hg, if_neg (by rw [F.room]; decide), read_whole hl h0 h1]
    simp only [ne_eq, not_true_eq_false, if_false]
    rw [hd]
    simp only []
    have hno : ∀ y ∈ κ.L, isAt nm i y = false := fun y hy => by
      have := List.find?_eq_none.1 hg y hy
      simpa using this
    unfold CSt.add
    refine ⟨_, _, rfl, unpin_last (L := if (κ.L.length : Int) ≥ κ.most then eraseFirst κ.L else κ.L) (x := ⟨nm, i, d, 0 + 1⟩) rfl (isAt_iff.2 ⟨rfl, rfl⟩) (fun y hy => ?_) (by show (0 : Int) + 1 ≠ 0; decide), ⟨F.most, fun y hy => ?_⟩, rfl⟩
    · split at hy
      · exact hno y (eraseFirst_mem hy)
      · exact hno y hy
    · rcases List.mem_append.1 hy with h | h
      · split at h
        · exact F.ok y (eraseFirst_mem h)
        · exact F.ok y h
      · have h := List.mem_singleton.1 h
        subst h
        exact ⟨by show (0 : Int) + 1 - 1 = 0; rfl, h0, h1, hd⟩
theorem fileC_fresh {σ : FSt} {κ : CSt} (F : Fresh σ κ) (hl : σ.left = -1) {nm d : ByteArray} (hr : σ.rows nm = splitP d) : ∃ κ', fileC σ κ nm = (σ, κ', d, 0) ∧ Fresh σ κ' ∧ κ'.most = κ.most := by
  obtain ⟨cs, C, e⟩ := split_cut d
  have hlen : (σ.rows nm).length = cs.length := by rw [hr, e, List.length_map]
  have hpos := List.length_pos_iff.2 C.ne
  unfold fileC
  rw [if_neg (by omega), hlen]
  have key : ∀ (k : Nat) (κ : CSt), k ≤ cs.length → Fresh σ κ → ∃ κ', fileGo nm cs.length k σ κ (cs.take (cs.length - k)).flatten true = (σ, κ', d, 0) ∧ Fresh σ κ' ∧ κ'.most = κ.most := by
    intro k
    induction k with
    | zero =>
      intro κ _ F
      refine ⟨κ, ?_, F, rfl⟩
      simp only [fileGo, Nat.sub_zero, List.take_length, if_true]
      rw [C.join, mkB_of]
    | succ k ih =>
      intro κ hk F
      have hj : cs.length - (k + 1) < cs.length := by omega
      have hpage : (σ.rows nm).getD (((cs.length - (k + 1) : Nat) : Int)).toNat ⟨#[]⟩ = mkB (pageL cs[cs.length - (k + 1)]) := by
        rw [Int.toNat_natCast, hr, e, List.getD_eq_getElem?_getD, List.getElem?_map, List.getElem?_eq_getElem hj]; rfl
      have hcl := C.le _ (List.getElem_mem hj)
      have hdec : decP ((σ.rows nm).getD (((cs.length - (k + 1) : Nat) : Int)).toNat ⟨#[]⟩) = some (mkB cs[cs.length - (k + 1)]) := by
        rw [hpage]
        have := dec_page (d := mkB cs[cs.length - (k + 1)]) (by rw [mkB_size]; exact hcl)
        unfold pageB at this
        rw [mkB_data] at this
        exact this
      obtain ⟨κ1, κ2, e1, e2, F2, m2⟩ := pin_fresh F hl (nm := nm) (i := ((cs.length - (k + 1) : Nat) : Int)) (by omega) (by omega) hdec
      obtain ⟨κ3, e3, F3, m3⟩ := ih κ2 (by omega) F2
      refine ⟨κ3, ?_, F3, m3.trans m2⟩
      rw [fileGo_succ, e1]
      simp only [ne_eq, not_true_eq_false, if_false]
      rw [e2]
      have hw : (true && (decide (k = 0) || decide ((mkB cs[cs.length - (k + 1)]).size = 122)) && (decide (cs.length = k + 1) || decide (0 < (mkB cs[cs.length - (k + 1)]).size))) = true := by
        rw [mkB_size]
        simp only [Bool.true_and, Bool.and_eq_true, Bool.or_eq_true, decide_eq_true_eq]
        refine ⟨?_, ?_⟩
        · by_cases h : k = 0
          · exact .inl h
          · exact .inr (C.full _ (by omega))
        · by_cases h : cs.length = k + 1
          · exact .inl h
          · exact .inr (C.pos (by omega) _ (List.getElem_mem hj))
      rw [hw]
      have ht : (cs.take (cs.length - (k + 1))).flatten ++ (mkB cs[cs.length - (k + 1)]).data.toList = (cs.take (cs.length - k)).flatten := by
        rw [mkB_data, show cs.length - k = cs.length - (k + 1) + 1 by omega, List.take_succ_eq_append_getElem hj, List.flatten_append]
        simp
      rw [ht]; exact e3
  have := key cs.length κ (Nat.le_refl _) F
  rw [Nat.sub_self] at this
  simpa using this
end Go.Cz.S
namespace Go.Cz.S
open Go Go.Cz Go.Cz.Crc
set_option maxRecDepth 100000
set_option maxHeartbeats 1000000
set_option linter.unusedSimpArgs false
set_option linter.unusedVariables false
theorem set_rows {σ : FSt} (G : GoodF σ) (nm : ByteArray) (ps : List ByteArray) (x : ByteArray) : (σ.set nm ps).rows x = if x = nm then ps else σ.rows x := setL_rows G.rise nm ps x
theorem GoodF.remove {σ : FSt} (G : GoodF σ) (nm : ByteArray) : GoodF (σ.remove nm).1 := by
  unfold FSt.remove
  split
  · exact G
  · have := G.used
    refine G.set (fun h => absurd rfl h) (fun p hp => by cases hp) (by simp only [List.length_nil]; omega)
theorem remove_rows {σ : FSt} (G : GoodF σ) (nm x : ByteArray) : (σ.remove nm).1.rows x = if x = nm then [] else σ.rows x := by
  unfold FSt.remove
  split
  · rename_i h
    by_cases e : x = nm
    · rw [if_pos e, e]; exact List.length_eq_zero_iff.1 h
    · rw [if_neg e]
  · exact set_rows G nm [] x
theorem remove_same (σ : FSt) (nm : ByteArray) : (σ.remove nm).1.left = σ.left ∧ (σ.remove nm).1.room = σ.room := by
  unfold FSt.remove; split <;> exact ⟨rfl, rfl⟩
theorem write_err {σ : FSt} {nm : ByteArray} {ps : List ByteArray} (h : (σ.write nm ps).2 ≠ 0) : (σ.write nm ps).1 = σ := by
  unfold FSt.write at *
  split
  · rfl
  · split
    · rfl
    · rename_i h1 h2; rw [if_neg h1, if_neg h2] at h; exact absurd rfl h
theorem write_ok {σ : FSt} {nm : ByteArray} {ps : List ByteArray} (h : (σ.write nm ps).2 = 0) : (σ.write nm ps).1 = σ.set nm ps ∧ okName nm = true ∧ (∀ p ∈ ps, p.size = 128) ∧ (σ.used : Int) - (σ.rows nm).length + ps.length ≤ σ.room := by
  unfold FSt.write at *
  split at h
  · cases h
  · rename_i h1
    split at h
    · cases h
    · rename_i h2
      rw [if_neg h1, if_neg h2]
      refine ⟨rfl, ?_, fun p hp => ?_, by omega⟩
      · cases e : okName nm with
        | true => rfl
        | false => exact absurd (.inl e) h1
      · refine Decidable.byContradiction fun hs => h1 (.inr (List.any_eq_true.2 ⟨p, hp, decide_eq_true hs⟩))
theorem write_does {σ : FSt} {nm : ByteArray} {ps : List ByteArray} (h1 : okName nm = true) (h2 : ∀ p ∈ ps, p.size = 128) : σ.write nm ps = if (σ.used : Int) - (σ.rows nm).length + ps.length > σ.room then (σ, 61) else (σ.set nm ps, 0) := by
  unfold FSt.write
  rw [if_neg]
  rintro (h | h)
  · rw [h1] at h; cases h
  · obtain ⟨p, hp, h⟩ := List.any_eq_true.1 h
    exact of_decide_eq_true h (h2 p hp)
theorem GoodF.write {σ : FSt} (G : GoodF σ) (nm : ByteArray) (ps : List ByteArray) : GoodF (σ.write nm ps).1 := by
  by_cases h : (σ.write nm ps).2 = 0
  · obtain ⟨e, h1, h2, h3⟩ := write_ok h
    rw [e]; exact G.set (fun _ => h1) h2 h3
  · rw [write_err h]; exact G
def isG (x : ByteArray) : Prop := x = mN ∨ ∃ i : Nat, i < 16 ∧ x = nameB i
theorem wipe_facts {σ : FSt} (G : GoodF σ) : ∀ i : Nat, i ≤ 16 → GoodF (wipeN σ i) ∧ (wipeN σ i).left = σ.left ∧ (wipeN σ i).room = σ.room ∧ ∀ x, ((x = mN ∨ ∃ j : Nat, j < i ∧ x = nameB j) → (wipeN σ i).rows x = []) ∧ (¬ (x = mN ∨ ∃ j : Nat, j < i ∧ x = nameB j) → (wipeN σ i).rows x = σ.rows x) := by
  intro i
  induction i with
  | zero =>
    intro _
    have hs := remove_same σ mN
    refine ⟨G.remove mN, hs.1, hs.2, fun x => ⟨fun h => ?_, fun h => ?_⟩⟩
    · rcases h with h | ⟨j, hj, _⟩
      · show (σ.remove mN).1.rows x = []
        rw [remove_rows G, if_pos h]
      · omega
    · show (σ.remove mN).1.rows x = _
      rw [remove_rows G, if_neg fun e => h (.inl e)]
  | succ i ih =>
    intro hi
    obtain ⟨g, l, r, w⟩ := ih (by omega)
    rw [wipeN_succ]
    have hs := remove_same (wipeN σ i) (nameB i)
    refine ⟨g.remove _, hs.1.trans l, hs.2.trans r, fun x => ⟨fun h => ?_, fun h => ?_⟩⟩
    · rw [remove_rows g]
      by_cases e : x = nameB i
      · rw [if_pos e]
      · rw [if_neg e]
        refine (w x).1 ?_
        rcases h with h | ⟨j, hj, h⟩
        · exact .inl h
        · refine .inr ⟨j, ?_, h⟩
          rcases Nat.lt_or_ge j i with h5 | h5
          · exact h5
          · obtain rfl : j = i := by omega
            exact absurd h e
    · rw [remove_rows g, if_neg fun e => h (.inr ⟨i, by omega, e⟩)]
      refine (w x).2 fun h5 => h ?_
      rcases h5 with h5 | ⟨j, hj, h5⟩
      · exact .inl h5
      · exact .inr ⟨j, by omega, h5⟩
theorem writeAll_facts (M : List (Int × Int)) : ∀ (P : List (Int × Int)) (i : Nat) (σ : FSt), GoodF σ → i + P.length ≤ 16 → (writeAll M i P σ).2 = 0 →
    GoodF (writeAll M i P σ).1 ∧ (writeAll M i P σ).1.left = σ.left ∧ (writeAll M i P σ).1.room = σ.room ∧
    (∀ j, (hj : j < P.length) → (writeAll M i P σ).1.rows (nameB ((i + j : Nat) : Int)) = splitP (mkB (encS (shardF M P[j])))) ∧
    ∀ x, (∀ j : Nat, j < P.length → x ≠ nameB ((i + j : Nat) : Int)) → (writeAll M i P σ).1.rows x = σ.rows x
  | [], i, σ, G, _, _ => ⟨G, rfl, rfl, fun j hj => by simp at hj, fun x _ => rfl⟩
  | p :: r, i, σ, G, hl, h => by
    rw [writeAll_cons] at h ⊢
    rw [List.length_cons] at hl
    by_cases hw : (σ.write (nameB (i : Int)) (splitP (mkB (encS (shardF M p))))).2 ≠ 0
    · rw [if_pos hw] at h; exact absurd h hw
    · rw [if_neg hw] at h ⊢
      have hw : (σ.write (nameB (i : Int)) (splitP (mkB (encS (shardF M p))))).2 = 0 := Decidable.byContradiction hw
      obtain ⟨e, h1, h2, h3⟩ := write_ok hw
      have G1 := G.write (nameB (i : Int)) (splitP (mkB (encS (shardF M p))))
      have hrow := set_rows G (nameB (i : Int)) (splitP (mkB (encS (shardF M p))))
      rw [e] at h G1 ⊢
      obtain ⟨g, l, rm, w, o⟩ := writeAll_facts M r (i + 1) _ G1 (by omega) h
      refine ⟨g, l, rm, fun j hj => ?_, fun x hx => ?_⟩
      · cases j with
        | zero =>
          rw [o _ fun j hj e => ?_]
          · rw [hrow, if_pos (by simp)]; rfl
          · have := nameB_inj (i := ((i + 0 : Nat) : Int)) (by omega) e
            omega
        | succ j =>
          have := w j (by simpa using hj)
          rw [show i + (j + 1) = i + 1 + j by omega]
          exact this
      · rw [o x fun j hj => ?_, hrow, if_neg ?_]
        · have := hx 0 (by simp)
          simpa using this
        · have := hx (j + 1) (by simpa using hj)
          rw [show i + (j + 1) = i + 1 + j by omega] at this
          exact this
structure Built (σ σ' : FSt) (n : Int) (M P : List (Int × Int)) : Prop where
  good : GoodF σ'
  left : σ'.left = σ.left
  room : σ'.room = σ.room
  man : σ'.rows mN = splitP (mkB (encM ⟨n, M.length, P⟩))
  shard : ∀ j, (hj : j < P.length) → σ'.rows (nameB (j : Int)) = splitP (mkB (encS (shardF M P[j])))
  none : ∀ j : Nat, P.length ≤ j → j < 16 → σ'.rows (nameB (j : Int)) = []
  else_ : ∀ x, ¬ isG x → σ'.rows x = σ.rows x
  okm : okMan ⟨n, M.length, P⟩ = true
  oks : ∀ p ∈ P, okShard (shardF M p) = true
theorem built_of {σ : FSt} (G : GoodF σ) {n : Int} {L : List (Int × Int)} {s : Int} (h : (buildF σ n L s).2 = 0) : Built σ (buildF σ n L s).1 n (normG L) (cutL n s) ∧ normE n L = 0 ∧ badCut n s = false := by
  unfold buildF at h ⊢
  by_cases h1 : normE n L ≠ 0
  · rw [if_pos h1] at h; exact absurd h h1
  rw [if_neg h1] at h ⊢
  have h1 : normE n L = 0 := Decidable.byContradiction h1
  by_cases h2 : badCut n s = true
  · rw [if_pos h2] at h; cases h
  rw [if_neg h2] at h ⊢
  have h2 : badCut n s = false := by simpa using h2
  obtain ⟨c1, c2, c3⟩ := cut_facts h2
  have hbad : badG n L = false := by
    cases e : badG n L with
    | false => rfl
    | true => unfold normE at h1; rw [if_pos e] at h1; cases h1
  have hml : (normG L).length ≤ 4096 := by
    unfold normE at h1
    rw [if_neg (by rw [hbad]; decide)] at h1
    split at h1
    · cases h1
    · omega
  obtain ⟨n1, n2, hLe⟩ := good_edges hbad
  have hM : ∀ x ∈ normG L, 0 ≤ x.1 ∧ x.1 < n ∧ 0 ≤ x.2 ∧ x.2 < n ∧ x.1 ≠ x.2 := fun x hx => hLe x (norm_mem.1 hx)
  have hR := norm_rise L
  refine ⟨?_, h1, h2⟩
  generalize normG L = M at *
  generalize cutL n s = P at *
  obtain ⟨wg, wl, wr, ww⟩ := wipe_facts G 16 (Nat.le_refl _)
  unfold endB at h ⊢
  by_cases h3 : (writeAll M 0 P (wipeN σ 16)).2 ≠ 0
  · rw [if_pos h3] at h; exact absurd h h3
  rw [if_neg h3] at h ⊢
  have h3 : (writeAll M 0 P (wipeN σ 16)).2 = 0 := Decidable.byContradiction h3
  obtain ⟨ag, al, ar, aw, ao⟩ := writeAll_facts M P 0 _ wg (by omega) h3
  generalize (writeAll M 0 P (wipeN σ 16)).1 = σ1 at *
  obtain ⟨e, f1, f2, f3⟩ := write_ok h
  have gw := ag.write mN (splitP (mkB (encM ⟨n, M.length, P⟩)))
  have hrow := set_rows ag mN (splitP (mkB (encM ⟨n, M.length, P⟩)))
  rw [e] at gw ⊢
  refine ⟨gw, al.trans wl, ar.trans wr, ?_, fun j hj => ?_, fun j hj hj2 => ?_, fun x hx => ?_, ?_, fun p hp => okShard_out hM n2 hR hml (c3 p hp)⟩
  · rw [hrow, if_pos rfl]
  · rw [hrow, if_neg (nameB_m _)]
    have := aw j hj
    rwa [Nat.zero_add] at this
  · rw [hrow, if_neg (nameB_m _), ao _ fun k hk e => ?_]
    · exact (ww _).1 (.inr ⟨j, hj2, rfl⟩)
    · have := nameB_inj (i := (j : Int)) (by omega) e
      omega
  · rw [hrow, if_neg fun e => hx (.inl e), ao x fun k hk e => hx (.inr ⟨0 + k, by omega, e⟩)]
    exact (ww x).2 hx
  · unfold okMan
    simp only [Bool.and_eq_true, decide_eq_true_eq]
    omega
end Go.Cz.S
namespace Go.Cz.S
open Go Go.Cz Go.Cz.Crc
set_option maxRecDepth 100000
set_option maxHeartbeats 1000000
set_option linter.unusedSimpArgs false
set_option linter.unusedVariables false
def pagesOf (M : List (Int × Int)) (p : Int × Int) : Nat := (splitP (mkB (encS (shardF M p)))).length
def costL (M P : List (Int × Int)) : Nat := (P.map (pagesOf M)).sum
theorem set_used {σ : FSt} (G : GoodF σ) (nm : ByteArray) (ps : List ByteArray) : ((σ.set nm ps).used : Int) = σ.used - (σ.rows nm).length + ps.length := by
  have := used_set (nm := nm) (ps := ps) G.rise
  have e1 : σ.used = usedL σ.L := rfl
  have e2 : σ.rows nm = rowsL σ.L nm := rfl
  have e3 : (σ.set nm ps).used = usedL (setL nm ps σ.L) := rfl
  rw [e1, e2, e3]; omega
theorem rows_used {σ : FSt} (G : GoodF σ) (nm : ByteArray) : (σ.rows nm).length ≤ σ.used := rows_le nm G.rise
theorem writeAll_room (M : List (Int × Int)) : ∀ (P : List (Int × Int)) (i : Nat) (σ : FSt), GoodF σ → i + P.length ≤ 16 → (σ.used : Int) + costL M P ≤ σ.room →
    (writeAll M i P σ).2 = 0 ∧ ((writeAll M i P σ).1.used : Int) ≤ σ.used + costL M P
  | [], i, σ, G, _, _ => ⟨rfl, by show (σ.used : Int) ≤ _; omega⟩
  | p :: r, i, σ, G, hl, h => by
    rw [List.length_cons] at hl
    have hc : costL M (p :: r) = pagesOf M p + costL M r := by simp [costL]
    have hr := rows_used G (nameB (i : Int))
    have hd := write_does (σ := σ) (nm := nameB (i : Int)) (ps := splitP (mkB (encS (shardF M p)))) (nameB_ok (by omega)) splitP_128
    have hp : (splitP (mkB (encS (shardF M p)))).length = pagesOf M p := rfl
    rw [hp, if_neg (by omega)] at hd
    have hu := set_used G (nameB (i : Int)) (splitP (mkB (encS (shardF M p))))
    have G1 := G.write (nameB (i : Int)) (splitP (mkB (encS (shardF M p))))
    rw [writeAll_cons]
    rw [hd] at G1 ⊢
    rw [if_neg (by simp)]
    have ih := writeAll_room M r (i + 1) (σ.set (nameB (i : Int)) (splitP (mkB (encS (shardF M p))))) G1 (by omega) (by show ((σ.set _ _).used : Int) + _ ≤ σ.room; omega)
    exact ⟨ih.1, by have := ih.2; show ((writeAll M (i + 1) r (σ.set (nameB (i : Int)) (splitP (mkB (encS (shardF M p)))))).1.used : Int) ≤ _; omega⟩
theorem build_room {σ : FSt} (G : GoodF σ) {n : Int} {L : List (Int × Int)} {s : Int} (h1 : normE n L = 0) (h2 : badCut n s = false) (h : ((wipeN σ 16).used : Int) + costL (normG L) (cutL n s) + 4 ≤ σ.room) : (buildF σ n L s).2 = 0 := by
  unfold buildF
  rw [if_neg (by rw [h1]; simp), if_neg (by rw [h2]; decide)]
  obtain ⟨c1, c2, c3⟩ := cut_facts h2
  obtain ⟨wg, wl, wr, ww⟩ := wipe_facts G 16 (Nat.le_refl _)
  have hml : (normG L).length ≤ 4096 := by
    unfold normE at h1
    split at h1
    · cases h1
    · split at h1
      · cases h1
      · omega
  generalize normG L = M at *
  generalize cutL n s = P at *
  obtain ⟨a1, a2⟩ := writeAll_room M P 0 _ wg (by omega) (by rw [wr]; omega)
  obtain ⟨ag, al, ar, _⟩ := writeAll_facts M P 0 _ wg (by omega) a1
  unfold endB
  rw [if_neg (by rw [a1]; simp)]
  generalize (writeAll M 0 P (wipeN σ 16)).1 = σ1 at *
  have om : okMan ⟨n, M.length, P⟩ = true := by
    unfold okMan
    simp only [Bool.and_eq_true, decide_eq_true_eq]
    omega
  have ht := textM_len om
  have hs := (split_cnt (mkB (encM ⟨n, M.length, P⟩))).2
  have hz : (mkB (encM ⟨n, M.length, P⟩)).size ≤ 404 := by rw [mkB_size]; simp only [encM, sealed, List.length_append, crc4_len]; omega
  rw [write_does mN_ok splitP_128, if_neg (by rw [ar, wr]; omega)]
theorem encS_len2 {s : Shd} (h : okShard s = true) : (encS s).length ≤ 46 + 16 * s.out.length + 11 * manyS s.out := by
  have h1 := lists_len s.out
  have h2 := putN_len s.a.toNat
  have h3 := putN_len s.b.toNat
  have h4 := putN_len (manyS s.out)
  have h5 := wl_33 (degs s.out)
  have h6 : (packB (wl (degs s.out)) (degs s.out)).data.toList.length ≤ 5 * s.out.length + 1 := by
    unfold packB
    rw [mkB_data, Bits.bytes_len]
    have : (degs s.out).length = s.out.length := by simp [degs]
    rw [this]
    have : s.out.length * wl (degs s.out) ≤ s.out.length * 33 := Nat.mul_le_mul_left _ h5
    omega
  simp only [encS, sealed, headS, restS, List.length_append, List.length_cons, List.length_nil, crc4_len]
  omega
theorem filter_mid (M : List (Int × Int)) {a b c : Int} (h1 : a ≤ b) (h2 : b ≤ c) : (M.filter fun x => decide (a ≤ x.1) && decide (x.1 < b)).length + (M.filter fun x => decide (b ≤ x.1) && decide (x.1 < c)).length = (M.filter fun x => decide (a ≤ x.1) && decide (x.1 < c)).length := by
  induction M with
  | nil => rfl
  | cons x r ih =>
    simp only [List.filter_cons]
    by_cases e1 : a ≤ x.1 ∧ x.1 < b
    · rw [if_pos (by simp [e1]), if_neg (by simp; omega), if_pos (by simp only [Bool.and_eq_true, decide_eq_true_eq]; omega)]
      simp only [List.length_cons]; omega
    · rw [if_neg (by simp; omega)]
      by_cases e2 : b ≤ x.1 ∧ x.1 < c
      · rw [if_pos (by simp [e2]), if_pos (by simp only [Bool.and_eq_true, decide_eq_true_eq]; omega)]
        simp only [List.length_cons]; omega
      · rw [if_neg (by simp; omega), if_neg (by simp; omega)]
        exact ih
theorem many_out (M : List (Int × Int)) {a b : Int} (h : a ≤ b) : manyS (outE M a b) = (M.filter fun x => decide (a ≤ x.1) && decide (x.1 < b)).length := by
  unfold outE
  rw [sum_out]
  congr 1
  apply List.filter_congr
  intro x _
  rw [show a + ((b - a).toNat : Int) = b by omega]
theorem cost_walk (M : List (Int × Int)) : ∀ (P : List (Int × Int)) (a n : Int), walkL a P = some n → (∀ p ∈ P, okShard (shardF M p) = true) →
    (122 * costL M P : Int) ≤ 168 * P.length + 16 * (n - a) + 11 * (M.filter fun x => decide (a ≤ x.1) && decide (x.1 < n)).length
  | [], a, n, h, _ => by
    simp only [walkL, Option.some.injEq] at h
    subst h
    have : costL M [] = 0 := rfl
    rw [this, List.length_nil]
    omega
  | p :: r, a, n, h, ok => by
    simp only [walkL] at h
    split at h
    · rename_i hp
      obtain ⟨rfl, hp⟩ := hp
      have ih := cost_walk M r p.2 n h fun q hq => ok q (List.mem_cons_of_mem _ hq)
      have hle := (walk_mem r p.2 n h).1
      have hc : costL M (p :: r) = pagesOf M p + costL M r := by simp [costL]
      have okp := ok p (List.mem_cons_self ..)
      have hl := encS_len2 okp
      have hs := (split_cnt (mkB (encS (shardF M p)))).2
      rw [mkB_size] at hs
      have hpg : (splitP (mkB (encS (shardF M p)))).length = pagesOf M p := rfl
      have ho : (shardF M p).out.length = (p.2 - p.1).toNat := outE_len _ _ _
      have hm : manyS (shardF M p).out = (M.filter fun x => decide (p.1 ≤ x.1) && decide (x.1 < p.2)).length := many_out M (by omega)
      have hf := filter_mid M (a := p.1) (b := p.2) (c := n) (by omega) hle
      rw [hm, ho] at hl
      rw [List.length_cons]
      omega
    · cases h
theorem cost_bd {n : Int} {M P : List (Int × Int)} (h : checkL n P = 0) (ok : ∀ p ∈ P, okShard (shardF M p) = true) : (122 * costL M P : Int) ≤ 168 * P.length + 16 * n + 11 * M.length := by
  obtain ⟨_, _, _, hw⟩ := check_facts h
  have := cost_walk M P 0 n hw ok
  have h2 := List.length_filter_le (fun x : Int × Int => decide ((0 : Int) ≤ x.1) && decide (x.1 < n)) M
  omega
end Go.Cz.S
namespace Go.Cz.S
open Go Go.Cz Go.Cz.Crc
set_option maxRecDepth 100000
set_option maxHeartbeats 1000000
set_option linter.unusedSimpArgs false
set_option linter.unusedVariables false
theorem rise_ext {α : Type} {lt : α → α → Prop} (irr : ∀ a, ¬ lt a a) (tr : ∀ a b c, lt a b → lt b c → lt a c) : ∀ {l m : List α}, l.Pairwise lt → m.Pairwise lt → (∀ x, x ∈ l ↔ x ∈ m) → l = m
  | [], [], _, _, _ => rfl
  | [], b :: s, _, _, h => absurd ((h b).2 (List.mem_cons_self ..)) (by simp)
  | a :: r, [], _, _, h => absurd ((h a).1 (List.mem_cons_self ..)) (by simp)
  | a :: r, b :: s, hl, hm, h => by
    obtain ⟨l1, l2⟩ := List.pairwise_cons.1 hl
    obtain ⟨m1, m2⟩ := List.pairwise_cons.1 hm
    have e : a = b := by
      rcases List.mem_cons.1 ((h a).1 (List.mem_cons_self ..)) with e | e
      · exact e
      · rcases List.mem_cons.1 ((h b).2 (List.mem_cons_self ..)) with e' | e'
        · exact e'.symm
        · exact absurd (tr _ _ _ (l1 b e') (m1 a e)) (irr a)
    subst e
    rw [rise_ext irr tr l2 m2 fun x => ⟨fun hx => ?_, fun hx => ?_⟩]
    · rcases List.mem_cons.1 ((h x).1 (List.mem_cons_of_mem _ hx)) with e | e
      · subst e; exact absurd (l1 x hx) (irr x)
      · exact e
    · rcases List.mem_cons.1 ((h x).2 (List.mem_cons_of_mem _ hx)) with e | e
      · subst e; exact absurd (m1 x hx) (irr x)
      · exact e
theorem ltN_irrf (a : ByteArray) : ¬ ltN a a = true := by
  simp only [ltN, decide_eq_true_eq]; exact List.lt_irrefl _
theorem ltN_trf (a b c : ByteArray) (h1 : ltN a b = true) (h2 : ltN b c = true) : ltN a c = true := by
  simp only [ltN, decide_eq_true_eq] at h1 h2 ⊢; exact List.lt_trans h1 h2
theorem names_rise {σ : FSt} (G : GoodF σ) : (namesF σ).Pairwise fun a b => ltN a b = true := by
  unfold namesF; rw [List.pairwise_map]; exact G.rise
theorem names_mem {σ : FSt} (G : GoodF σ) {x : ByteArray} : x ∈ namesF σ ↔ σ.rows x ≠ [] := by
  constructor
  · intro h
    obtain ⟨y, hy, rfl⟩ := List.mem_map.1 h
    show rowsL σ.L y.1 ≠ []
    rw [rowsL_at G.rise hy]
    exact (G.pg y hy).1
  · intro h
    exact List.mem_map.2 ⟨_, rowsL_mem h, rfl⟩
theorem split_ne (d : ByteArray) : splitP d ≠ [] := fun e => by have := (split_cnt d).1; rw [e] at this; simp at this
theorem names_built {σ σ' : FSt} {n : Int} {M P : List (Int × Int)} (B : Built σ σ' n M P) (hl : P.length ≤ 16) {x : ByteArray} : x ∈ namesF σ' ↔ x = mN ∨ (∃ j : Nat, j < P.length ∧ x = nameB j) ∨ (¬ isG x ∧ σ.rows x ≠ []) := by
  rw [names_mem B.good]
  constructor
  · intro h
    by_cases hg : isG x
    · rcases hg with e | ⟨i, hi, rfl⟩
      · exact .inl e
      · refine .inr (.inl ⟨i, ?_, rfl⟩)
        apply Decidable.byContradiction
        intro hn
        exact h (B.none i (by omega) hi)
    · exact .inr (.inr ⟨hg, by rw [← B.else_ x hg]; exact h⟩)
  · rintro (rfl | ⟨j, hj, rfl⟩ | ⟨h1, h2⟩)
    · rw [B.man]; exact split_ne _
    · rw [B.shard j hj]; exact split_ne _
    · rw [B.else_ x h1]; exact h2
def L4 : List (Int × Int) := [(0, 1), (3, 0)]
def P4 : List (Int × Int) := [(0, 2), (2, 4)]
theorem ltP_irr (a : Int × Int) : ¬ ltP a a = true := by rw [ltP_iff']; omega
theorem ltP_tr (a b c : Int × Int) (h1 : ltP a b = true) (h2 : ltP b c = true) : ltP a c = true := by rw [ltP_iff'] at h1 h2 ⊢; omega
theorem norm_same {L : List (Int × Int)} (h : Rising L) : normG L = L := rise_ext ltP_irr ltP_tr (norm_rise L) h fun x => norm_mem
theorem norm_L4 : normG L4 = L4 := norm_same (by unfold Rising; decide)
theorem norm_nil : normG [] = [] := norm_same List.Pairwise.nil
theorem cut_42 : cutL 4 2 = P4 := by decide
theorem badCut_42 : badCut 4 2 = false := by decide
theorem normE_L4 : normE 4 L4 = 0 := by
  unfold normE
  rw [if_neg (by decide), norm_L4, if_neg (by decide)]
theorem normE_nil : normE 4 [] = 0 := by
  unfold normE
  rw [if_neg (by decide), norm_nil, if_neg (by decide)]
theorem build_11 (σ : FSt) : buildF σ 4 [(1, 1)] 2 = (σ, 2) := by
  have h : normE 4 [(1, 1)] = 2 := by
    unfold normE
    rw [if_pos (by decide)]
  unfold buildF
  rw [h, if_pos (by decide)]
def fs0 (n : Int) : FSt := ⟨n, -1, []⟩
theorem good0 {n : Int} (h : 0 ≤ n ∧ n ≤ 4096) : GoodF (fs0 n) := ⟨by show -1 ≤ (-1 : Int) ∧ (-1 : Int) ≤ 9223372036854775807; decide, h, h.1, List.Pairwise.nil, fun x hx => absurd hx (by simp [fs0]), fun x hx => absurd hx (by simp [fs0])⟩
theorem used0 {σ : FSt} (G : GoodF σ) (h : ∀ x, σ.rows x = []) : σ.used = 0 := by
  have : σ.L = [] := by
    cases e : σ.L with
    | nil => rfl
    | cons y r =>
      have hy : y ∈ σ.L := by rw [e]; exact List.mem_cons_self ..
      exact absurd (h y.1) (by show rowsL σ.L y.1 ≠ []; rw [rowsL_at G.rise hy]; exact (G.pg y hy).1)
  unfold FSt.used
  rw [this]; rfl
theorem wipe0 {n : Int} (h : 0 ≤ n ∧ n ≤ 4096) : (wipeN (fs0 n) 16).used = 0 := by
  obtain ⟨wg, wl, wr, ww⟩ := wipe_facts (good0 h) 16 (Nat.le_refl _)
  refine used0 wg fun x => ?_
  by_cases hx : x = mN ∨ ∃ j : Nat, j < 16 ∧ x = nameB j
  · exact (ww x).1 hx
  · rw [(ww x).2 hx]; rfl
theorem oks_of {n : Int} {L : List (Int × Int)} {s : Int} (h1 : normE n L = 0) (h2 : badCut n s = false) : ∀ p ∈ cutL n s, okShard (shardF (normG L) p) = true := by
  obtain ⟨c1, c2, c3⟩ := cut_facts h2
  have hbad : badG n L = false := by
    cases e : badG n L with
    | false => rfl
    | true => unfold normE at h1; rw [if_pos e] at h1; cases h1
  have hml : (normG L).length ≤ 4096 := by
    unfold normE at h1
    rw [if_neg (by rw [hbad]; decide)] at h1
    split at h1
    · cases h1
    · omega
  obtain ⟨n1, n2, hLe⟩ := good_edges hbad
  exact fun p hp => okShard_out (fun x hx => hLe x (norm_mem.1 hx)) n2 (norm_rise L) hml (c3 p hp)
theorem build_fresh {room n : Int} {L : List (Int × Int)} {s : Int} (hr : 0 ≤ room ∧ room ≤ 4096) (h1 : normE n L = 0) (h2 : badCut n s = false) (h : 168 * (cutL n s).length + 16 * n + 11 * (normG L).length + 122 * 4 ≤ 122 * room) :
    (buildF (fs0 room) n L s).2 = 0 ∧ Built (fs0 room) (buildF (fs0 room) n L s).1 n (normG L) (cutL n s) := by
  have hc := cost_bd (cut_facts h2).2.1 (oks_of h1 h2)
  have e : (buildF (fs0 room) n L s).2 = 0 := build_room (good0 hr) h1 h2 (by rw [wipe0 hr]; show ((0 : Nat) : Int) + _ + 4 ≤ room; omega)
  exact ⟨e, (built_of (good0 hr) e).1⟩
def fs4 : FSt := (buildF (fs0 20) 4 L4 2).1
theorem built4 : (buildF (fs0 20) 4 L4 2).2 = 0 ∧ Built (fs0 20) fs4 4 L4 P4 := by
  have := build_fresh (room := 20) (by decide) normE_L4 badCut_42 (by rw [norm_L4, cut_42]; decide)
  rw [norm_L4, cut_42] at this
  exact this
theorem names4 : namesF fs4 = [mN, nameB 0, nameB 1] := by
  obtain ⟨_, B⟩ := built4
  refine rise_ext ltN_irrf ltN_trf (names_rise B.good) (by decide +kernel) fun x => ?_
  rw [names_built B (by decide)]
  constructor
  · rintro (rfl | ⟨j, hj, rfl⟩ | ⟨h1, h2⟩)
    · simp
    · have hj : j < 2 := hj
      rcases (by omega : j = 0 ∨ j = 1) with rfl | rfl <;> simp
    · exact absurd rfl h2
  · intro h
    simp only [List.mem_cons, List.not_mem_nil, or_false] at h
    rcases h with rfl | rfl | rfl
    · exact .inl rfl
    · exact .inr (.inl ⟨0, by decide, rfl⟩)
    · exact .inr (.inl ⟨1, by decide, rfl⟩)
theorem build_tight : (buildF (fs0 1) 4 [] 2).2 = 61 := by
  unfold buildF
  rw [if_neg (by rw [normE_nil]; decide), if_neg (by rw [badCut_42]; decide), cut_42]
  obtain ⟨wg, wl, wr, ww⟩ := wipe_facts (good0 (n := 1) (by decide)) 16 (Nat.le_refl _)
  have wu := wipe0 (n := 1) (by decide)
  have wn : (wipeN (fs0 1) 16).rows (nameB ((0 : Nat) : Int)) = [] := (ww _).1 (.inr ⟨0, by decide, rfl⟩)
  have wn1 : (wipeN (fs0 1) 16).rows (nameB ((1 : Nat) : Int)) = [] := (ww _).1 (.inr ⟨1, by decide, rfl⟩)
  have wr : (wipeN (fs0 1) 16).room = 1 := wr
  generalize wipeN (fs0 1) 16 = σ at *
  have key : (writeAll (normG []) 0 P4 σ).2 = 61 := by
    show (writeAll (normG []) 0 [(0, 2), (2, 4)] σ).2 = 61
    have h0 := (split_cnt (mkB (encS (shardF (normG []) (0, 2))))).1
    have h1 := (split_cnt (mkB (encS (shardF (normG []) (2, 4))))).1
    have w0 := write_does (σ := σ) (nm := nameB ((0 : Nat) : Int)) (ps := splitP (mkB (encS (shardF (normG []) (0, 2))))) (nameB_ok (by decide)) splitP_128
    have w1 := fun σ' : FSt => write_does (σ := σ') (nm := nameB ((0 + 1 : Nat) : Int)) (ps := splitP (mkB (encS (shardF (normG []) (2, 4))))) (nameB_ok (by decide)) splitP_128
    rw [writeAll_cons]
    generalize splitP (mkB (encS (shardF (normG []) (0, 2)))) = p1 at *
    rw [wn, wu, wr] at w0
    by_cases hc : (((0 : Nat) : Int) - (([] : List ByteArray).length : Nat) + (p1.length : Nat)) > 1
    · rw [if_pos hc] at w0
      rw [w0]
      rfl
    · rw [if_neg hc] at w0
      have hs := set_used wg (nameB ((0 : Nat) : Int)) p1
      have hr := set_rows wg (nameB ((0 : Nat) : Int)) p1 (nameB ((0 + 1 : Nat) : Int))
      rw [if_neg (by intro e; have := nameB_inj (by decide) e; omega), wn1] at hr
      have hw := w1 (σ.set (nameB ((0 : Nat) : Int)) p1)
      have hroom : (σ.set (nameB ((0 : Nat) : Int)) p1).room = 1 := wr
      rw [hr, hs, wn, wu, hroom] at hw
      rw [if_pos (by simp only [List.length_nil] at hc ⊢; omega)] at hw
      rw [w0, if_neg (by simp), writeAll_cons, hw]
      rfl
  unfold endB
  rw [if_pos (by rw [key]; decide), key]
end Go.Cz.S
namespace Go.Cz.S
open Go Go.Cz Go.Cz.Crc
set_option maxRecDepth 100000
set_option maxHeartbeats 1000000
set_option linter.unusedSimpArgs false
set_option linter.unusedVariables false
theorem file_shard {σ0 σ : FSt} {n : Int} {M P : List (Int × Int)} (B : Built σ0 σ n M P) (hl : σ.left = -1) {κ : CSt} (F : Fresh σ κ) {k : Nat} (hk : k < P.length) :
    ∃ κ', fileC σ κ (nameB (k : Int)) = (σ, κ', mkB (encS (shardF M P[k])), 0) ∧ Fresh σ κ' ∧ κ'.most = κ.most := fileC_fresh F hl (B.shard k hk)
theorem file_man {σ0 σ : FSt} {n : Int} {M P : List (Int × Int)} (B : Built σ0 σ n M P) (hl : σ.left = -1) {κ : CSt} (F : Fresh σ κ) :
    ∃ κ', fileC σ κ mN = (σ, κ', mkB (encM ⟨n, M.length, P⟩), 0) ∧ Fresh σ κ' ∧ κ'.most = κ.most := fileC_fresh F hl B.man
theorem fresh0 (σ : FSt) {most : Int} (h : 1 ≤ most) : Fresh σ ⟨most, []⟩ := ⟨h, fun x hx => absurd hx (by simp)⟩
end Go.Cz.S
namespace Go.Cz.S
open Go Go.Cz Go.Cz.Crc
set_option maxRecDepth 100000
set_option maxHeartbeats 1000000
set_option linter.unusedSimpArgs false
set_option linter.unusedVariables false
theorem WW.fs2 {h : H} {S : Nat → Prop} {f c : Nat} {σ : FSt} {κ : CSt} {n : Int} (W : WW h S f c σ κ n) : ∃ Sf, FW h Sf f σ ∧ (∀ k, Sf k → S k) ∧ ∀ Sf' h' σ', FW h' Sf' f σ' → Kp Sf h Sf' h' → ∃ S', WW h' S' f c σ' κ n ∧ Kp S h S' h' ∧ ∀ k, S' k → Sf' k ∨ S k := by
  obtain ⟨Sf, cm, T, clock, W⟩ := W
  refine ⟨Sf, W.fs, fun k hk => (W.S k).2 (.inl hk), fun Sf' h' σ' F K => ?_⟩
  have sep : ∀ k, Sf' k → ¬ CB0.own c cm T k := fun k hk hk2 => by
    rcases K.own k hk with h | h
    · exact W.dis k h hk2
    · obtain ⟨o, ho⟩ := W.cb.ex k hk2; rw [h] at ho; cases ho
  refine ⟨fun k => Sf' k ∨ CB0.own c cm T k, ⟨Sf', cm, T, clock, ⟨F, W.cb.fr' K.fr fun k hk hs => W.dis k hs hk, sep, fun k => Iff.rfl, W.cc⟩⟩, ⟨K.fr.mono fun k hk => (W.S k).2 (.inl hk), fun k hk => ?_⟩, fun k hk => ?_⟩
  · rcases hk with h | h
    · rcases K.own k h with h | h
      · exact .inl ((W.S k).2 (.inl h))
      · exact .inr h
    · exact .inl ((W.S k).2 (.inr h))
  · rcases hk with h | h
    · exact .inl h
    · exact .inr ((W.S k).2 (.inr h))
theorem BuildW_i {h : H} {S : Nat → Prop} {f c : Nat} {σ : FSt} {κ : CSt} {t : Int} (W : WW h S f c σ κ t) {v : Sl} {L : List (Int × Int)} (A : Arr h v eP L) (hL : L.length ≤ 1000000) {n s : Int} {Q : Int × Int × Sl × Int → HProp}
    (h1 : (buildF σ n L s).2 ≠ 0 → ∀ S' h', WW h' S' f c (buildF σ n L s).1 κ t → Kp S h S' h' → Q (0, 0, ⟨none, 0, 0⟩, (buildF σ n L s).2) h')
    (h2 : (buildF σ n L s).2 = 0 → ∀ S' h' v', WW h' S' f c (buildF σ n L s).1 κ t → Kp S h S' h' → Off S' h' v' eP (cutL n s) → Q (n, ((normG L).length : Nat), v', 0) h') : build_Build (some (at0 f), n, v, s) Q h := by
  obtain ⟨Sf, F, hsub, go⟩ := W.fs2
  refine Build_i F A hL (fun e Sf' h' F' K' => ?_) (fun e Sf' h' v' F' K' O' nw => ?_)
  · obtain ⟨S', W', K, _⟩ := go Sf' h' _ F' K'
    exact h1 e S' h' W' K
  · obtain ⟨S', W', K, hs⟩ := go Sf' h' _ F' K'
    refine h2 e S' h' v' W' K ⟨O'.1, fun hne k hk hS => ?_⟩
    rcases hs k hS with h | h
    · exact O'.2 hne k hk h
    · obtain ⟨o, ho⟩ := W.ex k h
      rw [nw k hk] at ho; cases ho
theorem namesW_i {h : H} {S : Nat → Prop} {f c : Nat} {σ : FSt} {κ : CSt} {t : Int} (W : WW h S f c σ κ t) {Q : Sl → HProp}
    (hQ : ∀ v h', Vec h' v eS (namesF σ) → New h v → Ext h h' → Q v h') : files_FS_Names (some (at0 f)) Q h := by
  obtain ⟨Sf, F, _⟩ := W.fs
  obtain ⟨m, R, B, _⟩ := F.fs
  exact names_i B F.good hQ
theorem Ext.of_kp {S S' : Nat → Prop} {h0 h h' : H} (g : Ext h0 h) (k : Kp S h S' h') (hs : ∀ b, S b → h0 b = none) : Ext h0 h' := Ext.of_new g k.fr hs
end Go.Cz.S
namespace Go.Cz.S
open Go Go.Cz Go.Cz.Crc
set_option maxRecDepth 100000
set_option maxHeartbeats 2000000
set_option linter.unusedSimpArgs false
set_option linter.unusedVariables false
theorem L4_enc : eP.all L4 = [.int .i64 0, .int .i64 1, .int .i64 3, .int .i64 0] := rfl
theorem P4_enc : eP.all P4 = [.int .i64 0, .int .i64 2, .int .i64 2, .int .i64 4] := rfl
theorem ROff.ext {S : Nat → Prop} {h h' : H} {v : Sl} {out : List (List Int)} (R : ROff S h v out) (E : Ext h h') : ROff S h' v out := R.kp (Kp.ext E)
theorem NM_enc : eS.all [mN, nameB 0, nameB 1] = [.string (ByteArray.mk #[109]), .string (ByteArray.mk #[115, 48]), .string (ByteArray.mk #[115, 49])] := by
  have e0 : nameB 0 = ByteArray.mk #[115, 48] := by decide +kernel
  have e1 : nameB 1 = ByteArray.mk #[115, 49] := by decide +kernel
  rw [e0, e1]; rfl
theorem s1_eq : (ByteArray.mk #[115, 49]) = nameB ((1 : Nat) : Int) := by decide +kernel
theorem x_gone : fs4.rows ⟨#[120]⟩ = [] := by
  obtain ⟨_, B⟩ := built4
  rw [B.else_ _ ?_]
  · rfl
  · rintro (h | ⟨i, hi, h⟩)
    · exact absurd h (by decide +kernel)
    · have hs := congrArg ByteArray.size h
      unfold nameB at hs
      rw [if_pos (by omega), mkB_size] at hs
      unfold nameN at hs
      split at hs <;> simp at hs <;> cases hs
theorem file_none {σ : FSt} {κ : CSt} {nm : ByteArray} (h : σ.rows nm = []) : fileC σ κ nm = (σ, κ, ⟨#[]⟩, 4) := by unfold fileC; rw [h]; rfl
theorem left4 : fs4.left = -1 := built4.2.left
theorem does12_i {h : H} {Q : Bool → HProp} (hQ : ∀ h', Q true h') : law12_does () Q h := by
  unfold law12_does law12_does_F
  simp only [eqI_eq]
  refine newF_i (fun hb => absurd hb (by decide)) fun _ _ S0 f h1 F1 n1 E1 => ?_
  refine newC_i F1 (fun hb => absurd hb (by decide)) fun _ _ S1 c h2 W2 K2 E2 => ?_
  refine with_b false (fun q hq => ite_f (by rfl) (by simpa using hq)) ?_
  refine ite_f (by rfl) ?_
  refine new_i (E := eP) (l := L4) (n := 2) L4_enc (by rfl) fun b h3 V3 nw3 E3 => ?_
  have W3 := W2.ext E3
  have O3 : Off S1 h3 _ eP L4 := Off.new V3 nw3 W2.ex
  have eb := built4.1
  have B := built4.2
  refine BuildW_i W3 O3.1 (by decide) (fun e => absurd eb e) fun _ S4 h4 v4 W4 K4 P4o => ?_
  have O4 := O3.kp K4
  change WW h4 S4 f c fs4 ⟨2, []⟩ 0 at W4
  rw [cut_42] at P4o
  rw [norm_L4]
  obtain ⟨κ5, e5, F5, m5⟩ := file_man B left4 (fresh0 fs4 (most := 2) (by decide))
  refine Open_i W4 (by decide) (fun e => absurd (by rw [e5]) e) (fun _ e => ?_) fun _ m em S5 h5 v5 W5 K5 P5o => ?_
  · rw [e5] at e; rw [decM_enc B.okm] at e; cases e
  rw [e5] at em W5
  dsimp only at em W5
  rw [decM_enc B.okm] at em
  cases em
  have O4 := O4.kp K5
  have P4o := P4o.kp K5
  rw [s1_eq]
  obtain ⟨κ6, e6, F6, m6⟩ := file_shard B left4 F5 (k := 1) (by decide)
  refine File_i W5 (by decide) fun S6 h6 W6 K6 hz6 => ?_
  rw [e6] at W6 hz6 ⊢
  dsimp only at W6 hz6 ⊢
  have O4 := O4.kp K6
  have P4o := P4o.kp K6
  have P5o := P5o.kp K6
  have ok1 : okShard (shardF L4 (2, 4)) = true := B.oks (2, 4) (by decide)
  have ed : decS (mkB (encS (shardF L4 P4[1]))) = some (shardF L4 (2, 4)) := decS_enc ok1
  refine sdec_i hz6 ?_ (fun hs => by rw [ed] at hs; cases hs)
  intro s hs v7 h7 R7 E7
  have hs1 : s = shardF L4 (2, 4) := by rw [ed] at hs; exact (Option.some.inj hs).symm
  subst hs1
  have R5 : ROff S6 h7 v7 (outE L4 2 4) := R7.off W6.ex
  have W7 := W6.ext E7
  have O4 := O4.ext E7
  have P4o := P4o.ext E7
  have P5o := P5o.ext E7
  refine File_i W7 (by decide) fun S8 h8 W8 K8 _ => ?_
  rw [file_none x_gone] at W8 ⊢
  dsimp only at W8 ⊢
  have O4 := O4.kp K8
  have P4o := P4o.kp K8
  have P5o := P5o.kp K8
  have R5 := R5.kp K8
  refine newF_i (fun hb => absurd hb (by decide)) fun _ _ Sg g h9 Fg ng E9 => ?_
  have hbt := build_tight
  refine Build_i Fg (L := []) ⟨rfl, Nat.le_refl _, fun _ => rfl, fun a ha => by cases ha⟩ (by decide) ?_ (fun e => absurd (hbt.symm.trans e) (by decide))
  intro _ Sg' ha Fa Ka
  have Ea : Ext h8 ha := Ext.of_kp E9 Ka ng
  rw [show buildF { room := 1, left := -1, L := [] } 4 [] 2 = buildF (fs0 1) 4 [] 2 from rfl, hbt]
  have Wa := W8.ext Ea
  refine new_i (E := eP) (l := [(1, 1)]) (n := 1) rfl (by rfl) fun b1 hb Vb nwb Eb => ?_
  have Wb := Wa.ext Eb
  have Eab := Ea.trans Eb
  have O4 := O4.ext Eab
  have P4o := P4o.ext Eab
  have P5o := P5o.ext Eab
  have R5 := R5.ext Eab
  refine BuildW_i Wb Vb.arr (by decide) ?_ (fun e => ?_)
  · intro _ Sc hc Wc Kc
    rw [build_11] at Wc ⊢
    dsimp only at Wc ⊢
    have O4 := O4.kp Kc
    have P4o := P4o.kp Kc
    have P5o := P5o.kp Kc
    have R5 := R5.kp Kc
    refine new_i (E := eP) (l := P4) (n := 2) P4_enc (by rfl) fun b2 hd Vd nwd Ed => ?_
    have Wd := Wc.ext Ed
    have P4o := P4o.ext Ed
    have P5o := P5o.ext Ed
    have O4 := O4.ext Ed
    refine with_u (ite_t (by rfl) (law11_Same_i P4o.1 Vd.arr (by decide) ?_))
    refine ite_t (by decide) (ite_t (by rfl) (law11_Same_i P5o.1 Vd.arr (by decide) (ite_t (by decide) (both_i ?_ ?_))))
    · refine namesW_i Wd fun vn he Vn nwn En => ?_
      refine new_i (E := eS) (l := [mN, nameB 0, nameB 1]) (n := 3) NM_enc (by rfl) fun b3 hf Vf nwf Ef => ?_
      refine Texts_i (Vn.arr.ext Ef) Vf.arr (by rw [names4]; decide) ?_
      rw [names4]
      have HE := Ed.trans (En.trans Ef)
      have O4 := O4.ext (En.trans Ef)
      refine ite_t (by rfl) (ite_t (by rfl) (ite_t (by rfl) ?_))
      refine O4.1.slice (w := 2) (lo := 1) (hi := 2) rfl (by decide) (by decide) (by decide) fun u Au _ _ _ => ?_
      refine edges_i (R5.ext HE).rows (by decide) (by decide) (by decide) fun v6 hz V6 _ E6 => ?_
      have e6 : edgesS (shardF L4 (2, 4)).a (outE L4 2 4) = [(3, 0)] := by decide
      refine law08_Same_i V6.arr (Au.ext E6) (by rw [e6]; decide) ?_
      rw [e6]
      refine ite_t (by decide) (ite_t (by rfl) (ite_t (by rfl) (ite_t (by rfl) (ite_t (by rfl) ?_))))
      refine bname_i ?_
      rw [eqS_eq]
      refine ite_t (by decide +kernel) (bname_i ?_)
      rw [eqS_eq]
      refine ite_t (by decide +kernel) (bname_i ?_)
      rw [eqS_eq]
      rw [show decide (nameB (-1) = ⟨#[]⟩) = true by decide +kernel]
      exact hQ _
    · refine new_i (E := eS) (l := [mN, nameB 0, nameB 1]) (n := 3) NM_enc (by rfl) fun b3 hf Vf nwf Ef => ?_
      refine namesW_i (Wd.ext Ef) fun vn he Vn nwn En => ?_
      refine Texts_i Vn.arr (Vf.arr.ext En) (by rw [names4]; decide) ?_
      rw [names4]
      have HE := Ed.trans (Ef.trans En)
      have O4 := O4.ext (Ef.trans En)
      refine ite_t (by rfl) (ite_t (by rfl) (ite_t (by rfl) ?_))
      refine O4.1.slice (w := 2) (lo := 1) (hi := 2) rfl (by decide) (by decide) (by decide) fun u Au _ _ _ => ?_
      refine edges_i (R5.ext HE).rows (by decide) (by decide) (by decide) fun v6 hz V6 _ E6 => ?_
      have e6 : edgesS (shardF L4 (2, 4)).a (outE L4 2 4) = [(3, 0)] := by decide
      refine law08_Same_i V6.arr (Au.ext E6) (by rw [e6]; decide) ?_
      rw [e6]
      refine ite_t (by decide) (ite_t (by rfl) (ite_t (by rfl) (ite_t (by rfl) (ite_t (by rfl) ?_))))
      refine bname_i ?_
      rw [eqS_eq]
      refine ite_t (by decide +kernel) (bname_i ?_)
      rw [eqS_eq]
      refine ite_t (by decide +kernel) (bname_i ?_)
      rw [eqS_eq]
      rw [show decide (nameB (-1) = ⟨#[]⟩) = true by decide +kernel]
      exact hQ _
  · rw [build_11] at e; cases e
end Go.Cz.S
namespace Go.Cz.S
open Go Go.Cz Go.Cz.Crc
set_option maxRecDepth 100000
set_option maxHeartbeats 2000000
set_option linter.unusedSimpArgs false
set_option linter.unusedVariables false
end Go.Cz.S
namespace Go.Cz.S
open Go Go.Cz Go.Cz.Crc
set_option maxRecDepth 100000
set_option maxHeartbeats 2000000
set_option linter.unusedSimpArgs false
set_option linter.unusedVariables false
def eU2 : Enc (Int × Int) := ⟨2, fun x => [.int .u8 x.1, .int .u8 x.2], fun _ => rfl, fun n v hv => by simp at hv; rcases hv with rfl | rfl <;> trivial, by decide⟩
theorem cnv_rem {n m : Int} (h0 : 0 ≤ n) (h1 : n ≤ 9223372036854775807) (hm : 0 < m) : rem (cnv IntKind.i64 n) m = n % m := by
  rw [cnv_i64 (by omega) (by omega), rem_nn h0]
def someE (n : Int) (p : Int × Int) : Int × Int := (p.1 % n, if p.1 % n ≤ p.2 % (n - 1) then p.2 % (n - 1) + 1 else p.2 % (n - 1))
theorem someE_good {n : Int} (h2 : 2 ≤ n) (p : Int × Int) : badE n (someE n p) = false := by
  have a1 := Int.emod_nonneg p.1 (show n ≠ 0 by omega)
  have a2 := Int.emod_lt_of_pos p.1 (show 0 < n by omega)
  have a3 := Int.emod_nonneg p.2 (show n - 1 ≠ 0 by omega)
  have a4 := Int.emod_lt_of_pos p.2 (show 0 < n - 1 by omega)
  unfold badE someE
  simp only [Bool.or_eq_false_iff, Bool.not_eq_false', Bool.and_eq_true, decide_eq_true_eq, decide_eq_false_iff_not]
  split <;> omega
theorem someE_bad {n : Int} (h2 : 2 ≤ n) (h3 : n ≤ 256) (L : List (Int × Int)) : badG n (L.map (someE n)) = false := by
  unfold badG
  rw [decide_eq_true (show 1 ≤ n by omega), decide_eq_true h3]
  simp only [Bool.and_self, Bool.not_true, Bool.false_or]
  rw [List.any_eq_false]
  intro x hx
  obtain ⟨p, _, rfl⟩ := List.mem_map.1 hx
  rw [someE_good h2]; decide
theorem someE_norm {n : Int} (h2 : 2 ≤ n) (h3 : n ≤ 256) {L : List (Int × Int)} (hL : L.length ≤ 4096) : normE n (L.map (someE n)) = 0 := by
  unfold normE
  have := norm_len (L.map (someE n))
  rw [List.length_map] at this
  rw [if_neg (by rw [someE_bad h2 h3]; decide), if_neg (by omega)]
theorem some_i {n : Int} (h2 : 2 ≤ n) (h3 : n ≤ 1000) {v : Sl} {L : List (Int × Int)} {h : H} (A : Arr h v eU2 L) (hL : L.length ≤ 1000000) (hb : ∀ x ∈ L, 0 ≤ x.1 ∧ x.1 ≤ 255 ∧ 0 ≤ x.2 ∧ x.2 ≤ 255) {Q : Sl → HProp}
    (hQ : ∀ u h', Vec h' u eP (L.map (someE n)) → New h u → Ext h h' → Q u h') : law08_Some (n, v) Q h := by
  unfold law08_Some
  simp only [ltI_eq, leI_eq, A.len]
  refine loop_i (fun (s : Sl × Int) h' => ∃ i : Nat, s.2 = i ∧ i ≤ L.length ∧ Vec h' s.1 eP ((L.take i).map (someE n)) ∧ New h s.1 ∧ Ext h h') (fun s => ((L.length : Int) - s.2).toNat) ⟨0, rfl, Nat.zero_le _, Vec.nil0, New.nil0, Ext.refl h⟩ ?_
  rintro ⟨u, i⟩ h' ⟨i, rfl, hi, V, Nw, E⟩ k hk
  simp only at *
  refine with_b (decide ((i : Int) < L.length)) (fun q hq => ?_) ?_
  · refine ite_i (fun e => ?_) fun e => ?_
    · rw [e] at hq; rw [decide_eq_true (show (1 : Int) < n by omega)]; exact hq
    · rw [e] at hq; exact hq
  refine ite_i (fun hlt => ?_) fun hge => ?_
  · have hlt : i < L.length := by simpa using hlt
    have A' := A.ext E
    obtain ⟨x0, x1, y0, y1⟩ := hb _ (List.getElem_mem hlt)
    refine A'.index (by omega) (by omega) fun a ha => ite_t (by rfl) (ite_t (by rfl) ?_)
    refine loadI_i (A'.cell (E := eU2) (i := i) (j := 0) (x := L[i]) (by simpa [eU2] using ha) (List.getElem?_eq_getElem hlt) rfl) (must_i (by omega) ?_)
    refine A'.index (by omega) (by omega) fun a2 ha2 => ite_t (by rfl) (ite_t (by rfl) ?_)
    rw [sub_i64 (by omega) (by omega)]
    refine loadI_i (A'.cell (E := eU2) (i := i) (j := 1) (x := L[i]) (by simpa [eU2] using ha2) (List.getElem?_eq_getElem hlt) rfl) (must_i (by omega) ?_)
    rw [cnv_rem x0 (by omega) (by omega), cnv_rem y0 (by omega) (by omega)]
    have a3 := Int.emod_nonneg L[i].2 (show n - 1 ≠ 0 by omega)
    have a4 := Int.emod_lt_of_pos L[i].2 (show 0 < n - 1 by omega)
    refine with_b (someE n L[i]).2 (fun q hq => ?_) ?_
    · unfold someE at hq
      refine ite_i (fun e => ?_) fun e => ?_
      · rw [if_pos (of_decide_eq_true e)] at hq
        rw [add_i64 (by omega) (by omega)]; exact hq
      · rw [if_neg (of_decide_eq_false e)] at hq; exact hq
    · refine V.append_new E Nw (m := [someE n L[i]]) rfl rfl rfl (by simp; omega) fun u2 h2 V2 E2 N2 _ _ => ?_
      rw [add_i64 (by omega) (by omega)]
      refine hk (_, _) _ ⟨i + 1, by simp, by omega, ?_, N2, E2⟩ (by show ((L.length : Int) - ((i : Int) + 1)).toNat < ((L.length : Int) - (i : Int)).toNat; omega)
      rw [List.take_succ_eq_append_getElem hlt, List.map_append]
      exact V2
  · have hge : ¬ i < L.length := by simpa using hge
    rw [List.take_of_length_le (by omega)] at V
    exact hQ u h' V Nw E
structure Bd (room n : Int) (L : List (Int × Int)) (s : Int) : Prop where
  r0 : 0 ≤ room ∧ room ≤ 4096
  nE : normE n L = 0
  cut : badCut n s = false
  room : 168 * (cutL n s).length + 16 * n + 11 * (normG L).length + 122 * 4 ≤ 122 * room
def fsB (room n : Int) (L : List (Int × Int)) (s : Int) : FSt := (buildF (fs0 room) n L s).1
theorem Bd.ok {room n : Int} {L : List (Int × Int)} {s : Int} (B : Bd room n L s) : (buildF (fs0 room) n L s).2 = 0 ∧ Built (fs0 room) (fsB room n L s) n (normG L) (cutL n s) := build_fresh B.r0 B.nE B.cut B.room
theorem Bd.of {a b : Int} (a0 : 0 ≤ a) (b0 : 0 ≤ b) {L : List (Int × Int)} (hL : L.length ≤ 400) : Bd 400 (2 + a % 255) (L.map (someE (2 + a % 255))) (1 + b % (if 16 < 2 + a % 255 then 16 else 2 + a % 255)) := by
  have h1 := Int.emod_nonneg a (show (255 : Int) ≠ 0 by decide)
  have h2 := Int.emod_lt_of_pos a (show (0 : Int) < 255 by decide)
  generalize hn : 2 + a % 255 = n at *
  generalize hm : (if 16 < n then 16 else n) = m at *
  have hm1 : 2 ≤ m ∧ m ≤ 16 ∧ m ≤ n := by split at hm <;> omega
  have h3 := Int.emod_nonneg b (show m ≠ 0 by omega)
  have h4 := Int.emod_lt_of_pos b (show 0 < m by omega)
  have hc : (cutL n (1 + b % m)).length ≤ 16 := by rw [cut_len]; omega
  have hg := norm_len (L.map (someE n))
  rw [List.length_map] at hg
  exact ⟨by decide, someE_norm (by omega) (by omega) (by omega), by unfold badCut; exact decide_eq_false (by omega), by omega⟩
end Go.Cz.S
namespace Go.Cz.S
open Go Go.Cz Go.Cz.Crc
set_option maxRecDepth 100000
set_option maxHeartbeats 2000000
set_option linter.unusedSimpArgs false
set_option linter.unusedVariables false
def PB (h0 : H) (σ : FSt) (f : Nat) (n m : Int) (P : List (Int × Int)) (t : Int × Option Addr) (h : H) : Prop :=
  ∃ b v S, t = (0, some (at0 b)) ∧ FW h S f σ ∧ Obj h b [.int .i64 n, .int .i64 m, .slice v.a v.len v.cap] ∧ ¬ S b ∧ Off S h v eP P ∧ Ext h0 h ∧ ∀ k, S k → h0 k = none
theorem new_own {h0 h h' : H} {S S' : Nat → Prop} (g : Ext h0 h) (hs : ∀ k, S k → h0 k = none) (K : Kp S h S' h') : ∀ k, S' k → h0 k = none := fun k hk => by
  rcases K.own k hk with h | h
  · exact hs k h
  · exact g.none h
theorem pb_done {h0 h : H} {S : Nat → Prop} {f b : Nat} {σ : FSt} {n m : Int} {P : List (Int × Int)} {v : Sl} {cs : List Value} {k : Int × Option Addr → HProp} (F : FW h S f σ) (o : Obj h b cs) (hc : cs.length = 3) (nb : ¬ S b) (O : Off S h v eP P) (hv : P ≠ [] → ¬ v.on b) (g0 : Ext h0 h) (hb0 : h0 b = none) (hS : ∀ k, S k → h0 k = none)
    (hk : ∀ a h', PB h0 σ f n m P a h' → k a h') : storesW (Addr.mk b 0 none) [.int .i64 n, .int .i64 m, .slice v.a v.len v.cap] (k (0, some (Addr.mk b 0 none))) h :=
  sts_i o (by rw [hc]; rfl) fun h' o' g => hk _ _ ⟨b, v, S, rfl, F.fr g (fun k hk e => by subst e; exact nb hk), o', nb, O.one g hv, g0.of_new g (fun k hk => by subst hk; exact hb0), hS⟩
end Go.Cz.S
namespace Go.Cz.S
open Go Go.Cz Go.Cz.Crc
set_option maxRecDepth 100000
set_option maxHeartbeats 2000000
set_option linter.unusedSimpArgs false
set_option linter.unusedVariables false
end Go.Cz.S
namespace Go.Cz.S
open Go Go.Cz Go.Cz.Crc
set_option maxRecDepth 100000
set_option maxHeartbeats 1000000
set_option linter.unusedSimpArgs false
set_option linter.unusedVariables false
end Go.Cz.S
namespace Go.Cz.S
open Go Go.Cz Go.Cz.Crc
set_option maxRecDepth 100000
set_option maxHeartbeats 1000000
set_option linter.unusedSimpArgs false
set_option linter.unusedVariables false
end Go.Cz.S
namespace Go.Cz.S
open Go Go.Cz Go.Cz.Crc
set_option maxRecDepth 100000
set_option maxHeartbeats 1000000
set_option linter.unusedSimpArgs false
set_option linter.unusedVariables false
end Go.Cz.S
namespace Go.Cz.S
open Go Go.Cz Go.Cz.Crc
set_option maxRecDepth 100000
set_option maxHeartbeats 1000000
set_option linter.unusedSimpArgs false
set_option linter.unusedVariables false
end Go.Cz.S
namespace Go.Cz.S
open Go Go.Cz Go.Cz.Crc
set_option maxRecDepth 100000
set_option maxHeartbeats 1000000
set_option linter.unusedSimpArgs false
set_option linter.unusedVariables false
theorem cut_pos {n s : Int} (h : badCut n s = false) : 1 ≤ (cutL n s).length := by
  unfold badCut at h
  have := of_decide_eq_false h
  rw [cut_len]; omega
end Go.Cz.S
namespace Go.Cz.S
open Go Go.Cz Go.Cz.Crc
set_option maxRecDepth 100000
set_option maxHeartbeats 4000000
set_option linter.unusedSimpArgs false
set_option linter.unusedVariables false
theorem Arr.off {α : Type} {h0 h : H} {S : Nat → Prop} {v : Sl} {E : Enc α} {l : List α} (A : Arr h0 v E l) (g : Ext h0 h) (hs : ∀ k, S k → h0 k = none) : Off S h v E l :=
  ⟨A.ext g, fun hne k hk hS => by
    obtain ⟨a, ha, rfl⟩ := hk
    obtain ⟨_, cs, wr, h1, _⟩ := A.blk a ha hne
    rw [hs _ hS] at h1; cases h1⟩
structure Ed (n : Int) (M P : List (Int × Int)) : Prop where
  n2 : 1 ≤ n ∧ n ≤ 256
  lt : ∀ x ∈ M, 0 ≤ x.1 ∧ x.1 < n
  rise : Rising M
  len : M.length ≤ 4096
  parts : ∀ p ∈ P, okPart p.1 p.2 = true
  check : checkL n P = 0
  pos : 1 ≤ P.length ∧ P.length ≤ 16
theorem Bd.ed {room n : Int} {L : List (Int × Int)} {s : Int} (B : Bd room n L s) : Ed n (normG L) (cutL n s) := by
  have h1 := B.nE
  obtain ⟨c1, c2, c3⟩ := cut_facts B.cut
  have hbad : badG n L = false := by
    cases e : badG n L with
    | false => rfl
    | true => unfold normE at h1; rw [if_pos e] at h1; cases h1
  have hml : (normG L).length ≤ 4096 := by
    unfold normE at h1
    rw [if_neg (by rw [hbad]; decide)] at h1
    split at h1
    · cases h1
    · omega
  obtain ⟨n1, n2, hLe⟩ := good_edges hbad
  exact ⟨⟨n1, n2⟩, fun x hx => by have := hLe x (norm_mem.1 hx); omega, norm_rise L, hml, c3, c2, cut_pos B.cut, c1⟩
end Go.Cz.S
namespace Go.Cz.S
open Go Go.Cz Go.Cz.Crc
set_option maxRecDepth 100000
set_option maxHeartbeats 4000000
set_option linter.unusedSimpArgs false
set_option linter.unusedVariables false
theorem built12_i {a b c : Int} (ha : 0 ≤ a ∧ a ≤ 255) (hb : 0 ≤ b ∧ b ≤ 255) (hc : 0 ≤ c ∧ c ≤ 255) {v : Sl} {L : List (Int × Int)} {h : H} (A : Arr h v eU2 L) (hL : L.length ≤ 400) (hx : ∀ x ∈ L, 0 ≤ x.1 ∧ x.1 ≤ 255 ∧ 0 ≤ x.2 ∧ x.2 ≤ 255)
    {n s : Int} (hn : n = 2 + a % 255) (hs : s = 1 + b % (if 16 < n then 16 else n)) {Q : Option Addr × Int × Int × Sl × Bool → HProp}
    (hQ : Bd 400 n (L.map (someE n)) s → ∀ S f cc h' w, WW h' S f cc (fsB 400 n (L.map (someE n)) s) ⟨1 + c % 9, []⟩ 0 → Off S h' w eP (cutL n s) → Ext h h' → (∀ k, S k → h k = none) → Q (some (at0 cc), n, ((normG (L.map (someE n))).length : Nat), w, true) h') : law12_built (a, b, c, v) Q h := by
  have B := Bd.of ha.1 hb.1 hL
  rw [← hn, ← hs] at B
  have hQ := hQ B
  obtain ⟨ok, BB⟩ := B.ok
  have e1 : add IntKind.i64 2 (rem (cnv IntKind.i64 a) 255) = n := by
    rw [cnv_rem ha.1 (by omega) (by decide), add_i64 (by omega) (by omega), hn]
  have n2 : 2 ≤ n ∧ n ≤ 256 := by omega
  have e2 : minI n 16 = if 16 < n then 16 else n := by rw [minI_eq]
  have hm : 2 ≤ (if 16 < n then 16 else n) ∧ (if 16 < n then 16 else n) ≤ 16 := by split <;> omega
  have e3 : add IntKind.i64 1 (rem (cnv IntKind.i64 b) (if 16 < n then 16 else n)) = s := by
    rw [cnv_rem hb.1 (by omega) (by omega)]
    have h3 := Int.emod_nonneg b (show (if 16 < n then (16 : Int) else n) ≠ 0 by omega)
    have h4 := Int.emod_lt_of_pos b (show 0 < (if 16 < n then (16 : Int) else n) by omega)
    rw [add_i64 (by omega) (by omega), hs]
  have e4 : add IntKind.i64 1 (rem (cnv IntKind.i64 c) 9) = 1 + c % 9 := by
    rw [cnv_rem hc.1 (by omega) (by decide), add_i64 (by omega) (by omega)]
  have hbi : ∀ {h1 : H} {S : Nat → Prop} {f : Nat} (F : FW h1 S f (fs0 400)) {u : Sl} (A : Arr h1 u eP (L.map (someE n))) {K : Int × Int × Sl × Int → HProp}
      (hK : ∀ S' h' w, FW h' S' f (fsB 400 n (L.map (someE n)) s) → Kp S h1 S' h' → Off S' h' w eP (cutL n s) → New h1 w → K (n, ((normG (L.map (someE n))).length : Nat), w, 0) h'), build_Build (some (at0 f), n, u, s) K h1 := by
    intro h1 S f F u A K hK
    exact Build_i F A (by rw [List.length_map]; omega) (fun e => absurd ok e) fun _ S' h' w F' K' O nw => hK S' h' w F' K' O nw
  unfold law12_built law12_built_F
  dsimp only
  rw [e1, e2, e3, e4]
  simp only [eqI_eq, ltI_eq, leI_eq]
  refine newF_i (fun hb => absurd hb (by decide)) fun _ _ S0 f h1 F1 n1 E1 => ?_
  have A1 := A.ext E1
  have ex1 := F1.ex
  refine ite_f (by rfl) (must_i (by decide) ?_)
  refine with_i (PB h (fsB 400 n (L.map (someE n)) s) f n ((normG (L.map (someE n))).length : Nat) (cutL n s)) (fun k hk => ?_) ?_
  · refine must_i (by omega) (both_i ?_ ?_)
    · refine some_i (by omega) (by omega) A1 (by omega) hx fun u h2 V2 nw2 E2 => both_i ?_ ?_
      · refine hbi (F1.ext E2) V2.arr fun S3 h3 w F3 K3 O3 nw3 => ?_
        refine Obj.new fun bb h4 o4 hb4 E4 => ?_
        have g3 := Ext.of_kp (E1.trans E2) K3 n1
        refine pb_done (F3.ext E4) o4 rfl (fun hs => by obtain ⟨o, ho⟩ := F3.ex bb hs; rw [hb4] at ho; cases ho) (O3.ext E4) (fun hne ho => ?_) (g3.trans E4) (g3.none hb4) (new_own (E1.trans E2) n1 K3) hk
        obtain ⟨a, ha, e⟩ := ho
        obtain ⟨_, cs, wr, h3', _⟩ := O3.1.blk a ha hne
        rw [e, hb4] at h3'; cases h3'
      · refine Obj.new fun bb h3 o3 hb3 E3 => ?_
        have F3 := (F1.ext E2).ext E3
        have nb : ¬ S0 bb := fun hs => by obtain ⟨o, ho⟩ := (F1.ext E2).ex bb hs; rw [hb3] at ho; cases ho
        refine hbi F3 (V2.arr.ext E3) fun S4 h4 w F4 K4 O4 nw4 => ?_
        obtain ⟨o4, nb4⟩ := Off.obj o3 nb K4
        have g3 := (E1.trans E2).trans E3
        refine pb_done F4 o4 rfl nb4 O4 (fun _ ho => ?_) (Ext.of_kp g3 K4 n1) ((E1.trans E2).none hb3) (new_own g3 n1 K4) hk
        have := nw4 bb ho
        unfold Obj at o3
        rw [o3] at this; cases this
    · refine Obj.new fun bb h2 o2 hb2 E2 => ?_
      refine some_i (by omega) (by omega) (A1.ext E2) (by omega) hx fun u h3 V3 nw3 E3 => ?_
      have F3 := (F1.ext E2).ext E3
      have nb : ¬ S0 bb := fun hs => by obtain ⟨o, ho⟩ := F1.ex bb hs; rw [hb2] at ho; cases ho
      have o3 := o2.ext E3
      refine hbi F3 V3.arr fun S4 h4 w F4 K4 O4 nw4 => ?_
      obtain ⟨o4, nb4⟩ := Off.obj o3 nb K4
      have g3 := (E1.trans E2).trans E3
      refine pb_done F4 o4 rfl nb4 O4 (fun _ ho => ?_) (Ext.of_kp g3 K4 n1) (E1.none hb2) (new_own g3 n1 K4) hk
      have := nw4 bb ho
      unfold Obj at o3
      rw [o3] at this; cases this
  · rintro ⟨code, bp⟩ h2 ⟨bb, w, S, e, F2, o2, nb, O2, g2, hS2⟩
    obtain ⟨rfl, rfl⟩ := Prod.mk.injEq .. ▸ e
    refine must_i (by decide) ?_
    have c0 := Int.emod_nonneg c (show (9 : Int) ≠ 0 by decide)
    have c1 := Int.emod_lt_of_pos c (show (0 : Int) < 9 by decide)
    refine newC_i F2 (fun hb => absurd hb (by omega)) fun _ _ S3 cc h3 W3 K3 E3 => ?_
    have o3 := o2.ext E3
    refine with_u (deref_i (loadI_i (n := n) (o3.ld (j := 0) rfl) (loadI_i (n := ((normG (L.map (someE n))).length : Nat)) (o3.ld (j := 1) rfl) (loadL_i (v := w) (o3.ld (j := 2) rfl) (ite_t (by rfl) ?_)))))
    exact hQ S3 f cc h3 w W3 (O2.kp K3) (g2.trans E3) (new_own g2 hS2 K3)
end Go.Cz.S
namespace Go.Cz.S
open Go Go.Cz Go.Cz.Crc
set_option maxRecDepth 100000
set_option maxHeartbeats 1000000
set_option linter.unusedSimpArgs false
set_option linter.unusedVariables false
theorem build_used {σ : FSt} (G : GoodF σ) {n : Int} {L : List (Int × Int)} {s : Int} (h1 : normE n L = 0) (h2 : badCut n s = false) (h : ((wipeN σ 16).used : Int) + costL (normG L) (cutL n s) + 4 ≤ σ.room) : ((buildF σ n L s).1.used : Int) ≤ (wipeN σ 16).used + costL (normG L) (cutL n s) + 4 := by
  unfold buildF
  rw [if_neg (by rw [h1]; simp), if_neg (by rw [h2]; decide)]
  obtain ⟨c1, c2, c3⟩ := cut_facts h2
  obtain ⟨wg, wl, wr, ww⟩ := wipe_facts G 16 (Nat.le_refl _)
  have hml : (normG L).length ≤ 4096 := by
    unfold normE at h1
    split at h1
    · cases h1
    · split at h1
      · cases h1
      · omega
  generalize normG L = M at *
  generalize cutL n s = P at *
  obtain ⟨a1, a2⟩ := writeAll_room M P 0 _ wg (by omega) (by rw [wr]; omega)
  obtain ⟨ag, al, ar, _⟩ := writeAll_facts M P 0 _ wg (by omega) a1
  unfold endB
  rw [if_neg (by rw [a1]; simp)]
  generalize (writeAll M 0 P (wipeN σ 16)).1 = σ1 at *
  have om : okMan ⟨n, M.length, P⟩ = true := by
    unfold okMan
    simp only [Bool.and_eq_true, decide_eq_true_eq]
    omega
  have ht := textM_len om
  have hs := (split_cnt (mkB (encM ⟨n, M.length, P⟩))).2
  have hz : (mkB (encM ⟨n, M.length, P⟩)).size ≤ 404 := by rw [mkB_size]; simp only [encM, sealed, List.length_append, crc4_len]; omega
  rw [write_does mN_ok splitP_128, if_neg (by rw [ar, wr]; omega)]
  have hu := set_used ag mN (splitP (mkB (encM ⟨n, M.length, P⟩)))
  show ((σ1.set mN (splitP (mkB (encM ⟨n, M.length, P⟩)))).used : Int) ≤ _
  rw [hu]; omega
theorem used_one {σ : FSt} (G : GoodF σ) {nm : ByteArray} (h : ∀ x, x ≠ nm → σ.rows x = []) : σ.used = (σ.rows nm).length := by
  have hu := used_parts (L := σ.L) nm G.rise
  cases e : σ.L with
  | nil =>
    have h1 : σ.used = 0 := by unfold FSt.used; rw [e]; rfl
    have h2 : σ.rows nm = [] := by unfold FSt.rows; rw [e]; rfl
    rw [h1, h2]; rfl
  | cons y r =>
    have hy : y.1 = nm := Decidable.byContradiction fun hne => by
      have h1 := h y.1 hne
      have hm : y ∈ σ.L := by rw [e]; exact List.mem_cons_self ..
      have : σ.rows y.1 = y.2 := rowsL_at G.rise hm
      rw [h1] at this
      exact (G.pg y hm).1 this.symm
    have hr : r = [] := by
      cases r with
      | nil => rfl
      | cons z r' =>
        have hm : z ∈ σ.L := by rw [e]; exact List.mem_cons_of_mem _ (List.mem_cons_self ..)
        have hz : z.1 = nm := Decidable.byContradiction fun hne => by
          have h1 := h z.1 hne
          have : σ.rows z.1 = z.2 := rowsL_at G.rise hm
          rw [h1] at this
          exact (G.pg z hm).1 this.symm
        have hp := G.rise
        rw [e] at hp
        have := (List.pairwise_cons.1 hp).1 z (List.mem_cons_self ..)
        rw [hy, hz] at this
        exact absurd this (ltN_irrf nm)
    subst hr
    have h2 : σ.rows nm = y.2 := by
      have : σ.rows y.1 = y.2 := rowsL_at G.rise (by rw [e]; exact List.mem_cons_self ..)
      rwa [hy] at this
    have h1 : σ.used = y.2.length := by unfold FSt.used; rw [e]; simp [usedL]
    rw [h1, h2]
def otherB : ByteArray := ⟨#[111, 116, 104, 101, 114]⟩
theorem other_ok : okName otherB = true := by decide +kernel
theorem other_g : ¬ isG otherB := by
  rintro (h | ⟨i, hi, h⟩)
  · exact absurd h (by decide +kernel)
  · have hs := congrArg ByteArray.size h
    have := nameB_size (i : Int)
    rw [← hs] at this
    exact absurd this (by decide)
structure Anew (σ3 : FSt) (n : Int) (M P : List (Int × Int)) (data : ByteArray) : Prop where
  built : ∃ σ, Built σ σ3 n M P ∧ (∀ x, ¬ isG x → (σ.rows x ≠ [] ↔ x = otherB))
  other : σ3.rows otherB = splitP data
  left : σ3.left = -1
theorem anew {n1 s1 n2 s2 : Int} {L1 L2 : List (Int × Int)} (B1 : Bd 400 n1 L1 s1) (B2 : Bd 300 n2 L2 s2) (h1 : 168 * (cutL n1 s1).length + 16 * n1 + 11 * (normG L1).length + 122 * 4 ≤ 122 * 300) {data : ByteArray} (hd : data.size ≤ 300) :
    ((fsB 400 n1 L1 s1).write otherB (splitP data)).2 = 0 ∧ (buildF ((fsB 400 n1 L1 s1).write otherB (splitP data)).1 n2 L2 s2).2 = 0 ∧
    Anew (buildF ((fsB 400 n1 L1 s1).write otherB (splitP data)).1 n2 L2 s2).1 n2 (normG L2) (cutL n2 s2) data := by
  obtain ⟨ok1, BB1⟩ := B1.ok
  have hc1 := cost_bd (cut_facts B1.cut).2.1 (oks_of B1.nE B1.cut)
  have hw0 := wipe0 (n := 400) (by decide)
  have hu1 := build_used (good0 (n := 400) (by decide)) B1.nE B1.cut (by rw [hw0]; show ((0 : Nat) : Int) + _ + 4 ≤ 400; omega)
  rw [hw0] at hu1
  change ((fsB 400 n1 L1 s1).used : Int) ≤ _ at hu1
  generalize fsB 400 n1 L1 s1 = σ1 at *
  have hroom : σ1.room = 400 := BB1.room
  have hsd := split_cnt data
  have ho1 : σ1.rows otherB = [] := by rw [BB1.else_ _ other_g]; rfl
  have hw : σ1.write otherB (splitP data) = (σ1.set otherB (splitP data), 0) := by
    rw [write_does other_ok splitP_128, if_neg]
    rw [ho1, hroom]
    simp only [List.length_nil]
    omega
  have G2 := BB1.good.write otherB (splitP data)
  rw [hw] at G2 ⊢
  have hrows := set_rows BB1.good otherB (splitP data)
  have hl2 : (σ1.set otherB (splitP data)).left = -1 := BB1.left
  have hr2 : (σ1.set otherB (splitP data)).room = 400 := hroom
  generalize σ1.set otherB (splitP data) = σ2 at *
  have hsp : ∀ x, ¬ isG x → (σ2.rows x ≠ [] ↔ x = otherB) := fun x hx => by
    rw [hrows]
    by_cases e : x = otherB
    · rw [if_pos e]; exact ⟨fun _ => e, fun _ => split_ne _⟩
    · rw [if_neg e, BB1.else_ x hx]
      exact ⟨fun h => absurd rfl h, fun h => absurd h e⟩
  obtain ⟨wg, wl, wr, ww⟩ := wipe_facts G2 16 (Nat.le_refl _)
  have hwo : (wipeN σ2 16).rows otherB = splitP data := by
    rw [(ww otherB).2 (fun h => other_g h), hrows, if_pos rfl]
  have hwu : (wipeN σ2 16).used = (splitP data).length := by
    rw [used_one wg (nm := otherB) fun x hx => ?_, hwo]
    by_cases hg : isG x
    · exact (ww x).1 hg
    · rw [(ww x).2 hg]
      exact Decidable.byContradiction fun h => hx ((hsp x hg).1 h)
  have hc2 := cost_bd (cut_facts B2.cut).2.1 (oks_of B2.nE B2.cut)
  have hb2 := B2.room
  have ok2 := build_room G2 B2.nE B2.cut (by rw [hwu, hr2]; omega)
  obtain ⟨BB2, _, _⟩ := built_of G2 ok2
  refine ⟨rfl, ok2, ⟨σ2, BB2, hsp⟩, ?_, BB2.left.trans hl2⟩
  rw [BB2.else_ _ other_g, hrows, if_pos rfl]
theorem anew_names {σ3 σd : FSt} {room n : Int} {M P : List (Int × Int)} {data : ByteArray} (A : Anew σ3 n M P data) (B : Built (fs0 room) σd n M P) (hl : P.length ≤ 16) : (namesF σ3).filter (fun x => !decide (x = otherB)) = namesF σd := by
  obtain ⟨σ, BA, hsp⟩ := A.built
  refine rise_ext ltN_irrf ltN_trf ((names_rise BA.good).filter _) (names_rise B.good) fun x => ?_
  rw [List.mem_filter, names_built BA hl, names_built B hl]
  constructor
  · rintro ⟨h | h | ⟨h1, h2⟩, ho⟩
    · exact .inl h
    · exact .inr (.inl h)
    · have := (hsp x h1).1 h2
      rw [this] at ho
      simp at ho
  · intro h
    have hg : isG x := by
      rcases h with h | ⟨j, hj, h⟩ | ⟨_, h⟩
      · exact .inl h
      · exact .inr ⟨j, by omega, h⟩
      · exact absurd rfl h
    refine ⟨?_, by rw [decide_eq_false (fun e => by subst e; exact other_g hg)]; rfl⟩
    rcases h with h | h | ⟨_, h⟩
    · exact .inl h
    · exact .inr (.inl h)
    · exact absurd rfl h
theorem anew_rows {σ3 σd : FSt} {room n : Int} {M P : List (Int × Int)} {data : ByteArray} (A : Anew σ3 n M P data) (B : Built (fs0 room) σd n M P) (hl : P.length ≤ 16) {x : ByteArray} (hx : x ∈ namesF σd) : ∃ d, σ3.rows x = splitP d ∧ σd.rows x = splitP d := by
  obtain ⟨σ, BA, hsp⟩ := A.built
  rcases (names_built B hl).1 hx with h | ⟨j, hj, h⟩ | ⟨_, h⟩
  · subst h; exact ⟨_, BA.man, B.man⟩
  · subst h; exact ⟨_, BA.shard j hj, B.shard j hj⟩
  · exact absurd rfl h
end Go.Cz.S
namespace Go.Cz.S
open Go Go.Cz Go.Cz.Crc
set_option maxRecDepth 100000
set_option maxHeartbeats 1000000
set_option linter.unusedSimpArgs false
set_option linter.unusedVariables false
structure Js (σ : FSt) (κ : CSt) (nm : ByteArray) : Prop where
  nn : ∀ x ∈ κ.L, 0 ≤ x.pins
  len : (κ.L.length : Int) ≤ κ.most
  mine : ∀ x ∈ κ.L, x.name = nm → x.pins = 0 ∧ OkFrm σ x
end Go.Cz.S
namespace Go.Cz.S
open Go Go.Cz Go.Cz.Crc
set_option maxRecDepth 100000
set_option maxHeartbeats 1000000
set_option linter.unusedSimpArgs false
set_option linter.unusedVariables false
theorem WW.side {h h' : H} {S1 S2 S2' : Nat → Prop} {f c : Nat} {σ : FSt} {κ : CSt} {t : Int} (W : WW h S1 f c σ κ t) (dis : ∀ k, S1 k → ¬ S2 k) (K : Kp S2 h S2' h') : WW h' S1 f c σ κ t ∧ ∀ k, S1 k → ¬ S2' k :=
  ⟨W.fr K.fr dis, fun k hk hs => by
    rcases K.own k hs with h | h
    · exact dis k hk h
    · obtain ⟨o, ho⟩ := W.ex k hk; rw [h] at ho; cases ho⟩
def OffB {α : Type} (S1 S2 : Nat → Prop) (h : H) (v : Sl) (E : Enc α) (l : List α) : Prop := Off S1 h v E l ∧ Off S2 h v E l
theorem OffB.kp1 {α : Type} {S1 S1' S2 : Nat → Prop} {h h' : H} {v : Sl} {E : Enc α} {l : List α} (A : OffB S1 S2 h v E l) (K : Kp S1 h S1' h') : OffB S1' S2 h' v E l :=
  ⟨A.1.kp K, (A.1.kp K).1, A.2.2⟩
theorem OffB.kp2 {α : Type} {S1 S2 S2' : Nat → Prop} {h h' : H} {v : Sl} {E : Enc α} {l : List α} (A : OffB S1 S2 h v E l) (K : Kp S2 h S2' h') : OffB S1 S2' h' v E l :=
  ⟨⟨(A.2.kp K).1, A.1.2⟩, A.2.kp K⟩
theorem newCW_i {h : H} {S : Nat → Prop} {f c : Nat} {σ : FSt} {κ : CSt} {t n : Int} (W : WW h S f c σ κ t) (h1 : 1 ≤ n) (h2 : n ≤ 64) {Q : Option Addr × Int → HProp}
    (hQ : ∀ S' o h', WW h' S' f o σ ⟨n, []⟩ 0 → Ext h h' → (∀ k, S' k → S k ∨ h k = none) → Q (some (at0 o), 0) h') : cache_New (some (at0 f), n) Q h := by
  obtain ⟨Sf, F, hsub, _⟩ := W.fs
  refine newC_i F (fun hb => absurd hb (by omega)) fun _ _ S' o h' W' K' E' => ?_
  refine hQ S' o h' W' E' fun k hk => ?_
  rcases K'.own k hk with h | h
  · exact .inl (hsub k h)
  · exact .inr h
theorem WriteW_i {h : H} {S : Nat → Prop} {f c : Nat} {σ : FSt} {κ : CSt} {t : Int} (W : WW h S f c σ κ t) {nm : ByteArray} (hn : nm.size ≤ 1000000000000) {v : Sl} {ps : List ByteArray} (A : Arr h v eS ps) (hl : ps.length ≤ 1000000) {Q : Int → HProp}
    (hQ : ∀ S' h', WW h' S' f c (σ.write nm ps).1 κ t → Kp S h S' h' → Q (σ.write nm ps).2 h') : files_FS_Write (some (at0 f), nm, v) Q h := by
  obtain ⟨Sf, F, hsub, go⟩ := W.fs
  refine write_i F hn A hl fun Sf' h' F' K' => ?_
  obtain ⟨S', W', K⟩ := go Sf' h' _ F' K'
  exact hQ S' h' W' K
theorem Bd.at {room n : Int} {L : List (Int × Int)} {s : Int} (B : Bd 400 n L s) (hL : L.length ≤ 400) (h1 : 96 ≤ room) (h2 : room ≤ 4096) : Bd room n L s := by
  have E := B.ed
  have h3 := norm_len L
  have h4 := E.n2
  have h5 := E.pos
  exact ⟨⟨by omega, h2⟩, B.nE, B.cut, by omega⟩
end Go.Cz.S
namespace Go.Cz.S
open Go Go.Cz Go.Cz.Crc
set_option maxRecDepth 100000
set_option maxHeartbeats 1000000
set_option linter.unusedSimpArgs false
set_option linter.unusedVariables false
end Go.Cz.S
namespace Go.Cz.S
open Go Go.Cz Go.Cz.Crc
set_option maxRecDepth 100000
set_option maxHeartbeats 1000000
set_option linter.unusedSimpArgs false
set_option linter.unusedVariables false
end Go.Cz.S
namespace Go.Cz.S
open Go Go.Cz Go.Cz.Crc
set_option maxRecDepth 100000
set_option maxHeartbeats 1000000
set_option linter.unusedSimpArgs false
set_option linter.unusedVariables false
end Go.Cz.S
namespace Go.Cz.S
open Go Go.Cz Go.Cz.Crc
set_option maxRecDepth 100000
set_option maxHeartbeats 4000000
set_option linter.unusedSimpArgs false
set_option linter.unusedVariables false
structure ActT where
  k : Int
  nm : ByteArray
  i : Int
  d : ByteArray
  x : Int
structure OkAct (a : ActT) : Prop where
  k : 0 ≤ a.k ∧ a.k ≤ 255
  i : -9223372036854775808 ≤ a.i ∧ a.i ≤ 9223372036854775807
  x : 0 ≤ a.x ∧ a.x ≤ 255
end Go.Cz.S
namespace Go.Cz.S
open Go Go.Cz Go.Cz.Crc
set_option maxRecDepth 100000
set_option maxHeartbeats 4000000
set_option linter.unusedSimpArgs false
set_option linter.unusedVariables false
end Go.Cz.S
namespace Go.Cz.S
open Go Go.Cz Go.Cz.Crc
set_option maxRecDepth 100000
set_option maxHeartbeats 4000000
set_option linter.unusedSimpArgs false
set_option linter.unusedVariables false
theorem BuildN_i {h : H} {S : Nat → Prop} {f c : Nat} {σ : FSt} {κ : CSt} {t : Int} (W : WW h S f c σ κ t) {v : Sl} {L : List (Int × Int)} (A : Arr h v eP L) (hL : L.length ≤ 1000000) {n s : Int} {Q : Int × Int × Sl × Int → HProp}
    (h1 : (buildF σ n L s).2 ≠ 0 → ∀ S' h', WW h' S' f c (buildF σ n L s).1 κ t → Kp S h S' h' → Q (0, 0, ⟨none, 0, 0⟩, (buildF σ n L s).2) h')
    (h2 : (buildF σ n L s).2 = 0 → ∀ S' h' v', WW h' S' f c (buildF σ n L s).1 κ t → Kp S h S' h' → Off S' h' v' eP (cutL n s) → New h v' → Q (n, ((normG L).length : Nat), v', 0) h') : build_Build (some (at0 f), n, v, s) Q h := by
  obtain ⟨Sf, F, hsub, go⟩ := W.fs2
  refine Build_i F A hL (fun e Sf' h' F' K' => ?_) (fun e Sf' h' v' F' K' O' nw => ?_)
  · obtain ⟨S', W', K, _⟩ := go Sf' h' _ F' K'
    exact h1 e S' h' W' K
  · obtain ⟨S', W', K, hs⟩ := go Sf' h' _ F' K'
    refine h2 e S' h' v' W' K ⟨O'.1, fun hne k hk hS => ?_⟩ nw
    rcases hs k hS with h | h
    · exact O'.2 hne k hk h
    · obtain ⟨o, ho⟩ := W.ex k h
      rw [nw k hk] at ho; cases ho
def PW (S0 : Nat → Prop) (h0 : H) (σ : FSt) (κ : CSt) (f c : Nat) (n m : Int) (P : List (Int × Int)) (t : Option Addr × Int) (h : H) : Prop :=
  ∃ b v S, t = (some (at0 b), 0) ∧ WW h S f c σ κ 0 ∧ Obj h b [.int .i64 n, .int .i64 m, .slice v.a v.len v.cap] ∧ ¬ S b ∧ Off S h v eP P ∧ Kp S0 h0 S h
theorem pw_done {S0 : Nat → Prop} {h0 h : H} {S : Nat → Prop} {f c b : Nat} {σ : FSt} {κ : CSt} {n m : Int} {P : List (Int × Int)} {v : Sl} {cs : List Value} {k : Option Addr × Int → HProp} (W : WW h S f c σ κ 0) (o : Obj h b cs) (hc : cs.length = 3) (nb : ¬ S b) (O : Off S h v eP P) (hv : P ≠ [] → ¬ v.on b) (hb0 : ∀ k o, h0 k = some o → ¬ S0 k → k ≠ b) (K : Kp S0 h0 S h)
    (hk : ∀ a h', PW S0 h0 σ κ f c n m P a h' → k a h') : storesW (Addr.mk b 0 none) [.int .i64 n, .int .i64 m, .slice v.a v.len v.cap] (k (some (Addr.mk b 0 none), 0)) h :=
  sts_i o (by rw [hc]; rfl) fun h' o' g => hk _ _ ⟨b, v, S, rfl, W.fr g (fun k hk e => by subst e; exact nb hk), o', nb, O.one g hv, ⟨fun k o hk hs => g k o (K.fr k o hk hs) (hb0 k o hk hs), K.own⟩⟩
theorem BuildAnew_holds (a0 a1 b0 b1 : Int) (v1 v2 : Sl) (L1 L2 : List (Int × Int)) (z : ByteArray) (h : H) (A1 : Arr h v1 eU2 L1) (A2 : Arr h v2 eU2 L2) (hx1 : ∀ x ∈ L1, 0 ≤ x.1 ∧ x.1 ≤ 255 ∧ 0 ≤ x.2 ∧ x.2 ≤ 255) (hx2 : ∀ x ∈ L2, 0 ≤ x.1 ∧ x.1 ≤ 255 ∧ 0 ≤ x.2 ∧ x.2 ≤ 255)
    (ha0 : 0 ≤ a0 ∧ a0 ≤ 255) (ha1 : 0 ≤ a1 ∧ a1 ≤ 255) (hb0 : 0 ≤ b0 ∧ b0 ≤ 255) (hb1 : 0 ≤ b1 ∧ b1 ≤ 255) :
    law12_BuildAnew (a0, a1, b0, b1, v1, v2, z) (fun r _ => r = true) h := by
  unfold law12_BuildAnew law12_BuildAnew_F
  have hl1 := A1.len
  have hl2 := A2.len
  simp only [ltI_eq, eqI_eq, leI_eq, eqS_eq, hl1, hl2, show (ByteArray.mk #[111, 116, 104, 101, 114]) = otherB from rfl]
  refine with_b (decide (200 < L1.length) || (decide (200 < L2.length) || decide (300 < z.size))) (fun k hk => ?_) ?_
  · refine ite_t (by rfl) (ite_t (by rfl) (ite_i (fun e => ?_) fun e => ite_t (by rfl) (ite_t (by rfl) (ite_i (fun e2 => ?_) fun e2 => ?_))))
    · rw [decide_eq_true (by have := of_decide_eq_true e; omega : 200 < L1.length), Bool.true_or] at hk; exact hk
    · rw [decide_eq_true (by have := of_decide_eq_true e2; omega : 200 < L2.length), Bool.true_or, Bool.or_true] at hk; exact hk
    · rw [decide_eq_false (by have := of_decide_eq_false e; omega : ¬ 200 < L1.length), decide_eq_false (by have := of_decide_eq_false e2; omega : ¬ 200 < L2.length), Bool.false_or, Bool.false_or] at hk
      have : decide ((300 : Int) < (z.size : Nat)) = decide (300 < z.size) := decide_eq_decide.2 (by omega)
      rw [this]; exact hk
  refine ite_i (fun _ => by trivial) fun e => ?_
  simp only [Bool.or_eq_false_iff, decide_eq_false_iff_not] at e
  obtain ⟨hL1, hL2, hz⟩ := e
  refine ite_t (by rfl) (ite_t (by rfl) (ite_t (by rfl) (ite_t (by rfl) (ite_t (by rfl) (ite_t (by rfl) (ite_t (by rfl) (ite_t (by rfl) (ite_t (by rfl) (ite_t (by rfl) ?_)))))))))
  refine built12_i ha0 ha1 (by decide) A1 (by omega) hx1 rfl rfl ?_
  obtain ⟨n1, hn1⟩ : ∃ n, n = 2 + a0 % 255 := ⟨_, rfl⟩
  obtain ⟨s1, hs1⟩ : ∃ s, s = 1 + a1 % (if 16 < 2 + a0 % 255 then 16 else 2 + a0 % 255) := ⟨_, rfl⟩
  rw [← hs1, ← hn1]
  intro B1 S1 f c h1 w1 W1 O1 E1 hS1
  have AO1 := Arr.off A2 E1 hS1
  -- the other graph
  obtain ⟨n2, hn2⟩ : ∃ n, n = 2 + b0 % 255 := ⟨_, rfl⟩
  obtain ⟨s2, hs2⟩ : ∃ s, s = 1 + b1 % (if 16 < 2 + b0 % 255 then 16 else 2 + b0 % 255) := ⟨_, rfl⟩
  have B2 : Bd 400 n2 (L2.map (someE n2)) s2 := by
    have := Bd.of hb0.1 hb1.1 (L := L2) (by omega)
    rw [← hs2, ← hn2] at this; exact this
  have ED1 := B1.ed
  have ED2 := B2.ed
  obtain ⟨an1, an2, AN⟩ := anew B1 (B2.at (by rw [List.length_map]; omega) (by decide) (by decide)) (by
    have h2 := norm_len (L1.map (someE n1))
    rw [List.length_map] at h2
    have h3 := ED1.n2
    have h4 := ED1.pos
    omega) (data := z) (by omega)
  obtain ⟨okd, BBd⟩ := B2.ok
  have n22 : 2 ≤ n2 ∧ n2 ≤ 256 := by omega
  dsimp only
  refine with_i (fun (r : Bool) h' => r = false ∧ ∃ S', WW h' S' f c ((fsB 400 n1 (L1.map (someE n1)) s1).write otherB (splitP z)).1 ⟨1 + 4 % 9, []⟩ 0 ∧ Kp S1 h1 S' h') (fun q hq => ?_) ?_
  · refine ite_f (by rfl) (W1.cfs (pages_Split_spec (by omega) fun u h2 V2 nw2 E2 => ?_))
    have hsp := (split_cnt z).2
    refine WriteW_i (W1.ext E2) (by decide) V2.arr (by omega) fun S3 h3 W3 K3 => ?_
    rw [an1]
    exact hq _ _ ⟨rfl, S3, W3, (Kp.ext E2).trans K3⟩
  rintro r h2 ⟨rfl, S2, W2, K2⟩
  have AO2 := AO1.kp K2
  generalize ((fsB 400 n1 (L1.map (someE n1)) s1).write otherB (splitP z)).1 = σ2 at *
  refine ite_f (by rfl) (ite_t (by rfl) (ite_t (by rfl) (ite_t (by rfl) (ite_t (by rfl) (must_i (by decide) ?_)))))
  have e1 : add IntKind.i64 2 (rem (cnv IntKind.i64 b0) 255) = n2 := by
    rw [cnv_rem hb0.1 (by omega) (by decide), add_i64 (by omega) (by omega), hn2]
  have e2 : minI n2 16 = if 16 < n2 then 16 else n2 := by rw [minI_eq]
  have hm : 2 ≤ (if 16 < n2 then 16 else n2) ∧ (if 16 < n2 then 16 else n2) ≤ 16 := by split <;> omega
  have e3 : add IntKind.i64 1 (rem (cnv IntKind.i64 b1) (if 16 < n2 then 16 else n2)) = s2 := by
    rw [cnv_rem hb1.1 (by omega) (by omega)]
    have h3 := Int.emod_nonneg b1 (show (if 16 < n2 then (16 : Int) else n2) ≠ 0 by omega)
    have h4 := Int.emod_lt_of_pos b1 (show 0 < (if 16 < n2 then (16 : Int) else n2) by omega)
    rw [add_i64 (by omega) (by omega), hs2, ← hn2]
  rw [e1, e2, e3]
  have hbi : ∀ {h' : H} {S : Nat → Prop} (W : WW h' S f c σ2 ⟨1 + 4 % 9, []⟩ 0) {u : Sl} (A : Arr h' u eP (L2.map (someE n2))) {K : Int × Int × Sl × Int → HProp}
      (hK : ∀ S' h'' w, WW h'' S' f c (buildF σ2 n2 (L2.map (someE n2)) s2).1 ⟨1 + 4 % 9, []⟩ 0 → Kp S h' S' h'' → Off S' h'' w eP (cutL n2 s2) → New h' w → K (n2, ((normG (L2.map (someE n2))).length : Nat), w, 0) h''), build_Build (some (at0 f), n2, u, s2) K h' := by
    intro h' S W u A K hK
    exact BuildN_i W A (by rw [List.length_map]; omega) (fun e => absurd an2 e) fun _ S' h'' w W' K' O nw => hK S' h'' w W' K' O nw
  refine with_i (PW S2 h2 (buildF σ2 n2 (L2.map (someE n2)) s2).1 ⟨1 + 4 % 9, []⟩ f c n2 ((normG (L2.map (someE n2))).length : Nat) (cutL n2 s2)) (fun k hk => ?_) ?_
  · refine ite_t (by rfl) (ite_t (by rfl) (ite_t (by rfl) (ite_t (by rfl) (ite_t (by rfl) (ite_t (by rfl) (must_i (by omega) (both_i (W2.cfs (both_i ?_ ?_)) ?_)))))))
    · refine some_i (by omega) (by omega) AO2.1 (by omega) hx2 fun u h3 V3 nw3 E3 => both_i ?_ ?_
      · refine hbi (W2.ext E3) V3.arr fun S4 h4 w W4 K4 O4 nw4 => ?_
        refine Obj.new fun bb h5 o5 hb5 E5 => ?_
        refine pw_done (W4.ext E5) o5 rfl (fun hs => by obtain ⟨o, ho⟩ := W4.ex bb hs; rw [hb5] at ho; cases ho) (O4.ext E5) (fun hne ho => ?_) ?_ (((Kp.ext E3).trans K4).trans (Kp.ext E5)) hk
        · obtain ⟨a, ha, e⟩ := ho
          obtain ⟨_, cs, wr, h3', _⟩ := O4.1.blk a ha hne
          rw [e, hb5] at h3'; cases h3'
        · intro k o hk hs e
          subst e
          have := ((Kp.ext E3).trans K4).fr _ o hk hs
          rw [hb5] at this; cases this
      · refine Obj.new fun bb h4 o4 hb4 E4 => ?_
        have W4 := (W2.ext E3).ext E4
        have nb : ¬ S2 bb := fun hs => by obtain ⟨o, ho⟩ := (W2.ext E3).ex bb hs; rw [hb4] at ho; cases ho
        refine hbi W4 (V3.arr.ext E4) fun S5 h5 w W5 K5 O5 nw5 => ?_
        obtain ⟨o5, nb5⟩ := Off.obj o4 nb K5
        refine pw_done W5 o5 rfl nb5 O5 (fun _ ho => ?_) (fun k o hk _ e => by subst e; have := E3.none hb4; rw [hk] at this; cases this) (((Kp.ext E3).trans (Kp.ext E4)).trans K5) hk
        have := nw5 bb ho
        unfold Obj at o4
        rw [o4] at this; cases this
    · refine Obj.new fun bb h3 o3 hb3 E3 => ?_
      refine some_i (by omega) (by omega) (AO2.1.ext E3) (by omega) hx2 fun u h4 V4 nw4 E4 => ?_
      have W4 := (W2.ext E3).ext E4
      have nb : ¬ S2 bb := fun hs => by obtain ⟨o, ho⟩ := W2.ex bb hs; rw [hb3] at ho; cases ho
      have o4 := o3.ext E4
      refine hbi W4 V4.arr fun S5 h5 w W5 K5 O5 nw5 => ?_
      obtain ⟨o5, nb5⟩ := Off.obj o4 nb K5
      refine pw_done W5 o5 rfl nb5 O5 (fun _ ho => ?_) (fun k o hk _ e => by subst e; rw [hb3] at hk; cases hk) (((Kp.ext E3).trans (Kp.ext E4)).trans K5) hk
      have := nw5 bb ho
      unfold Obj at o4
      rw [o4] at this; cases this
    · refine Obj.new fun bb h3 o3 hb3 E3 => ?_
      refine (W2.ext E3).cfs (some_i (by omega) (by omega) (AO2.1.ext E3) (by omega) hx2 fun u h4 V4 nw4 E4 => ?_)
      have W4 := (W2.ext E3).ext E4
      have nb : ¬ S2 bb := fun hs => by obtain ⟨o, ho⟩ := W2.ex bb hs; rw [hb3] at ho; cases ho
      have o4 := o3.ext E4
      refine hbi W4 V4.arr fun S5 h5 w W5 K5 O5 nw5 => ?_
      obtain ⟨o5, nb5⟩ := Off.obj o4 nb K5
      refine pw_done W5 o5 rfl nb5 O5 (fun _ ho => ?_) (fun k o hk _ e => by subst e; rw [hb3] at hk; cases hk) (((Kp.ext E3).trans (Kp.ext E4)).trans K5) hk
      have := nw5 bb ho
      unfold Obj at o4
      rw [o4] at this; cases this
  rintro ⟨bp, code⟩ h3 ⟨bb, w, S3, e, W3, o3, nb3, O3, K3⟩
  obtain ⟨rfl, rfl⟩ := Prod.mk.injEq .. ▸ e
  have AO3 := AO2.kp K3
  refine ite_t (by rfl) (ite_t (by rfl) (ite_t (by rfl) (ite_t (by rfl) (ite_t (by rfl) (ite_t (by rfl) (ite_t (by rfl) (ite_t (by rfl) (ite_t (by rfl) (ite_t (by rfl) ?_)))))))))
  refine built12_i (s := s2) hb0 hb1 (by decide) AO3.1 (by omega) hx2 hn2 (by rw [hn2]; exact hs2) ?_
  intro _ Sd fd d h4 wd Wd Od E4 hSd
  dsimp only
  refine with_b false (fun q hq => ite_f (by rfl) hq) (ite_f (by rfl) ?_)
  have W4 := W3.ext E4
  have o4 := o3.ext E4
  have O4 := O3.ext E4
  have dis : ∀ k, S3 k → ¬ Sd k := fun k hk hd => by
    obtain ⟨o, ho⟩ := W3.ex k hk
    rw [hSd k hd] at ho; cases ho
  have nbd : ¬ Sd bb := fun hd => by
    have := hSd bb hd
    unfold Obj at o3
    rw [o3] at this; cases this
  have om2 := BBd.okm
  change Anew (buildF σ2 n2 (L2.map (someE n2)) s2).1 n2 _ _ z at AN
  generalize (buildF σ2 n2 (L2.map (someE n2)) s2).1 = σ3 at *
  change WW h4 Sd fd d (fsB 400 n2 (L2.map (someE n2)) s2) _ _ at Wd
  generalize fsB 400 n2 (L2.map (someE n2)) s2 = σd at *
  generalize normG (L2.map (someE n2)) = M at *
  generalize cutL n2 s2 = P at *
  have hpos := ED2.pos
  refine Wd.cfs (namesW_i Wd fun vn h5 Vn nwn E5 => W4.ext E5 |>.cfs (namesW_i (W4.ext E5) fun vm h6 Vm nwm E6 => ?_))
  have hnm := anew_names AN BBd hpos.2
  have hvm := Vm.len
  have hcount : (namesF σ3).length ≤ 1000000 := by
    have := names_cnt σ3 W3
    omega
  have E46 := E5.trans E6
  have W6 := W4.ext E46
  have Wd6 := Wd.ext E46
  have o6 := o4.ext E46
  have O6 := O4.ext E46
  have Vn6 := Vn.ext E6
  rw [hvm]
  refine loop_i (fun (t : Sl × Int) h' => ∃ j : Nat, t.2 = j ∧ j ≤ (namesF σ3).length ∧ Ext h6 h' ∧ Vec h' t.1 eS (((namesF σ3).take j).filter fun x => !decide (x = otherB)) ∧ New h6 t.1) (fun t => ((namesF σ3).length - t.2).toNat)
    ⟨0, rfl, by omega, Ext.refl _, Vec.nil0, New.nil0⟩ ?_
  rintro ⟨sv, i⟩ h7 ⟨j, rfl, hj, E7, V7, nw7⟩ k hk
  dsimp only at V7 nw7 ⊢
  have Vm7 := Vm.arr.ext E7
  refine ite_i (fun e1 => ?_) (fun e1 => ?_)
  · have hlt : j < (namesF σ3).length := by have := of_decide_eq_true e1; omega
    have ei : add .i64 (j : Int) 1 = (j : Int) + 1 := add_i64 (by omega) (by omega)
    have ht := List.take_succ_eq_append_getElem hlt
    have hfl := List.length_filter_le (fun x => !decide (x = otherB)) ((namesF σ3).take j)
    rw [List.length_take] at hfl
    refine with_i (fun (t : Sl) h' => Ext h6 h' ∧ Vec h' t eS (((namesF σ3).take (j + 1)).filter fun x => !decide (x = otherB)) ∧ New h6 t) (fun q hq => ?_) ?_
    · refine Arr.txt Vm7 hlt ?_
      refine ite_i (fun e2 => ?_) (fun e2 => ?_)
      · refine Arr.txt Vm7 hlt ?_
        refine V7.append_new (m := [(namesF σ3)[j]]) E7 nw7 rfl rfl rfl (by omega) fun u h8 V8 E8 nw8 _ _ => hq _ _ ⟨E8, ?_, nw8⟩
        rw [ht, List.filter_append, List.filter_cons, if_pos e2]
        exact V8
      · refine hq _ _ ⟨E7, ?_, nw7⟩
        rw [ht, List.filter_append, List.filter_cons, if_neg (by rw [e2]; decide), List.filter_nil, List.append_nil]
        exact V7
    · rintro t h8 ⟨E8, V8, nw8⟩
      rw [ei]
      exact hk _ _ ⟨j + 1, by simp, by omega, E8, V8, nw8⟩ (by dsimp only; omega)
  have hjl : j = (namesF σ3).length := by have := of_decide_eq_false e1; omega
  subst hjl
  rw [List.take_length, hnm] at V7
  have W7 := W6.ext E7
  have Wd7 := Wd6.ext E7
  have o7 := o6.ext E7
  have O7 := O6.ext E7
  have Vn7 := Vn6.ext E7
  refine W7.cfs (newCW_i W7 (by decide) (by decide) fun S8 c8 h8 W8 E8 own8 => ?_)
  have Wd8 := Wd7.ext E8
  have o8 := o7.ext E8
  have dis8 : ∀ k, S8 k → ¬ Sd k := fun k hk hd => by
    rcases own8 k hk with h | h
    · exact dis k h hd
    · obtain ⟨o, ho⟩ := Wd7.ex k hd; rw [h] at ho; cases ho
  have nb8 : ¬ S8 bb := fun hs => by
    rcases own8 bb hs with h | h
    · exact nb3 h
    · unfold Obj at o7; rw [o7] at h; cases h
  have O8 : Off S8 h8 w eP P := ⟨O7.1.ext E8, fun hne k hk hS => by
    rcases own8 k hS with h | h
    · exact O7.2 hne k hk h
    · obtain ⟨a, ha, rfl⟩ := hk
      obtain ⟨_, cs, wr, h1, _⟩ := O7.1.blk a ha hne
      rw [h] at h1; cases h1⟩
  have N8 : OffB S8 Sd h8 vn eS (namesF σd) := by
    refine ⟨⟨Vn7.arr.ext E8, fun hne k hk hS => ?_⟩, ⟨Vn7.arr.ext E8, fun hne k hk hS => ?_⟩⟩
    · rcases own8 k hS with h | h
      · obtain ⟨o, ho⟩ := W4.ex k h; rw [nwn k hk] at ho; cases ho
      · obtain ⟨a, ha, rfl⟩ := hk
        obtain ⟨_, cs, wr, h1, _⟩ := Vn7.arr.blk a ha hne
        rw [h] at h1; cases h1
    · obtain ⟨o, ho⟩ := Wd.ex k hS; rw [nwn k hk] at ho; cases ho
  have hvn := Vn.len
  have hdn : (namesF σd).length ≤ 1000000 := by
    have := names_cnt σd Wd
    omega
  refine with_b false (fun q hq => ite_f (by rfl) (Texts_i (V7.arr.ext E8) N8.1.1 hdn ?_)) (ite_f (by rfl) ?_)
  · rw [decide_eq_true rfl]; exact hq
  have hl3 : σ3.left = -1 := AN.left
  have hld : σd.left = -1 := BBd.left
  rw [hvn]
  refine loop_i (fun (i : Int) h' => ∃ (j : Nat) (S T : Nat → Prop) (κ κd : CSt), i = j ∧ j ≤ (namesF σd).length ∧ WW h' S f c8 σ3 κ (4096 * j) ∧ WW h' T fd d σd κd (4096 * j) ∧ Fresh σ3 κ ∧ Fresh σd κd ∧ (∀ k, S k → ¬ T k) ∧ OffB S T h' vn eS (namesF σd) ∧ Obj h' bb [.int .i64 n2, .int .i64 (M.length : Nat), .slice w.a w.len w.cap] ∧ ¬ S bb ∧ ¬ T bb ∧ Off S h' w eP P ∧ Off T h' w eP P) (fun i => ((namesF σd).length - i).toNat)
    ⟨0, S8, Sd, _, _, rfl, by omega, W8, Wd8, fresh0 σ3 (by decide), fresh0 σd (by decide), dis8, N8, o8, nb8, nbd, O8, ⟨O8.1, fun hne k hk hd => ?_⟩⟩ ?_
  · obtain ⟨a, ha, rfl⟩ := hk
    obtain ⟨_, cs, wr, h1, _⟩ := O3.1.blk a ha hne
    rw [hSd _ hd] at h1; cases h1
  rintro i h9 ⟨j, S9, T9, κ9, κd9, rfl, hj9, W9, Wd9, F9, Fd9, dis9, N9, o9, nb9, nbd9, O9, Od9⟩ k hk
  refine ite_i (fun e2 => ?_) (fun e2 => ?_)
  · have hlt : j < (namesF σd).length := by have := of_decide_eq_true e2; omega
    have ei : add .i64 (j : Int) 1 = (j : Int) + 1 := add_i64 (by omega) (by omega)
    obtain ⟨dd, r3, rd⟩ := anew_rows AN BBd hpos.2 (List.getElem_mem hlt)
    obtain ⟨κ10, ef, F10, m10⟩ := fileC_fresh F9 hl3 r3
    obtain ⟨κd10, efd, Fd10, md10⟩ := fileC_fresh Fd9 hld rd
    refine Arr.txt N9.1.1 hlt (File_i W9 (by omega) fun S10 h10 W10 K10 hz10 => ?_)
    rw [ef] at W10 ⊢
    obtain ⟨Wd10, dis10⟩ := Wd9.side (fun k hk h => dis9 k h hk) K10
    have N10 := N9.kp1 K10
    obtain ⟨o10, nb10⟩ := Off.obj o9 nb9 K10
    have Od10 : Off T9 h10 w eP P := ⟨(O9.kp K10).1, Od9.2⟩
    refine Arr.txt N10.1.1 hlt (File_i Wd10 (by omega) fun T11 h11 Wd11 K11 hz11 => ?_)
    rw [efd] at Wd11 ⊢
    obtain ⟨W11, dis11⟩ := W10.side (fun k hk h => dis10 k h hk) K11
    have N11 := N10.kp2 K11
    obtain ⟨o11, nbd11⟩ := Off.obj o10 nbd9 K11
    dsimp only
    refine with_b false (fun q hq => ite_f (by rfl) (ite_f (by rfl) ?_)) (ite_f (by rfl) ?_)
    · rw [decide_eq_true rfl]; exact hq
    rw [ei]
    refine hk _ h11 ⟨j + 1, S10, T11, κ10, κd10, by simp, by omega, W11.mono (by omega), Wd11.mono (by omega), F10, Fd10, dis11, N11, o11, nb10, nbd11, ⟨(Od10.kp K11).1, (O9.kp K10).2⟩, Od10.kp K11⟩ (by omega)
  · obtain ⟨σ0, BA, _⟩ := AN.built
    obtain ⟨κ10, ef, F10, m10⟩ := fileC_fresh F9 hl3 BA.man
    refine Open_i W9 (by omega) (fun e => absurd (by rw [ef]) e) (fun _ e => ?_) fun _ m em S10 h10 v10 W10 K10 V10 => ?_
    · rw [ef] at e; rw [decM_enc om2] at e; cases e
    rw [ef] at em W10
    dsimp only at em W10
    rw [decM_enc om2] at em
    cases em
    obtain ⟨o10, nb10⟩ := Off.obj o9 nb9 K10
    have O10 := O9.kp K10
    obtain ⟨κ11, ef2, F11, m11⟩ := fileC_fresh F10 hl3 AN.other
    refine File_i W10 (by omega) fun S11 h11 W11 K11 hz11 => ?_
    rw [ef2] at W11 ⊢
    obtain ⟨o11, nb11⟩ := Off.obj o10 nb10 K11
    have O11 := O10.kp K11
    have V11 := V10.kp K11
    refine with_u (ite_t (by rfl) (deref_i (loadI_i (n := n2) (o11.ld (j := 0) rfl) (loadI_i (n := (M.length : Nat)) (o11.ld (j := 1) rfl) (loadL_i (v := w) (o11.ld (j := 2) rfl) (law11_Same_i V11.1 O11.1 (by dsimp only; omega) (ite_t (decide_eq_true rfl) (ite_t (by rfl) (ite_t (decide_eq_true rfl) (does12_i fun _ => by trivial))))))))))
where
  names_cnt {h : H} {S : Nat → Prop} {f c : Nat} (σ : FSt) {κ : CSt} {n : Int} (W : WW h S f c σ κ n) : (namesF σ).length ≤ 4096 := by
    obtain ⟨Sf, F, _⟩ := W.fs
    have G := F.good
    have key : ∀ L : List (ByteArray × List ByteArray), (∀ x ∈ L, x.2 ≠ []) → L.length ≤ usedL L := by
      intro L
      induction L with
      | nil => intro _; exact Nat.zero_le _
      | cons x r ih =>
        intro h
        have h1 := ih fun y hy => h y (List.mem_cons_of_mem _ hy)
        have h2 := List.length_pos_iff.2 (h x (List.mem_cons_self ..))
        rw [used_cons, List.length_cons]
        omega
    have h1 := key σ.L fun x hx => (G.pg x hx).1
    have h2 := G.used
    have h3 := G.room
    have h4 : σ.used = usedL σ.L := rfl
    have h5 : (namesF σ).length = σ.L.length := by simp [namesF]
    omega
end Go.Cz.S
namespace Go.Cz
open Go
theorem RdL_cons {h : H} {x : Lf} {r : List Lf} {v : SV} {us : List SV} : RdL h (x :: r) (v :: us) ↔ Rd h x v ∧ RdL h r us := by
  simp only [RdL]
  constructor
  · rintro ⟨_, _, e, h1, h2⟩; cases e; exact ⟨h1, h2⟩
  · rintro ⟨h1, h2⟩; exact ⟨_, _, rfl, h1, h2⟩
theorem Rd.int {h : H} {k : IntKind} {n : Int} (hr : Rd h (.i k) (.i k n)) : (Lit.int k n).wf = true := by
  simp only [Rd] at hr
  obtain ⟨m, e, hw⟩ := hr
  cases e; exact hw
theorem Rd.u8 {h : H} {n : Int} (hr : Rd h (.i .u8) (.i .u8 n)) : 0 ≤ n ∧ n ≤ 255 := bounds_u8 hr.int
theorem Rd.arr {α : Type} {h : H} {e : List Lf} {v : Sl} {E : Enc α} (P : α → Prop) (hr : Rd h (.sl e) (.sl v)) (hw : e.length = E.w)
    (dec : ∀ r, RdL h e (r.map SV.ofA) → ∃ x, E.f x = r ∧ P x) : ∃ l, Arr h v E l ∧ (∀ x ∈ l, P x) ∧ v.cap ≤ maxLen := by
  simp only [Rd] at hr
  obtain ⟨u, eq, h1, h2, h3, rows, h4, h5, h6⟩ := hr
  cases eq
  have ex : ∀ rows : List (List Value), (∀ r ∈ rows, RdL h e (r.map SV.ofA)) → ∃ l : List α, l.map E.f = rows ∧ ∀ x ∈ l, P x := by
    intro rows
    induction rows with
    | nil => intro _; exact ⟨[], rfl, by simp⟩
    | cons r rs ih =>
      intro hh
      obtain ⟨x, hx, hp⟩ := dec r (hh r (by simp))
      obtain ⟨l, hl, hq⟩ := ih (fun r hr => hh r (by simp [hr]))
      refine ⟨x :: l, by simp [hx, hl], ?_⟩
      intro y hy
      rcases List.mem_cons.1 hy with rfl | hy
      · exact hp
      · exact hq y hy
  obtain ⟨l, hl, hp⟩ := ex rows h6
  have hlen : l.length = v.len := by rw [← h4, ← hl]; simp
  refine ⟨l, ⟨hlen.symm, h1, h3, fun a ha hne => ?_⟩, hp, h2⟩
  rw [hw] at h5
  unfold H.row? at h5
  have hpos : 0 < l.length := List.length_pos_iff.2 hne
  have := Nat.mul_pos hpos E.pos
  rw [← hlen, if_neg (by omega), ha] at h5
  simp only at h5
  split at h5
  · rename_i c wr hb
    split at h5
    · cases h5
    · rename_i hs
      split at h5
      · rename_i hle
        refine ⟨by cases hq : a.spot <;> simp_all, c, wr, hb, hle, ?_⟩
        have := Option.some.inj h5
        rw [this, ← hl, Enc.all, List.flatMap]
      · cases h5
  · cases h5
theorem RdL_one {h : H} {x : Lf} {r : List Value} (hr : RdL h [x] (r.map SV.ofA)) : ∃ v, r = [v] ∧ Rd h x (SV.ofA v) := by
  cases r with
  | nil => simp [RdL] at hr
  | cons v r =>
    simp only [List.map_cons] at hr
    obtain ⟨h1, h2⟩ := RdL_cons.1 hr
    cases r with
    | nil => exact ⟨v, rfl, h1⟩
    | cons w r => simp [RdL] at h2
theorem RdL_more {h : H} {x : Lf} {l : List Lf} {r : List Value} (hr : RdL h (x :: l) (r.map SV.ofA)) : ∃ v s, r = v :: s ∧ Rd h x (SV.ofA v) ∧ RdL h l (s.map SV.ofA) := by
  cases r with
  | nil => simp [RdL] at hr
  | cons v r =>
    simp only [List.map_cons] at hr
    obtain ⟨h1, h2⟩ := RdL_cons.1 hr
    exact ⟨v, r, rfl, h1, h2⟩
theorem ofA_int {h : H} {k : IntKind} {v : Value} (hr : Rd h (.i k) (SV.ofA v)) : ∃ n, v = .int k n ∧ (Lit.int k n).wf = true := by
  simp only [Rd] at hr
  obtain ⟨n, e, hw⟩ := hr
  refine ⟨n, ?_, hw⟩
  cases v <;> simp [SV.ofA] at e
  obtain ⟨rfl, rfl⟩ := e; rfl
end Go.Cz
namespace Go.Cz.S
open Go Go.Cz
theorem bytes2 {h : H} {v : Sl} (hr : Rd h (.sl [.i .u8, .i .u8]) (.sl v)) : ∃ l, Arr h v eU2 l ∧ ∀ x ∈ l, 0 ≤ x.1 ∧ x.1 ≤ 255 ∧ 0 ≤ x.2 ∧ x.2 ≤ 255 := by
  obtain ⟨l, A, hp, _⟩ := hr.arr (E := eU2) (fun x => 0 ≤ x.1 ∧ x.1 ≤ 255 ∧ 0 ≤ x.2 ∧ x.2 ≤ 255) rfl fun r hr => by
    obtain ⟨v0, s0, rfl, h0, k0⟩ := RdL_more hr
    obtain ⟨v1, rfl, h1⟩ := RdL_one k0
    obtain ⟨n0, rfl, w0⟩ := ofA_int h0
    obtain ⟨n1, rfl, w1⟩ := ofA_int h1
    have b0 := bounds_u8 w0
    have b1 := bounds_u8 w1
    exact ⟨(n0, n1), rfl, b0.1, b0.2, b1.1, b1.2⟩
  exact ⟨l, A, hp⟩
theorem law12_BuildAnew_row (h : H) (t : Int × Int × Int × Int × Sl × Sl × ByteArray) (hr : RdL h [.i .u8, .i .u8, .i .u8, .i .u8, .sl [.i .u8, .i .u8], .sl [.i .u8, .i .u8], .s] [.i .u8 t.1, .i .u8 t.2.1, .i .u8 t.2.2.1, .i .u8 t.2.2.2.1, .sl t.2.2.2.2.1, .sl t.2.2.2.2.2.1, .s t.2.2.2.2.2.2]) : law12_BuildAnew t (fun r _ => r = true) h := by
  obtain ⟨r0, hr⟩ := RdL_cons.1 hr
  obtain ⟨r1, hr⟩ := RdL_cons.1 hr
  obtain ⟨r2, hr⟩ := RdL_cons.1 hr
  obtain ⟨r3, hr⟩ := RdL_cons.1 hr
  obtain ⟨r4, hr⟩ := RdL_cons.1 hr
  obtain ⟨r5, _⟩ := RdL_cons.1 hr
  obtain ⟨l, A, hb⟩ := bytes2 r4
  obtain ⟨m, B, hc⟩ := bytes2 r5
  exact BuildAnew_holds t.1 t.2.1 t.2.2.1 t.2.2.2.1 t.2.2.2.2.1 t.2.2.2.2.2.1 l m t.2.2.2.2.2.2 h A B hb hc r0.u8 r1.u8 r2.u8 r3.u8
end Go.Cz.S
