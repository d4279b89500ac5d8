/- Part of the proof of a law of 1312: an engine that runs a function over an abstract heap, and what the functions compute; own work. -/
import Derived.Test.YtbefcngilihcoaaGreatDoorGF
import Derived.Test.YtbefcngilihcoaaGreatDoorGR
import Derived.Test.YtbefcngilihcoaaGreatDoorGC
set_option linter.unusedVariables false
set_option linter.unusedSimpArgs false
set_option linter.unusedSectionVars false
namespace Go.Cz.S
open Go Go.Cz Go.Cz.Crc
set_option maxRecDepth 100000
set_option maxHeartbeats 1000000
set_option linter.unusedSimpArgs false
set_option linter.unusedVariables false
def nameN (i : Nat) : List UInt8 := if i < 10 then [115, UInt8.ofNat (48 + i)] else [115, 49, UInt8.ofNat (48 + (i - 10))]
def nameB (i : Int) : ByteArray := if 0 ≤ i ∧ i < 16 then mkB (nameN i.toNat) else ⟨#[]⟩
def mN : ByteArray := ⟨#[109]⟩
theorem nameN_digits {i : Nat} (h : i < 16) : 115 :: Lib.decDigits i = nameN i := by
  unfold nameN
  rw [Lib.decDigits]
  by_cases h1 : i < 10
  · rw [dif_pos h1, if_pos h1]
  · rw [dif_neg h1, if_neg h1, Lib.decDigits, dif_pos (by omega)]
    rw [show i / 10 = 1 by omega, show i % 10 = i - 10 by omega]
    rfl
theorem bname_i {i : Int} {h : H} {Q : ByteArray → HProp} (hQ : Q (nameB i) h) : build_Name i Q h := by
  unfold build_Name build_Name_F
  simp only [ltI_eq, leI_eq]
  refine with_b (decide (i < 0) || decide (16 ≤ i)) (fun k hk => ite_i (fun e => by rw [e] at hk; exact hk) (fun e => by rw [e] at hk; exact hk)) ?_
  refine ite_i (fun e => ?_) (fun e => ?_)
  · have : nameB i = ⟨#[]⟩ := by unfold nameB; rw [if_neg]; simp at e; omega
    rw [this] at hQ; exact hQ
  · have e : 0 ≤ i ∧ i < 16 := by simp at e; exact e
    unfold strconv_Itoa itoaW
    have hd := nameN_digits (i := i.toNat) (by omega)
    have hl : (nameN i.toNat).length ≤ 3 := by unfold nameN; split <;> simp
    have hl2 : (Lib.decDigits i.toNat).length ≤ 2 := by rw [← hd] at hl; simp at hl; exact hl
    refine ⟨e.1, by omega, must_i ?_ ?_⟩
    · show 1 + (Lib.decDigits i.toNat).toArray.size ≤ _
      rw [List.size_toArray]; omega
    · have : ByteArray.mk #[115] ++ ⟨(Lib.decDigits i.toNat).toArray⟩ = nameB i := by
        apply ba_ext
        unfold nameB
        rw [if_pos e, app_data, mkB_data, ← hd]
        simp
      rw [this]; exact hQ
theorem nameB_size (i : Int) : (nameB i).size ≤ 3 := by
  unfold nameB
  split
  · rw [mkB_size]; unfold nameN; split <;> simp
  · exact Nat.zero_le _
theorem nameB_ok {i : Nat} (h : i < 16) : okName (nameB i) = true := by
  have : ∀ i : Fin 16, okName (nameB (i.val : Int)) = true := by decide +kernel
  exact this ⟨i, h⟩
theorem nameB_inj {i j : Int} (hi : 0 ≤ i ∧ i < 16) (h : nameB i = nameB j) : i = j := by
  have h0 : ∀ i : Fin 16, nameB (i.val : Int) ≠ ⟨#[]⟩ := by decide +kernel
  have h1 : ∀ i j : Fin 16, nameB (i.val : Int) = nameB (j.val : Int) → i = j := by decide +kernel
  by_cases hj : 0 ≤ j ∧ j < 16
  · have := h1 ⟨i.toNat, by omega⟩ ⟨j.toNat, by omega⟩ (by simp only [Int.toNat_of_nonneg hi.1, Int.toNat_of_nonneg hj.1]; exact h)
    have := congrArg Fin.val this
    simp only at this
    omega
  · have := h0 ⟨i.toNat, by omega⟩
    simp only [Int.toNat_of_nonneg hi.1] at this
    rw [h] at this
    exact absurd (by unfold nameB; rw [if_neg hj]) this
theorem nameB_m (i : Int) : nameB i ≠ mN := by
  have h1 : ∀ i : Fin 16, nameB (i.val : Int) ≠ mN := by decide +kernel
  by_cases hj : 0 ≤ i ∧ i < 16
  · have := h1 ⟨i.toNat, by omega⟩
    simp only [Int.toNat_of_nonneg hj.1] at this
    exact this
  · unfold nameB; rw [if_neg hj]; decide
theorem mN_ok : okName mN = true := by decide +kernel
def wipeN (σ : FSt) (i : Nat) : FSt := (List.range i).foldl (fun σ (j : Nat) => (σ.remove (nameB j)).1) (σ.remove mN).1
theorem wipeN_succ (σ : FSt) (i : Nat) : wipeN σ (i + 1) = ((wipeN σ i).remove (nameB i)).1 := by
  unfold wipeN; rw [List.range_succ, List.foldl_append]; rfl
theorem wipe_i {h : H} {S : Nat → Prop} {f : Nat} {σ : FSt} (F : FW h S f σ) {Q : Unit → HProp} (hQ : ∀ S' h', FW h' S' f (wipeN σ 16) → Kp S h S' h' → Q () h') : build_wipe (some (at0 f)) Q h := by
  unfold build_wipe build_wipe_F
  simp only [ltI_eq]
  refine remove_i F fun S1 h1 F1 K1 => ?_
  refine loop_i (fun (s : Int) h' => ∃ (i : Nat) (S' : Nat → Prop), s = i ∧ i ≤ 16 ∧ FW h' S' f (wipeN σ i) ∧ Kp S h S' h') (fun s => (16 - s).toNat) ⟨0, S1, rfl, by omega, F1, K1⟩ ?_
  rintro s h2 ⟨i, S2, rfl, hi, F2, K2⟩ k hk
  refine ite_i (fun e => ?_) (fun e => ?_)
  · have e := of_decide_eq_true e
    refine bname_i (remove_i F2 fun S3 h3 F3 K3 => ?_)
    rw [add_i64 (by omega) (by omega)]
    exact hk _ _ ⟨i + 1, S3, rfl, by omega, by rw [wipeN_succ]; exact F3, K2.trans K3⟩ (by omega)
  · have e := of_decide_eq_false e
    obtain rfl : i = 16 := by omega
    exact hQ S2 h2 F2 K2
theorem rises_of {l : List Int} {a : Int} (h : l.Pairwise fun a b => a < b) (ha : ∀ x ∈ l, a < x) : rises a l = true := by
  induction l generalizing a with
  | nil => rfl
  | cons x r ih =>
    rw [List.pairwise_cons] at h
    simp only [rises, Bool.and_eq_true, decide_eq_true_eq]
    exact ⟨ha x (List.mem_cons_self ..), ih h.2 h.1⟩
theorem sum_out (M : List (Int × Int)) (a : Int) : ∀ n : Nat, manyS ((List.range n).map fun i : Nat => rowE M (a + i)) = (M.filter fun x => decide (a ≤ x.1) && decide (x.1 < a + n)).length := by
  intro n
  induction n with
  | zero =>
    have : M.filter (fun x => decide (a ≤ x.1) && decide (x.1 < a + (0 : Nat))) = [] := List.filter_eq_nil_iff.2 fun x _ => by simp only [Bool.and_eq_true, decide_eq_true_eq]; omega
    rw [this]; rfl
  | succ n ih =>
    rw [List.range_succ, List.map_append]
    have e1 : ∀ A B : List (List Int), manyS (A ++ B) = manyS A + manyS B := fun A B => by unfold manyS; rw [List.map_append, List.sum_append]
    rw [e1, ih]
    have e2 : manyS ([n].map fun i : Nat => rowE M (a + i)) = (M.filter fun x => decide (x.1 = a + n)).length := by
      unfold manyS rowE; simp
    rw [e2]
    clear ih e2
    induction M with
    | nil => rfl
    | cons x r ih =>
      simp only [List.filter_cons]
      by_cases h1 : a ≤ x.1 ∧ x.1 < a + n
      · rw [if_pos (by simp [h1]), if_neg (by simp; omega), if_pos (by simp; omega)]
        simp only [List.length_cons] at *; omega
      · rw [if_neg (by simp; omega)]
        by_cases h2 : x.1 = a + n
        · rw [if_pos (by simp [h2]), if_pos (by simp; omega)]
          simp only [List.length_cons] at *; omega
        · rw [if_neg (by simp [h2]), if_neg (by simp; omega)]
          exact ih
theorem okLists_of {v : Int} {out : List (List Int)} (h : ∀ i, (hi : i < out.length) → okList (v + i) out[i] = true) : okLists v out = true := okLists_take.2 h
theorem good_edges {n : Int} {L : List (Int × Int)} (h : badG n L = false) : 1 ≤ n ∧ n ≤ 256 ∧ ∀ x ∈ L, 0 ≤ x.1 ∧ x.1 < n ∧ 0 ≤ x.2 ∧ x.2 < n ∧ x.1 ≠ x.2 := by
  unfold badG at h
  simp only [Bool.or_eq_false_iff, Bool.not_eq_false', Bool.and_eq_true, decide_eq_true_eq] at h
  refine ⟨h.1.1, h.1.2, fun x hx => ?_⟩
  have := h.2
  rw [List.any_eq_false] at this
  have := this x hx
  unfold badE at this
  simp only [Bool.or_eq_true, Bool.not_eq_true', Bool.and_eq_false_iff, decide_eq_false_iff_not, decide_eq_true_eq] at this
  omega
theorem okShard_out {n : Int} {M : List (Int × Int)} (hM : ∀ x ∈ M, 0 ≤ x.1 ∧ x.1 < n ∧ 0 ≤ x.2 ∧ x.2 < n ∧ x.1 ≠ x.2) (hn : n ≤ 256) (hR : Rising M) (hl : M.length ≤ 4096) {a b : Int} (hp : okPart a b = true) : okShard ⟨a, b, outE M a b⟩ = true := by
  have hp' := hp
  unfold okPart at hp'
  simp only [Bool.and_eq_true, decide_eq_true_eq] at hp'
  unfold okShard
  simp only [Bool.and_eq_true, decide_eq_true_eq, hp, true_and]
  refine ⟨⟨?_, ?_⟩, okLists_of fun i hi => ?_⟩
  · rw [outE_len]; omega
  · unfold outE
    rw [sum_out]
    have := List.length_filter_le (fun x : Int × Int => decide (a ≤ x.1) && decide (x.1 < a + ((b - a).toNat : Nat))) M
    omega
  · rw [outE_len] at hi
    have he : (outE M a b)[i]'(by rw [outE_len]; exact hi) = rowE M (a + i) := by
      have := outE_at (L := M) hi
      rw [List.getElem?_eq_getElem (by rw [outE_len]; exact hi)] at this
      exact Option.some.inj this
    rw [he]
    have hmem : ∀ y ∈ rowE M (a + i), 0 ≤ y ∧ y < n ∧ y ≠ a + i := by
      intro y hy
      unfold rowE at hy
      obtain ⟨x, hx, rfl⟩ := List.mem_map.1 hy
      obtain ⟨hx1, hx2⟩ := List.mem_filter.1 hx
      have := hM x hx1
      have e := of_decide_eq_true hx2
      exact ⟨this.2.2.1, this.2.2.2.1, fun h => this.2.2.2.2 (by omega)⟩
    unfold okList
    rw [rises_of (rowE_rise hR _) fun x hx => by have := hmem x hx; omega]
    simp only [Bool.true_and, Bool.and_eq_true, Bool.not_eq_true', Bool.or_eq_true, decide_eq_true_eq]
    refine ⟨?_, ?_⟩
    · rw [Bool.eq_false_iff]
      intro h
      exact (hmem _ (by simpa using h)).2.2 rfl
    · cases hr : rowE M (a + i) with
      | nil => exact .inl rfl
      | cons x r =>
        right
        have : (rowE M (a + i)).getLastD 0 ∈ rowE M (a + i) := by
          rw [hr, List.getLastD_cons]
          have key : ∀ (r : List Int) (x : Int), r.getLastD x ∈ x :: r := by
            intro r
            induction r with
            | nil => intro x; simp
            | cons y s ih => intro x; rw [List.getLastD_cons]; exact List.mem_cons_of_mem _ (ih y)
          exact key r x
        rw [hr] at this
        rw [hr] at hmem
        have := hmem _ this
        omega
def shardF (M : List (Int × Int)) (p : Int × Int) : Shd := ⟨p.1, p.2, outE M p.1 p.2⟩
def writeAll (M : List (Int × Int)) : Nat → List (Int × Int) → FSt → FSt × Int
  | _, [], σ => (σ, 0)
  | i, p :: r, σ => match σ.write (nameB i) (splitP (mkB (encS (shardF M p)))) with
    | (σ', e) => if e ≠ 0 then (σ', e) else writeAll M (i + 1) r σ'
def endB (n : Int) (m : Nat) (P : List (Int × Int)) (r : FSt × Int) : FSt × Int := if r.2 ≠ 0 then r else r.1.write mN (splitP (mkB (encM ⟨n, m, P⟩)))
def buildF (σ : FSt) (n : Int) (L : List (Int × Int)) (s : Int) : FSt × Int :=
  if normE n L ≠ 0 then (σ, normE n L) else if badCut n s = true then (σ, 2) else
    endB n (normG L).length (cutL n s) (writeAll (normG L) 0 (cutL n s) (wipeN σ 16))
end Go.Cz.S
namespace Go.Cz.S
open Go Go.Cz Go.Cz.Crc
set_option maxRecDepth 100000
set_option maxHeartbeats 1000000
set_option linter.unusedSimpArgs false
set_option linter.unusedVariables false
theorem div_lo {x y K : Int} (hK : 0 < K) : x / K + y / K ≤ (x + y) / K := by
  rw [Int.le_ediv_iff_mul_le hK, Int.add_mul]
  have h1 := Int.ediv_mul_le x (Int.ne_of_gt hK)
  have h2 := Int.ediv_mul_le y (Int.ne_of_gt hK)
  omega
theorem div_hi {x y K : Int} (hK : 0 < K) : (x + y) / K ≤ x / K + (y + K - 1) / K := by
  have h1 := Int.lt_ediv_add_one_mul_self x hK
  have h2 := Int.lt_ediv_add_one_mul_self (y + K - 1) hK
  rw [Int.add_mul, Int.one_mul] at h1 h2
  apply Int.le_of_lt_add_one
  rw [Int.ediv_lt_iff_lt_mul hK, Int.add_mul, Int.add_mul]
  omega
theorem cut_len (n s : Int) : (cutL n s).length = s.toNat := by simp [cutL]
theorem cut_at {n s : Int} {i : Nat} (h : i < s.toNat) : at_ (cutL n s) i = ((i : Int) * n / s, ((i : Int) + 1) * n / s) := by
  simp [at_, cutL, List.getD, List.getElem?_range h]
theorem cut_size {n s : Int} (hs : 0 < s) (i : Nat) : n / s ≤ ((i : Int) + 1) * n / s - (i : Int) * n / s ∧ ((i : Int) + 1) * n / s - (i : Int) * n / s ≤ (n + s - 1) / s := by
  have h1 := div_lo (x := (i : Int) * n) (y := n) hs
  have h2 := div_hi (x := (i : Int) * n) (y := n) hs
  rw [show (i : Int) * n + n = ((i : Int) + 1) * n by rw [Int.add_mul, Int.one_mul]] at h1 h2
  omega
theorem cut_check {n s : Int} (h1 : 1 ≤ s) (h2 : s ≤ n) (h3 : n ≤ 256) (h4 : s ≤ 16) : checkL n (cutL n s) = 0 := by
  unfold checkL
  rw [if_pos]
  refine ⟨by omega, h3, by rw [cut_len]; omega, (walk_iff _ _ _).2 ⟨fun i hi => ?_, ?_⟩⟩
  · rw [cut_len] at hi
    have hd : 1 ≤ n / s := by rw [Int.le_ediv_iff_mul_le (by omega)]; omega
    have := (cut_size (n := n) (s := s) (by omega) i).1
    rw [cut_at hi]
    refine ⟨?_, by simp only; omega⟩
    by_cases h0 : i = 0
    · subst h0; simp
    · rw [if_neg h0, cut_at (by omega)]
      simp only
      rw [show ((i - 1 : Nat) : Int) + 1 = i by omega]
  · rw [cut_len, if_neg (by omega), cut_at (by omega)]
    simp only
    rw [show ((s.toNat - 1 : Nat) : Int) + 1 = s by omega, Int.mul_ediv_cancel_left _ (by omega)]
theorem walk_mem : ∀ (l : List (Int × Int)) (a n : Int), walkL a l = some n → a ≤ n ∧ ∀ p ∈ l, a ≤ p.1 ∧ p.1 < p.2 ∧ p.2 ≤ n
  | [], a, n, h => by simp [walkL] at h; subst h; simp
  | p :: r, a, n, h => by
    simp only [walkL] at h
    split at h
    · rename_i hp
      obtain ⟨h1, h2⟩ := walk_mem r p.2 n h
      refine ⟨by omega, fun q hq => ?_⟩
      rcases List.mem_cons.1 hq with rfl | hq
      · omega
      · have := h2 q hq; omega
    · cases h
theorem cut_facts {n s : Int} (h : badCut n s = false) : (cutL n s).length ≤ 16 ∧ checkL n (cutL n s) = 0 ∧ ∀ p ∈ cutL n s, okPart p.1 p.2 = true := by
  unfold badCut at h
  simp only [decide_eq_false_iff_not] at h
  have hc := cut_check (n := n) (s := s) (by omega) (by omega) (by omega) (by omega)
  obtain ⟨h1, h2, h3, h4⟩ := check_facts hc
  refine ⟨h3, hc, fun p hp => ?_⟩
  have := (walk_mem _ _ _ h4).2 p hp
  unfold okPart
  simp only [Bool.and_eq_true, decide_eq_true_eq]
  omega
theorem encS_len {s : Shd} (h : okShard s = true) : (encS s).length ≤ 100000 := by
  have hs := h
  unfold okShard at h
  simp only [Bool.and_eq_true, decide_eq_true_eq] at h
  obtain ⟨⟨⟨hp, hl⟩, hm⟩, _⟩ := h
  unfold okPart at hp
  simp only [Bool.and_eq_true, decide_eq_true_eq] at hp
  have h1 := lists_len s.out
  have h2 := putN_len s.a.toNat
  have h3 := putN_len s.b.toNat
  have h4 := putN_len (manyS s.out)
  have h5 := wl_33 (degs s.out)
  have h6 : (packB (wl (degs s.out)) (degs s.out)).data.toList.length ≤ 1100 := by
    unfold packB
    rw [mkB_data, Bits.bytes_len]
    have : (degs s.out).length = s.out.length := by simp [degs]
    rw [this]
    have : s.out.length * wl (degs s.out) ≤ 256 * 33 := Nat.mul_le_mul (by omega) h5
    omega
  simp only [encS, sealed, headS, restS, List.length_append, List.length_cons, List.length_nil, crc4_len]
  omega
theorem splitP_128 {d : ByteArray} : ∀ p ∈ splitP d, p.size = 128 := by
  intro p hp
  unfold splitP at hp
  obtain ⟨l, hl, rfl⟩ := List.mem_map.1 hp
  rw [mkB_size]
  refine pageL_len (chunks_le _ _ ?_ l hl)
  omega
theorem bwrite_i {h : H} {S : Nat → Prop} {f : Nat} {σ : FSt} (F : FW h S f σ) {i : Int} {a b : Int} {v : Sl} {out : List (List Int)} (R : Rows2 h v out) (ok : okShard ⟨a, b, out⟩ = true) {Q : Int → HProp}
    (hQ : ∀ S' h', FW h' S' f (σ.write (nameB i) (splitP (mkB (encS ⟨a, b, out⟩)))).1 → Kp S h S' h' → Q (σ.write (nameB i) (splitP (mkB (encS ⟨a, b, out⟩)))).2 h') : build_write (some (at0 f), i, a, b, v) Q h := by
  unfold build_write build_write_F
  simp only [eqI_eq]
  have hk := ok
  unfold okShard at hk
  simp only [Bool.and_eq_true, decide_eq_true_eq] at hk
  obtain ⟨⟨⟨hp, hl⟩, hm⟩, hls⟩ := hk
  unfold okPart at hp
  simp only [Bool.and_eq_true, decide_eq_true_eq] at hp
  have hx : ∀ l ∈ out, l.length ≤ 1000000 := by
    intro l hl2
    have : ∀ o : List (List Int), l ∈ o → l.length ≤ manyS o := by
      intro o
      induction o with
      | nil => intro h; cases h
      | cons x r ih =>
        intro h
        have e : manyS (x :: r) = x.length + manyS r := by simp [manyS]
        rcases List.mem_cons.1 h with rfl | h
        · omega
        · have := ih h; omega
    have := this out hl2
    omega
  refine shEncode_i R (by omega) (by omega) (by omega) hx fun h1 E1 => ?_
  rw [ok]
  simp only [if_true]
  refine ite_f (by rfl) (bname_i ?_)
  have hel := encS_len ok
  refine pages_Split_spec (by rw [mkB_size]; omega) fun u h2 V nw E2 => ?_
  have hsl : (splitP (mkB (encS ⟨a, b, out⟩))).length ≤ 1000000 := by
    unfold splitP chunksOf
    rw [List.length_map, mkB_data]
    have : ∀ (n : Nat) (d : List UInt8), (chunks n d).length ≤ n + 1 := by
      intro n
      induction n with
      | zero => intro d; simp [chunks]
      | succ n ih =>
        intro d
        unfold chunks
        split
        · simp
        · have := ih (d.drop 122); simp only [List.length_cons]; omega
    have := this (encS ⟨a, b, out⟩).length (encS ⟨a, b, out⟩)
    omega
  have hns := nameB_size i
  refine write_i ((F.ext E1).ext E2) (by omega) V.arr hsl fun S' h3 F3 K3 => ?_
  exact hQ S' h3 F3 ((Kp.ext (E1.trans E2)).trans K3)
theorem chunks_many (d : List UInt8) : (chunksOf d).length ≤ d.length + 1 := by
  unfold chunksOf
  have : ∀ (n : Nat) (d : List UInt8), (chunks n d).length ≤ n + 1 := by
    intro n
    induction n with
    | zero => intro d; simp [chunks]
    | succ n ih =>
      intro d
      unfold chunks
      split
      · simp
      · have := ih (d.drop 122); simp only [List.length_cons]; omega
  exact this _ _
theorem split_many (d : ByteArray) : (splitP d).length ≤ d.size + 1 := by
  unfold splitP
  rw [List.length_map]
  have := chunks_many d.data.toList
  rw [size_data] at this
  exact this
theorem rows_empty {σ : FSt} (G : GoodF σ) : σ.rows ⟨#[]⟩ = [] := by
  refine rowsL_none fun x hx e => ?_
  have := G.nm x hx
  rw [e] at this
  revert this; decide
theorem writeAll_cons (M : List (Int × Int)) (i : Nat) (p : Int × Int) (r : List (Int × Int)) (σ : FSt) : writeAll M i (p :: r) σ = if (σ.write (nameB i) (splitP (mkB (encS (shardF M p))))).2 ≠ 0 then σ.write (nameB i) (splitP (mkB (encS (shardF M p)))) else writeAll M (i + 1) r (σ.write (nameB i) (splitP (mkB (encS (shardF M p))))).1 := by
  show (match σ.write (nameB i) (splitP (mkB (encS (shardF M p)))) with
    | (σ', e) => if e ≠ 0 then (σ', e) else writeAll M (i + 1) r σ') = _
  rfl
theorem remove_none {h : H} {S : Nat → Prop} {f : Nat} {σ : FSt} (F : FW h S f σ) {nm : ByteArray} (hr : σ.rows nm = []) {Q : Int → HProp} (hQ : Q 4 h) : files_FS_Remove (some (at0 f), nm) Q h := by
  obtain ⟨⟨m, R, B, hS⟩, _⟩ := F
  unfold files_FS_Remove files_FS_Remove_F
  simp only [eqI_eq]
  refine B.there ?_
  have e : codeT σ nm 0 = 4 := by unfold codeT; rw [hr]; rfl
  rw [e]
  exact ite_t (by rfl) hQ
theorem Build_i {h : H} {S : Nat → Prop} {f : Nat} {σ : FSt} (F : FW h S f σ) {v : Sl} {L : List (Int × Int)} (A : Arr h v eP L) (hL : L.length ≤ 1000000) {n s : Int} {Q : Int × Int × Sl × Int → HProp}
    (h1 : (buildF σ n L s).2 ≠ 0 → ∀ S' h', FW h' S' f (buildF σ n L s).1 → Kp S h S' h' → Q (0, 0, ⟨none, 0, 0⟩, (buildF σ n L s).2) h')
    (h2 : (buildF σ n L s).2 = 0 → ∀ S' h' v', FW h' S' f (buildF σ n L s).1 → Kp S h S' h' → Off S' h' v' eP (cutL n s) → New h v' → Q (n, ((normG L).length : Nat), v', 0) h') : build_Build (some (at0 f), n, v, s) Q h := by
  unfold build_Build build_Build_F
  simp only [eqI_eq, ltI_eq]
  refine remove_none F (rows_empty F.good) (ite_f (by rfl) ?_)
  unfold buildF at h1 h2
  refine normal_i A hL (fun hb h3 E3 => ?_) (fun hg u h3 V3 nw3 E3 => ?_)
  · rw [if_pos hb] at h1
    exact ite_t (by simpa using hb) (h1 hb S h3 (F.ext E3) (Kp.ext E3))
  have hbad : badG n L = false := by
    cases e : badG n L with
    | false => rfl
    | true => unfold normE at hg; rw [if_pos e] at hg; cases hg
  have hml : (normG L).length ≤ 4096 := by
    unfold normE at hg
    rw [if_neg (by rw [hbad]; decide)] at hg
    split at hg
    · cases hg
    · omega
  obtain ⟨n1, n2, hLe⟩ := good_edges hbad
  have hM : ∀ x ∈ normG L, 0 ≤ x.1 ∧ x.1 < n ∧ 0 ≤ x.2 ∧ x.2 < n ∧ x.1 ≠ x.2 := fun x hx => hLe x (norm_mem.1 hx)
  have hR := norm_rise L
  rw [if_neg (by rw [hg]; decide)] at h1 h2
  generalize normG L = M at *
  refine ite_f (by rfl) ?_
  have F3 := F.ext E3
  refine parts_Cut_spec (fun hb => ?_) (fun hb w h4 E4 nw4 V4 => ?_)
  · rw [if_pos hb] at h1
    exact ite_t (by rfl) (h1 (by simp) S h3 F3 (Kp.ext E3))
  rw [if_neg (by rw [hb]; decide)] at h1 h2
  obtain ⟨c1, c2, c3⟩ := cut_facts hb
  generalize hP : cutL n s = P at *
  refine ite_f (by rfl) ?_
  have F4 := F3.ext E4
  have O3 : Off S h4 u eP M := (Off.new V3 nw3 F.ex).ext E4
  have O4 : Off S h4 w eP P := Off.new V4 nw4 F3.ex
  refine wipe_i F4 fun S5 h5 F5 K5 => ?_
  have K05 : Kp S h S5 h5 := (Kp.ext (E3.trans E4)).trans K5
  have O3 := O3.kp K5
  have O4 := O4.kp K5
  have hwl := O4.1.len
  refine loop_i (fun (t : Int × Int × Int × Sl) h' => ∃ (j : Nat) (S' : Nat → Prop) (σj : FSt), t.1 = j ∧ j ≤ P.length ∧ FW h' S' f σj ∧ Kp S h S' h' ∧ Off S' h' u eP M ∧ Off S' h' w eP P ∧ writeAll M 0 P (wipeN σ 16) = writeAll M j (P.drop j) σj) (fun t => (P.length - t.1).toNat)
    ⟨0, S5, _, rfl, by omega, F5, K05, O3, O4, rfl⟩ ?_
  rintro ⟨j', x1, x2, x3⟩ h6 ⟨j, S6, σj, hj, hjl, F6, K6, O5, O6, hw⟩ k hk
  simp only at hj
  subst hj
  dsimp only
  refine ite_i (fun e => ?_) (fun e => ?_)
  · have e := of_decide_eq_true e
    have hlt : j < P.length := by omega
    refine O6.1.pair hlt ?_
    have hp := c3 _ (List.getElem_mem hlt)
    have hdr := List.drop_eq_getElem_cons hlt
    generalize P[j] = p at *
    refine make_i' O5.1 (by omega) hR (fun x hx => by have := hM x hx; omega) hp fun r h7 R7 E7 => ?_
    have ok := okShard_out hM n2 hR hml hp
    refine bwrite_i (F6.ext E7) R7 ok fun S8 h8 F8 K8 => ?_
    have K68 : Kp S6 h6 S8 h8 := (Kp.ext E7).trans K8
    have K08 := K6.trans K68
    rw [hdr, writeAll_cons] at hw
    refine ite_i (fun e2 => ?_) (fun e2 => ?_)
    · have e2 : (σj.write (nameB (j : Int)) (splitP (mkB (encS (shardF M p))))).2 ≠ 0 := by
        rw [Bool.not_eq_true'] at e2
        exact of_decide_eq_false e2
      rw [if_pos e2] at hw
      rw [hw] at h1
      unfold endB at h1
      rw [if_pos e2] at h1
      exact h1 e2 S8 h8 F8 K08
    · have e2 : (σj.write (nameB (j : Int)) (splitP (mkB (encS (shardF M p))))).2 = 0 := by
        rw [Bool.not_eq_false'] at e2
        exact of_decide_eq_true e2
      rw [if_neg (by rw [e2]; simp)] at hw
      rw [add_i64 (by omega) (by omega)]
      exact hk (_, x1, x2, x3) h8 ⟨j + 1, S8, _, by simp, by omega, F8, K08, O5.kp K68, O6.kp K68, hw⟩ (by show (P.length - ((j : Int) + 1)).toNat < (P.length - (j : Int)).toNat; omega)
  · have e := of_decide_eq_false e
    rw [List.drop_of_length_le (by omega)] at hw
    have hw : writeAll M 0 P (wipeN σ 16) = (σj, 0) := hw
    rw [hw] at h1 h2
    unfold endB at h1 h2
    simp only [ne_eq, not_true_eq_false, if_false] at h1 h2
    have om : okMan ⟨n, M.length, P⟩ = true := by
      unfold okMan
      simp only [Bool.and_eq_true, decide_eq_true_eq]
      omega
    have hul := O5.1.len
    rw [hul]
    refine manEnc_i O6.1 fun h7 E7 => ?_
    rw [om]
    simp only [if_true]
    refine ite_f (by rfl) ?_
    have hml2 := textM_len om
    have hsz : (mkB (encM ⟨n, M.length, P⟩)).size ≤ 500 := by
      rw [mkB_size]; simp only [encM, sealed, List.length_append, crc4_len]; omega
    refine pages_Split_spec (by omega) fun q h8 V8 nw8 E8 => ?_
    have hsm := split_many (mkB (encM ⟨n, M.length, P⟩))
    have E78 := E7.trans E8
    refine write_i (F6.ext E78) (by decide) V8.arr (by omega) fun S9 h9 F9 K9 => ?_
    have K69 : Kp S6 h6 S9 h9 := (Kp.ext E78).trans K9
    have K09 := K6.trans K69
    show iteW _ _ _ _
    have emn : (ByteArray.mk #[109]) = mN := rfl
    rw [emn] at F9 ⊢
    refine ite_i (fun e2 => ?_) (fun e2 => ?_)
    · have e2 : ¬ (σj.write mN (splitP (mkB (encM ⟨n, M.length, P⟩)))).2 = 0 := by simpa only [Bool.not_eq_true', decide_eq_false_iff_not] using e2
      exact h1 e2 S9 h9 F9 K09
    · have e2 : (σj.write mN (splitP (mkB (encM ⟨n, M.length, P⟩)))).2 = 0 := by simpa only [Bool.not_eq_false', decide_eq_true_eq] using e2
      exact h2 e2 S9 h9 w F9 K09 (O6.kp K69) (New.mono E3 nw4)
end Go.Cz.S
namespace Go.Cz.S
open Go Go.Cz Go.Cz.Crc
set_option maxRecDepth 100000
set_option maxHeartbeats 1000000
set_option linter.unusedSimpArgs false
set_option linter.unusedVariables false
theorem encS_inj {s t : Shd} (hs : okShard s = true) (ht : okShard t = true) (h : mkB (encS s) = mkB (encS t)) : s = t := by
  have bs := okShard_bd hs
  have bt := okShard_bd ht
  generalize hz : mkB (encS t) = z at h
  have a1 := read_a hs h
  have a2 := read_a ht hz
  rw [a1] at a2
  have ea : s.a.toNat = t.a.toNat := (Prod.mk.inj (Option.some.inj a2)).1
  have b1 := read_b hs h
  have b2 := read_b ht hz
  rw [ea] at b1
  rw [b1] at b2
  have eb : s.b.toNat = t.b.toNat := (Prod.mk.inj (Option.some.inj b2)).1
  have ep : posT s = posT t := by unfold posT; rw [ea, eb]
  have w1 := (read_w h).1
  have w2 := (read_w hz).1
  rw [ep, w2] at w1
  have w1 := Option.some.inj w1
  have s1 := wl_small hs
  have s2 := wl_small ht
  have ew : wl (degs s.out) = wl (degs t.out) := by
    have := congrArg UInt8.toNat w1
    rw [UInt8.toNat_ofNat', UInt8.toNat_ofNat'] at this
    omega
  have el : s.out.length = t.out.length := by omega
  have et : tabL' s = tabL' t := by rw [tab_len, tab_len, el, ew]
  have step : ∀ i, i ≤ s.out.length → s.out.take i = t.out.take i := by
    intro i
    induction i with
    | zero => intro _; rfl
    | succ i ih =>
      intro hi
      have ih := ih (by omega)
      have hi1 : i < s.out.length := by omega
      have hi2 : i < t.out.length := by omega
      have r1 := (read_l hs h hi1).1
      have r2 := (read_l ht hz hi2).1
      have epl : posL s i = posL t i := by unfold posL; rw [ep, et, ih]
      rw [epl, r2] at r1
      have e : t.out[i] = s.out[i] := by
        have := Option.some.inj r1
        exact congrArg Prod.fst this
      rw [List.take_succ_eq_append_getElem hi1, List.take_succ_eq_append_getElem hi2, ih, e]
  have eo : s.out = t.out := by
    have := step s.out.length (Nat.le_refl _)
    rw [List.take_length, el, List.take_length] at this
    exact this
  obtain ⟨a, b, o⟩ := s
  obtain ⟨a', b', o'⟩ := t
  simp only at *
  have : a = a' := by omega
  have : b = b' := by omega
  subst eo; subst a; subst b; rfl
open Classical in
noncomputable def decS (z : ByteArray) : Option Shd := if h : ∃ s, okShard s = true ∧ mkB (encS s) = z then some h.choose else none
theorem decS_enc {s : Shd} (hs : okShard s = true) : decS (mkB (encS s)) = some s := by
  unfold decS
  have hex : ∃ t, okShard t = true ∧ mkB (encS t) = mkB (encS s) := ⟨s, hs, rfl⟩
  rw [dif_pos hex]
  obtain ⟨h1, h2⟩ := hex.choose_spec
  rw [encS_inj h1 hs h2]
theorem decS_some {z : ByteArray} {s : Shd} (h : decS z = some s) : okShard s = true ∧ mkB (encS s) = z := by
  unfold decS at h
  split at h
  · rename_i hex
    cases h
    exact hex.choose_spec
  · cases h
theorem sdec_i {z : ByteArray} {h : H} (hz : z.size ≤ 1000000) {Q : Int × Int × Sl × Int → HProp}
    (h1 : ∀ s, decS z = some s → ∀ v h', RowsN h h' v s.out → Ext h h' → Q (s.a, s.b, v, 0) h') (h2 : decS z = none → ∀ h', Ext h h' → Q (0, 0, ⟨none, 0, 0⟩, 10) h') : shards_Decode z Q h := by
  refine shDecode_i hz (fun s hs he v h' R E => h1 s ?_ v h' R E) (fun hno h' E => h2 ?_ h' E)
  · rw [← he]; exact decS_enc hs
  · cases e : decS z with
    | none => rfl
    | some s =>
      obtain ⟨h3, h4⟩ := decS_some e
      exact absurd h4 (hno s h3)
def ROff (S : Nat → Prop) (h : H) (v : Sl) (out : List (List Int)) : Prop := ∃ svs : List Sl, Off S h v eL svs ∧ svs.length = out.length ∧ ∀ (i : Nat) (w : Sl) (l : List Int), svs[i]? = some w → out[i]? = some l → Off S h w (eI .i64) l
theorem ROff.kp {S S' : Nat → Prop} {h h' : H} {v : Sl} {out : List (List Int)} (R : ROff S h v out) (K : Kp S h S' h') : ROff S' h' v out := by
  obtain ⟨svs, A, hl, hr⟩ := R
  exact ⟨svs, A.kp K, hl, fun i w l h1 h2 => (hr i w l h1 h2).kp K⟩
theorem ROff.rows {S : Nat → Prop} {h : H} {v : Sl} {out : List (List Int)} (R : ROff S h v out) : Rows2 h v out := by
  obtain ⟨svs, A, hl, hr⟩ := R
  exact ⟨svs, A.1, hl, fun i w l h1 h2 => (hr i w l h1 h2).1⟩
theorem RowsN.off {S : Nat → Prop} {h0 h : H} {v : Sl} {out : List (List Int)} (R : RowsN h0 h v out) (hs : ∀ k, S k → ∃ o, h0 k = some o) : ROff S h v out := by
  obtain ⟨svs, A, hl, hr, n1, n2⟩ := R
  have ne : ∀ w : Sl, New h0 w → ∀ k, w.on k → ¬ S k := fun w nw k hk h => by obtain ⟨o, ho⟩ := hs k h; rw [nw k hk] at ho; cases ho
  exact ⟨svs, ⟨A, fun _ => ne v n1⟩, hl, fun i w l h1 h2 => ⟨hr i w l h1 h2, fun _ => ne w (n2 w (List.mem_of_getElem? h1))⟩⟩
theorem newC_i {n : Int} {h : H} {S0 : Nat → Prop} {f : Nat} {σ : FSt} (F : FW h S0 f σ) {Q : Option Addr × Int → HProp} (h1 : (n < 1 ∨ 64 < n) → Q (none, 2) h)
    (h2 : 1 ≤ n → n ≤ 64 → ∀ S c h', WW h' S f c σ ⟨n, []⟩ 0 → Kp S0 h S h' → Ext h h' → Q (some (at0 c), 0) h') : cache_New (some (at0 f), n) Q h := by
  unfold cache_New
  simp only [ltI_eq]
  refine ite_f (isNilP_some _) ?_
  refine with_b (decide (n < 1) || decide (64 < n)) (fun k hk => ?_) ?_
  · refine ite_i (fun e => by rw [e] at hk; exact hk) (fun e => by rw [e] at hk; exact hk)
  refine ite_i (fun e => ?_) (fun e => ?_)
  · exact h1 (by simpa using e)
  · simp only [Bool.or_eq_false_iff, decide_eq_false_iff_not] at e
    refine newMap_i fun m h3 M hm E3 => Obj.new fun c h4 o hc E4 => ?_
    have cm : c ≠ m := fun e => by obtain ⟨es, ck, M⟩ := M; have := M.blk; rw [e] at hc; rw [hc] at this; cases this
    have E34 := E3.trans E4
    have C : CB0 h4 c m f n 0 [] := ⟨o, M.fr E4 fun h => h, (fun t ht => by cases ht), List.nodup_nil, List.nodup_nil, (fun t ht => by cases ht), cm⟩
    have hn : ∀ k, CB0.own c m [] k → h k = none := by
      rintro k (rfl | rfl | ⟨t, ht, _⟩)
      · exact E3.none hc
      · exact hm
      · cases ht
    refine h2 (by omega) (by omega) (fun k => S0 k ∨ CB0.own c m [] k) c h4 ⟨S0, m, [], 0, F.ext E34, C, fun k hk hk2 => ?_, fun k => Iff.rfl, ⟨rfl, List.Pairwise.nil, (fun t ht => by cases ht), by omega, by show 1 ≤ n ∧ n ≤ 64; omega, by show ((0 : Nat) : Int) ≤ n; omega, (fun t ht => by cases ht), (fun t ht => by cases ht)⟩⟩ ⟨E34.fr, fun k hk => ?_⟩ E34
    · obtain ⟨o, ho⟩ := F.ex k hk
      rw [hn k hk2] at ho; cases ho
    · rcases hk with h | h
      · exact .inl h
      · exact .inr (hn k h)
theorem Open_i {h : H} {S : Nat → Prop} {f c : Nat} {σ : FSt} {κ : CSt} {n : Int} (W : WW h S f c σ κ n) (hn : n + 5000 ≤ 2305843009213693952) {Q : Int × Int × Sl × Int → HProp}
    (h1 : (fileC σ κ mN).2.2.2 ≠ 0 → ∀ S' h', WW h' S' f c (fileC σ κ mN).1 (fileC σ κ mN).2.1 (n + 4096) → Kp S h S' h' → Q (0, 0, ⟨none, 0, 0⟩, (fileC σ κ mN).2.2.2) h')
    (h2 : (fileC σ κ mN).2.2.2 = 0 → decM (fileC σ κ mN).2.2.1 = none → ∀ S' h', WW h' S' f c (fileC σ κ mN).1 (fileC σ κ mN).2.1 (n + 4096) → Kp S h S' h' → Q (0, 0, ⟨none, 0, 0⟩, 10) h')
    (h3 : (fileC σ κ mN).2.2.2 = 0 → ∀ m, decM (fileC σ κ mN).2.2.1 = some m → ∀ S' h' v, WW h' S' f c (fileC σ κ mN).1 (fileC σ κ mN).2.1 (n + 4096) → Kp S h S' h' → Off S' h' v eP m.L → Q (m.n, m.e, v, 0) h') : build_Open (some (at0 c)) Q h := by
  unfold build_Open build_Open_F
  simp only [eqI_eq, show (ByteArray.mk #[109]) = mN from rfl]
  refine File_i W hn fun S' h' W' K' hsz => ?_
  generalize fileC σ κ mN = r at *
  obtain ⟨σ', κ', z, e⟩ := r
  simp only at *
  refine ite_i (fun he => ?_) (fun he => ?_)
  · exact h1 (by simpa using he) S' h' W' K'
  · have he : e = 0 := by simpa using he
    refine manDec_i hsz (fun m hm v h'' V nw E => ?_) (fun hm h'' E => ?_)
    · exact h3 he m hm S' h'' v (W'.ext E) (K'.trans (Kp.ext E)) (Off.new V nw W'.ex)
    · exact h2 he hm S' h'' (W'.ext E) (K'.trans (Kp.ext E))
end Go.Cz.S
namespace Go.Cz.S
open Go Go.Cz Go.Cz.Crc
set_option maxRecDepth 100000
set_option maxHeartbeats 1000000
set_option linter.unusedSimpArgs false
set_option linter.unusedVariables false
noncomputable def loadF (σ : FSt) (κ : CSt) (m : Man) (k : Int) : FSt × CSt × Option Shd × Int :=
  if okMan m = false ∨ k < 0 ∨ (m.L.length : Int) ≤ k then (σ, κ, none, 2) else
    if (fileC σ κ (nameB k)).2.2.2 ≠ 0 then ((fileC σ κ (nameB k)).1, (fileC σ κ (nameB k)).2.1, none, (fileC σ κ (nameB k)).2.2.2) else
      match decS (fileC σ κ (nameB k)).2.2.1 with
      | none => ((fileC σ κ (nameB k)).1, (fileC σ κ (nameB k)).2.1, none, 10)
      | some s => if (s.a, s.b) ≠ at_ m.L k.toNat then ((fileC σ κ (nameB k)).1, (fileC σ κ (nameB k)).2.1, none, 130) else ((fileC σ κ (nameB k)).1, (fileC σ κ (nameB k)).2.1, some s, 0)
def jobL (c : Nat) (m : Man) (v : Sl) (k : Int) (z : ByteArray) (x y : Int) (w : Sl) : List Value := [.pointer (some (at0 c)), .int .i64 m.n, .int .i64 m.e, .slice v.a v.len v.cap, .int .i64 k, .string z, .int .i64 x, .int .i64 y, .slice w.a w.len w.cap]
structure Job (h0 : H) (S0 : Nat → Prop) (b f c : Nat) (m : Man) (v : Sl) (k : Int) (h : H) (S : Nat → Prop) (σ : FSt) (κ : CSt) (n : Int) (z : ByteArray) (x y : Int) (w : Sl) : Prop where
  W : WW h S f c σ κ n
  K : Kp S0 h0 S h
  o : Obj h b (jobL c m v k z x y w)
  nb : ¬ S b
  A : Off S h v eP m.L
  av : m.L ≠ [] → ¬ v.on b
  b0 : h0 b = none
end Go.Cz.S
namespace Go.Cz.S
open Go Go.Cz Go.Cz.Crc
set_option maxRecDepth 100000
set_option maxHeartbeats 1000000
set_option linter.unusedSimpArgs false
set_option linter.unusedVariables false
theorem law08_Same_i {a b : Sl} {l m : List (Int × Int)} {h : H} {Q : Bool → HProp} (A : Arr h a eP l) (B : Arr h b eP m) (hl : l.length ≤ 1000000) (hQ : Q (decide (l = m)) h) : law08_Same (a, b) Q h := by
  have e : law08_Same = law09_Same := rfl
  rw [e]; exact law09_Same_spec A B (by omega) hQ
theorem law11_Same_i {n e n' e' : Int} {a b : Sl} {l m : List (Int × Int)} {h : H} {Q : Bool → HProp} (A : Arr h a eP l) (B : Arr h b eP m) (hl : l.length ≤ 1000000) (hQ : Q (decide ((n, e, l) = (n', e', m))) h) : law11_Same (n, e, a, n', e', b) Q h := by
  unfold law11_Same law11_Same_F
  simp only [eqI_eq]
  refine with_u (ite_i (fun e1 => ?_) fun e1 => ?_)
  · have e1 : n = n' := by simpa using e1
    refine ite_i (fun e2 => ?_) fun e2 => ?_
    · have e2 : e = e' := by simpa using e2
      subst e1; subst e2
      refine law09_Same_spec A B (by omega) ?_
      rw [show decide (l = m) = decide ((n, e, l) = (n, e, m)) by simp]
      exact hQ
    · have e2 : e ≠ e' := by simpa using e2
      rw [decide_eq_false (by simp [e2])] at hQ; exact hQ
  · have e1 : n ≠ n' := by simpa using e1
    rw [decide_eq_false (by simp [e1])] at hQ; exact hQ
theorem Arr.txt {h : H} {v : Sl} {L : List ByteArray} (A : Arr h v eS L) {i : Nat} (hi : i < L.length) {K : ByteArray → HProp} (hK : K L[i] h) : indexW i v 1 (fun a => loadS a K) h := by
  refine A.str (by omega) (by omega) ?_
  rw [Int.toNat_natCast, List.getD_eq_getElem?_getD, List.getElem?_eq_getElem hi]
  exact hK
theorem Texts_i {a b : Sl} {l m : List ByteArray} {h : H} {Q : Bool → HProp} (A : Arr h a eS l) (B : Arr h b eS m) (hl : l.length ≤ 1000000) (hQ : Q (decide (l = m)) h) : law05_Texts (a, b) Q h := by
  unfold law05_Texts
  have la := A.len
  have lb := B.len
  simp only [eqI_eq, ltI_eq, eqS_eq]
  refine ite_i (fun e => ?_) (fun e => ?_)
  · have : l ≠ m := by rintro rfl; simp [la, lb] at e
    rw [decide_eq_false this] at hQ; exact hQ
  · have hlm : l.length = m.length := by simp at e; omega
    refine loop_i (fun i h2 => 0 ≤ i ∧ i ≤ l.length ∧ h2 = h ∧ l.take i.toNat = m.take i.toNat) (fun i => (l.length - i).toNat) ⟨Int.le_refl _, by omega, rfl, by simp⟩ ?_
    rintro i h2 ⟨i0, i1, rfl, hj⟩ k hk
    refine ite_i (fun e => ?_) (fun e => ?_)
    · have hi : i.toNat < l.length := by simp at e; omega
      have hx : l[i.toNat]? = some l[i.toNat] := by simp [hi]
      have hy : m[i.toNat]? = some m[i.toNat] := by simp [hlm ▸ hi]
      have go : iteW (!decide (l[i.toNat] = m[i.toNat])) (Q false) (k (add .i64 i 1)) h2 := by
        refine ite_i (fun e2 => ?_) (fun e2 => ?_)
        · have : l ≠ m := by rintro rfl; simp at e2
          rw [decide_eq_false this] at hQ; exact hQ
        · rw [add_i64 (by omega) (by omega)]
          refine hk _ _ ⟨by omega, by omega, rfl, ?_⟩ (by omega)
          rw [show (i + 1).toNat = i.toNat + 1 by omega, List.take_add_one, List.take_add_one, hj, hx, hy]
          simp at e2
          rw [e2]
      obtain ⟨i', rfl⟩ : ∃ i' : Nat, i = i' := ⟨i.toNat, by omega⟩
      simp only [Int.toNat_natCast] at hi go
      exact Arr.txt A hi (Arr.txt B (hlm ▸ hi) go)
    · have hi : l.length ≤ i.toNat := by simp at e; omega
      rw [List.take_of_length_le hi, List.take_of_length_le (by omega)] at hj
      rw [decide_eq_true hj] at hQ; exact hQ
end Go.Cz.S
namespace Go.Cz.S
open Go Go.Cz Go.Cz.Crc
set_option maxRecDepth 100000
set_option maxHeartbeats 1000000
set_option linter.unusedSimpArgs false
set_option linter.unusedVariables false
theorem chunks_pos : ∀ (n : Nat) (d : List UInt8), d.length ≤ 122 + 122 * n → 0 < d.length → ∀ c ∈ chunks n d, 0 < c.length
  | 0, d, h, h0, c, hc => by simp [chunks] at hc; subst hc; exact h0
  | n + 1, d, h, h0, c, hc => by
    unfold chunks at hc
    split at hc
    · simp at hc; subst hc; exact h0
    · rcases List.mem_cons.1 hc with rfl | hc
      · simp; omega
      · exact chunks_pos n _ (by simp; omega) (by simp; omega) c hc
theorem chunks_full : ∀ (n : Nat) (d : List UInt8), d.length ≤ 122 + 122 * n → ∀ j, (hj : j + 1 < (chunks n d).length) → ((chunks n d)[j]'(by omega)).length = 122
  | 0, d, h, j, hj => by simp [chunks] at hj
  | n + 1, d, h, j, hj => by
    by_cases hd : d.length ≤ 122
    · have e : chunks (n + 1) d = [d] := by unfold chunks; rw [if_pos hd]
      rw [e] at hj; simp at hj
    · have e : chunks (n + 1) d = d.take 122 :: chunks n (d.drop 122) := by conv => lhs; unfold chunks; rw [if_neg hd]
      simp only [e] at hj ⊢
      cases j with
      | zero => simp; omega
      | succ j =>
        have := chunks_full n (d.drop 122) (by simp; omega) j (by simpa using hj)
        simpa using this
theorem chunks_one : ∀ (n : Nat) (d : List UInt8), d.length ≤ 122 + 122 * n → 1 < (chunks n d).length → 0 < d.length
  | 0, d, h, hj => by simp [chunks] at hj
  | n + 1, d, h, hj => by
    unfold chunks at hj
    split at hj
    · simp at hj
    · omega
theorem chunks_cnt : ∀ (n : Nat) (d : List UInt8), d.length ≤ 122 + 122 * n → (chunks n d).length ≤ d.length / 122 + 1
  | 0, d, h => by simp [chunks]
  | n + 1, d, h => by
    unfold chunks
    split
    · simp
    · have := chunks_cnt n (d.drop 122) (by simp; omega)
      rw [List.length_drop] at this
      rw [List.length_cons]
      omega
structure Cut (d : ByteArray) (cs : List (List UInt8)) : Prop where
  le : ∀ c ∈ cs, c.length ≤ 122
  full : ∀ j, (hj : j + 1 < cs.length) → (cs[j]'(by omega)).length = 122
  pos : 1 < cs.length → ∀ c ∈ cs, 0 < c.length
  join : cs.flatten = d.data.toList
  ne : cs ≠ []
  cnt : cs.length ≤ d.size / 122 + 1
theorem split_cut (d : ByteArray) : ∃ cs, Cut d cs ∧ splitP d = cs.map fun l => mkB (pageL l) := by
  have hl : d.data.toList.length ≤ 122 + 122 * d.data.toList.length := by omega
  refine ⟨chunksOf d.data.toList, ⟨chunks_le _ _ hl, chunks_full _ _ hl, fun h => chunks_pos _ _ hl (chunks_one _ _ hl h), chunks_join _ _, chunks_ne _ _, ?_⟩, rfl⟩
  have := chunks_cnt _ _ hl
  rw [size_data] at this
  exact this
theorem split_cnt (d : ByteArray) : 1 ≤ (splitP d).length ∧ (splitP d).length ≤ d.size / 122 + 1 := by
  obtain ⟨cs, C, e⟩ := split_cut d
  rw [e, List.length_map]
  exact ⟨List.length_pos_iff.2 C.ne, C.cnt⟩
def OkFrm (σ : FSt) (x : Frm) : Prop := 0 ≤ x.i ∧ x.i < (σ.rows x.name).length ∧ decP ((σ.rows x.name).getD x.i.toNat ⟨#[]⟩) = some x.data
structure Fresh (σ : FSt) (κ : CSt) : Prop where
  most : 1 ≤ κ.most
  ok : ∀ x ∈ κ.L, x.pins = 0 ∧ OkFrm σ x
theorem read_whole {σ : FSt} (hl : σ.left = -1) {nm : ByteArray} {i : Int} (h0 : 0 ≤ i) (h1 : i < (σ.rows nm).length) : σ.read nm i = (σ, (σ.rows nm).getD i.toNat ⟨#[]⟩, 0) := by
  unfold FSt.read
  rw [if_neg (by omega), if_neg (by omega), if_neg (by omega)]
theorem Fresh.room {σ : FSt} {κ : CSt} (F : Fresh σ κ) : κ.room = true := by
  unfold CSt.room
  by_cases h : (κ.L.length : Int) < κ.most
  · rw [decide_eq_true h]; rfl
  · have hne : κ.L ≠ [] := fun e => by rw [e] at h; have := F.most; simp at h; omega
    obtain ⟨x, r, e⟩ := List.exists_cons_of_ne_nil hne
    have : κ.L.any (fun x => decide (x.pins = 0)) = true := List.any_eq_true.2 ⟨x, by rw [e]; exact List.mem_cons_self .., decide_eq_true (F.ok x (by rw [e]; exact List.mem_cons_self ..)).1⟩
    rw [this, Bool.or_true]
theorem eraseFirst_mem : ∀ {L : List Frm} {x : Frm}, x ∈ eraseFirst L → x ∈ L
  | y :: r, x, h => by
    simp only [eraseFirst] at h
    split at h
    · exact List.mem_cons_of_mem _ h
    · rcases List.mem_cons.1 h with h | h
      · rw [h]; exact List.mem_cons_self ..
      · exact List.mem_cons_of_mem _ (eraseFirst_mem h)
theorem unpin_last {κ : CSt} {nm : ByteArray} {i : Int} {L : List Frm} {x : Frm} (hL : κ.L = L ++ [x]) (hx : isAt nm i x = true) (hn : ∀ y ∈ L, isAt nm i y = false) (hp : x.pins ≠ 0) : (unpinC κ nm i).1 = { κ with L := L ++ [{ x with pins := x.pins - 1 }] } := by
  have hg : κ.get nm i = some x := by
    unfold CSt.get
    rw [hL, List.find?_append, List.find?_eq_none.2 fun y hy => by rw [hn y hy]; decide]
    simp [hx]
  unfold unpinC
  rw [hg]
  simp only []
  rw [if_neg hp]
  unfold CSt.upd
  rw [hL, List.map_append]
  have : L.map (fun y => if isAt nm i y = true then { y with pins := y.pins - 1 } else y) = L := by
    conv => rhs; rw [← List.map_id L]
    apply List.map_congr_left
    intro y hy
    rw [hn y hy]; rfl
  rw [this, List.map_cons, if_pos hx]
  rfl
theorem pin_fresh {σ : FSt} {κ : CSt} (F : Fresh σ κ) (hl : σ.left = -1) {nm : ByteArray} {i : Int} {d : ByteArray} (h0 : 0 ≤ i) (h1 : i < (σ.rows nm).length) (hd : decP ((σ.rows nm).getD i.toNat ⟨#[]⟩) = some d) :
    ∃ κ1 κ2, pinC σ κ nm i = (σ, κ1, d, 0) ∧ (unpinC κ1 nm i).1 = κ2 ∧ Fresh σ κ2 ∧ κ2.most = κ.most := by
  unfold pinC
  cases hg : κ.get nm i with
  | some x =>
    rw [getC_some hg]
    have hx := List.mem_of_find?_eq_some hg
    have hat : isAt nm i x = true := List.find?_some hg
    obtain ⟨en, ei⟩ := isAt_iff.1 hat
    have hox := F.ok x hx
    have hdx : x.data = d := by
      have := hox.2.2.2
      rw [en, ei, hd] at this
      exact (Option.some.inj this).symm
    have hu : κ.use nm i (fun x => { x with pins := x.pins + 1 }) = { κ with L := κ.L.filter (fun y => !isAt nm i y) ++ [{ x with pins := x.pins + 1 }] } := by
      unfold CSt.use; rw [hg]
    refine ⟨κ.use nm i (fun x => { x with pins := x.pins + 1 }), _, by rw [hdx], unpin_last (L := κ.L.filter fun y => !isAt nm i y) (x := { x with pins := x.pins + 1 }) (by rw [hu]) hat (fun y hy => by simpa using (List.mem_filter.1 hy).2) (by show x.pins + 1 ≠ 0; rw [hox.1]; decide), ⟨by rw [hu]; exact F.most, fun y hy => ?_⟩, by rw [hu]⟩
    rcases List.mem_append.1 hy with h | h
    · exact F.ok y (List.mem_filter.1 h).1
    · have h := List.mem_singleton.1 h
      subst h
      exact ⟨by show x.pins + 1 - 1 = 0; rw [hox.1]; rfl, hox.2⟩
  | none =>
    rw [getC_none hg, if_neg (by rw [F.room]; decide), read_whole hl h0 h1]
    simp only [ne_eq, not_true_eq_false, if_false]
    rw [hd]
    simp only []
    have hno : ∀ y ∈ κ.L, isAt nm i y = false := fun y hy => by
      have := List.find?_eq_none.1 hg y hy
      simpa using this
    unfold CSt.add
    refine ⟨_, _, rfl, unpin_last (L := if (κ.L.length : Int) ≥ κ.most then eraseFirst κ.L else κ.L) (x := ⟨nm, i, d, 0 + 1⟩) rfl (isAt_iff.2 ⟨rfl, rfl⟩) (fun y hy => ?_) (by show (0 : Int) + 1 ≠ 0; decide), ⟨F.most, fun y hy => ?_⟩, rfl⟩
    · split at hy
      · exact hno y (eraseFirst_mem hy)
      · exact hno y hy
    · rcases List.mem_append.1 hy with h | h
      · split at h
        · exact F.ok y (eraseFirst_mem h)
        · exact F.ok y h
      · have h := List.mem_singleton.1 h
        subst h
        exact ⟨by show (0 : Int) + 1 - 1 = 0; rfl, h0, h1, hd⟩
theorem fileC_fresh {σ : FSt} {κ : CSt} (F : Fresh σ κ) (hl : σ.left = -1) {nm d : ByteArray} (hr : σ.rows nm = splitP d) : ∃ κ', fileC σ κ nm = (σ, κ', d, 0) ∧ Fresh σ κ' ∧ κ'.most = κ.most := by
  obtain ⟨cs, C, e⟩ := split_cut d
  have hlen : (σ.rows nm).length = cs.length := by rw [hr, e, List.length_map]
  have hpos := List.length_pos_iff.2 C.ne
  unfold fileC
  rw [if_neg (by omega), hlen]
  have key : ∀ (k : Nat) (κ : CSt), k ≤ cs.length → Fresh σ κ → ∃ κ', fileGo nm cs.length k σ κ (cs.take (cs.length - k)).flatten true = (σ, κ', d, 0) ∧ Fresh σ κ' ∧ κ'.most = κ.most := by
    intro k
    induction k with
    | zero =>
      intro κ _ F
      refine ⟨κ, ?_, F, rfl⟩
      simp only [fileGo, Nat.sub_zero, List.take_length, if_true]
      rw [C.join, mkB_of]
    | succ k ih =>
      intro κ hk F
      have hj : cs.length - (k + 1) < cs.length := by omega
      have hpage : (σ.rows nm).getD (((cs.length - (k + 1) : Nat) : Int)).toNat ⟨#[]⟩ = mkB (pageL cs[cs.length - (k + 1)]) := by
        rw [Int.toNat_natCast, hr, e, List.getD_eq_getElem?_getD, List.getElem?_map, List.getElem?_eq_getElem hj]; rfl
      have hcl := C.le _ (List.getElem_mem hj)
      have hdec : decP ((σ.rows nm).getD (((cs.length - (k + 1) : Nat) : Int)).toNat ⟨#[]⟩) = some (mkB cs[cs.length - (k + 1)]) := by
        rw [hpage]
        have := dec_page (d := mkB cs[cs.length - (k + 1)]) (by rw [mkB_size]; exact hcl)
        unfold pageB at this
        rw [mkB_data] at this
        exact this
      obtain ⟨κ1, κ2, e1, e2, F2, m2⟩ := pin_fresh F hl (nm := nm) (i := ((cs.length - (k + 1) : Nat) : Int)) (by omega) (by omega) hdec
      obtain ⟨κ3, e3, F3, m3⟩ := ih κ2 (by omega) F2
      refine ⟨κ3, ?_, F3, m3.trans m2⟩
      rw [fileGo_succ, e1]
      simp only [ne_eq, not_true_eq_false, if_false]
      rw [e2]
      have hw : (true && (decide (k = 0) || decide ((mkB cs[cs.length - (k + 1)]).size = 122)) && (decide (cs.length = k + 1) || decide (0 < (mkB cs[cs.length - (k + 1)]).size))) = true := by
        rw [mkB_size]
        simp only [Bool.true_and, Bool.and_eq_true, Bool.or_eq_true, decide_eq_true_eq]
        refine ⟨?_, ?_⟩
        · by_cases h : k = 0
          · exact .inl h
          · exact .inr (C.full _ (by omega))
        · by_cases h : cs.length = k + 1
          · exact .inl h
          · exact .inr (C.pos (by omega) _ (List.getElem_mem hj))
      rw [hw]
      have ht : (cs.take (cs.length - (k + 1))).flatten ++ (mkB cs[cs.length - (k + 1)]).data.toList = (cs.take (cs.length - k)).flatten := by
        rw [mkB_data, show cs.length - k = cs.length - (k + 1) + 1 by omega, List.take_succ_eq_append_getElem hj, List.flatten_append]
        simp
      rw [ht]; exact e3
  have := key cs.length κ (Nat.le_refl _) F
  rw [Nat.sub_self] at this
  simpa using this
end Go.Cz.S
namespace Go.Cz.S
open Go Go.Cz Go.Cz.Crc
set_option maxRecDepth 100000
set_option maxHeartbeats 1000000
set_option linter.unusedSimpArgs false
set_option linter.unusedVariables false
theorem set_rows {σ : FSt} (G : GoodF σ) (nm : ByteArray) (ps : List ByteArray) (x : ByteArray) : (σ.set nm ps).rows x = if x = nm then ps else σ.rows x := setL_rows G.rise nm ps x
theorem GoodF.remove {σ : FSt} (G : GoodF σ) (nm : ByteArray) : GoodF (σ.remove nm).1 := by
  unfold FSt.remove
  split
  · exact G
  · have := G.used
    refine G.set (fun h => absurd rfl h) (fun p hp => by cases hp) (by simp only [List.length_nil]; omega)
theorem remove_rows {σ : FSt} (G : GoodF σ) (nm x : ByteArray) : (σ.remove nm).1.rows x = if x = nm then [] else σ.rows x := by
  unfold FSt.remove
  split
  · rename_i h
    by_cases e : x = nm
    · rw [if_pos e, e]; exact List.length_eq_zero_iff.1 h
    · rw [if_neg e]
  · exact set_rows G nm [] x
theorem remove_same (σ : FSt) (nm : ByteArray) : (σ.remove nm).1.left = σ.left ∧ (σ.remove nm).1.room = σ.room := by
  unfold FSt.remove; split <;> exact ⟨rfl, rfl⟩
theorem write_err {σ : FSt} {nm : ByteArray} {ps : List ByteArray} (h : (σ.write nm ps).2 ≠ 0) : (σ.write nm ps).1 = σ := by
  unfold FSt.write at *
  split
  · rfl
  · split
    · rfl
    · rename_i h1 h2; rw [if_neg h1, if_neg h2] at h; exact absurd rfl h
theorem write_ok {σ : FSt} {nm : ByteArray} {ps : List ByteArray} (h : (σ.write nm ps).2 = 0) : (σ.write nm ps).1 = σ.set nm ps ∧ okName nm = true ∧ (∀ p ∈ ps, p.size = 128) ∧ (σ.used : Int) - (σ.rows nm).length + ps.length ≤ σ.room := by
  unfold FSt.write at *
  split at h
  · cases h
  · rename_i h1
    split at h
    · cases h
    · rename_i h2
      rw [if_neg h1, if_neg h2]
      refine ⟨rfl, ?_, fun p hp => ?_, by omega⟩
      · cases e : okName nm with
        | true => rfl
        | false => exact absurd (.inl e) h1
      · refine Decidable.byContradiction fun hs => h1 (.inr (List.any_eq_true.2 ⟨p, hp, decide_eq_true hs⟩))
theorem write_does {σ : FSt} {nm : ByteArray} {ps : List ByteArray} (h1 : okName nm = true) (h2 : ∀ p ∈ ps, p.size = 128) : σ.write nm ps = if (σ.used : Int) - (σ.rows nm).length + ps.length > σ.room then (σ, 61) else (σ.set nm ps, 0) := by
  unfold FSt.write
  rw [if_neg]
  rintro (h | h)
  · rw [h1] at h; cases h
  · obtain ⟨p, hp, h⟩ := List.any_eq_true.1 h
    exact of_decide_eq_true h (h2 p hp)
theorem GoodF.write {σ : FSt} (G : GoodF σ) (nm : ByteArray) (ps : List ByteArray) : GoodF (σ.write nm ps).1 := by
  by_cases h : (σ.write nm ps).2 = 0
  · obtain ⟨e, h1, h2, h3⟩ := write_ok h
    rw [e]; exact G.set (fun _ => h1) h2 h3
  · rw [write_err h]; exact G
def isG (x : ByteArray) : Prop := x = mN ∨ ∃ i : Nat, i < 16 ∧ x = nameB i
theorem wipe_facts {σ : FSt} (G : GoodF σ) : ∀ i : Nat, i ≤ 16 → GoodF (wipeN σ i) ∧ (wipeN σ i).left = σ.left ∧ (wipeN σ i).room = σ.room ∧ ∀ x, ((x = mN ∨ ∃ j : Nat, j < i ∧ x = nameB j) → (wipeN σ i).rows x = []) ∧ (¬ (x = mN ∨ ∃ j : Nat, j < i ∧ x = nameB j) → (wipeN σ i).rows x = σ.rows x) := by
  intro i
  induction i with
  | zero =>
    intro _
    have hs := remove_same σ mN
    refine ⟨G.remove mN, hs.1, hs.2, fun x => ⟨fun h => ?_, fun h => ?_⟩⟩
    · rcases h with h | ⟨j, hj, _⟩
      · show (σ.remove mN).1.rows x = []
        rw [remove_rows G, if_pos h]
      · omega
    · show (σ.remove mN).1.rows x = _
      rw [remove_rows G, if_neg fun e => h (.inl e)]
  | succ i ih =>
    intro hi
    obtain ⟨g, l, r, w⟩ := ih (by omega)
    rw [wipeN_succ]
    have hs := remove_same (wipeN σ i) (nameB i)
    refine ⟨g.remove _, hs.1.trans l, hs.2.trans r, fun x => ⟨fun h => ?_, fun h => ?_⟩⟩
    · rw [remove_rows g]
      by_cases e : x = nameB i
      · rw [if_pos e]
      · rw [if_neg e]
        refine (w x).1 ?_
        rcases h with h | ⟨j, hj, h⟩
        · exact .inl h
        · refine .inr ⟨j, ?_, h⟩
          rcases Nat.lt_or_ge j i with h5 | h5
          · exact h5
          · obtain rfl : j = i := by omega
            exact absurd h e
    · rw [remove_rows g, if_neg fun e => h (.inr ⟨i, by omega, e⟩)]
      refine (w x).2 fun h5 => h ?_
      rcases h5 with h5 | ⟨j, hj, h5⟩
      · exact .inl h5
      · exact .inr ⟨j, by omega, h5⟩
theorem writeAll_facts (M : List (Int × Int)) : ∀ (P : List (Int × Int)) (i : Nat) (σ : FSt), GoodF σ → i + P.length ≤ 16 → (writeAll M i P σ).2 = 0 →
    GoodF (writeAll M i P σ).1 ∧ (writeAll M i P σ).1.left = σ.left ∧ (writeAll M i P σ).1.room = σ.room ∧
    (∀ j, (hj : j < P.length) → (writeAll M i P σ).1.rows (nameB ((i + j : Nat) : Int)) = splitP (mkB (encS (shardF M P[j])))) ∧
    ∀ x, (∀ j : Nat, j < P.length → x ≠ nameB ((i + j : Nat) : Int)) → (writeAll M i P σ).1.rows x = σ.rows x
  | [], i, σ, G, _, _ => ⟨G, rfl, rfl, fun j hj => by simp at hj, fun x _ => rfl⟩
  | p :: r, i, σ, G, hl, h => by
    rw [writeAll_cons] at h ⊢
    rw [List.length_cons] at hl
    by_cases hw : (σ.write (nameB (i : Int)) (splitP (mkB (encS (shardF M p))))).2 ≠ 0
    · rw [if_pos hw] at h; exact absurd h hw
    · rw [if_neg hw] at h ⊢
      have hw : (σ.write (nameB (i : Int)) (splitP (mkB (encS (shardF M p))))).2 = 0 := Decidable.byContradiction hw
      obtain ⟨e, h1, h2, h3⟩ := write_ok hw
      have G1 := G.write (nameB (i : Int)) (splitP (mkB (encS (shardF M p))))
      have hrow := set_rows G (nameB (i : Int)) (splitP (mkB (encS (shardF M p))))
      rw [e] at h G1 ⊢
      obtain ⟨g, l, rm, w, o⟩ := writeAll_facts M r (i + 1) _ G1 (by omega) h
      refine ⟨g, l, rm, fun j hj => ?_, fun x hx => ?_⟩
      · cases j with
        | zero =>
          rw [o _ fun j hj e => ?_]
          · rw [hrow, if_pos (by simp)]; rfl
          · have := nameB_inj (i := ((i + 0 : Nat) : Int)) (by omega) e
            omega
        | succ j =>
          have := w j (by simpa using hj)
          rw [show i + (j + 1) = i + 1 + j by omega]
          exact this
      · rw [o x fun j hj => ?_, hrow, if_neg ?_]
        · have := hx 0 (by simp)
          simpa using this
        · have := hx (j + 1) (by simpa using hj)
          rw [show i + (j + 1) = i + 1 + j by omega] at this
          exact this
structure Built (σ σ' : FSt) (n : Int) (M P : List (Int × Int)) : Prop where
  good : GoodF σ'
  left : σ'.left = σ.left
  room : σ'.room = σ.room
  man : σ'.rows mN = splitP (mkB (encM ⟨n, M.length, P⟩))
  shard : ∀ j, (hj : j < P.length) → σ'.rows (nameB (j : Int)) = splitP (mkB (encS (shardF M P[j])))
  none : ∀ j : Nat, P.length ≤ j → j < 16 → σ'.rows (nameB (j : Int)) = []
  else_ : ∀ x, ¬ isG x → σ'.rows x = σ.rows x
  okm : okMan ⟨n, M.length, P⟩ = true
  oks : ∀ p ∈ P, okShard (shardF M p) = true
theorem built_of {σ : FSt} (G : GoodF σ) {n : Int} {L : List (Int × Int)} {s : Int} (h : (buildF σ n L s).2 = 0) : Built σ (buildF σ n L s).1 n (normG L) (cutL n s) ∧ normE n L = 0 ∧ badCut n s = false := by
  unfold buildF at h ⊢
  by_cases h1 : normE n L ≠ 0
  · rw [if_pos h1] at h; exact absurd h h1
  rw [if_neg h1] at h ⊢
  have h1 : normE n L = 0 := Decidable.byContradiction h1
  by_cases h2 : badCut n s = true
  · rw [if_pos h2] at h; cases h
  rw [if_neg h2] at h ⊢
  have h2 : badCut n s = false := by simpa using h2
  obtain ⟨c1, c2, c3⟩ := cut_facts h2
  have hbad : badG n L = false := by
    cases e : badG n L with
    | false => rfl
    | true => unfold normE at h1; rw [if_pos e] at h1; cases h1
  have hml : (normG L).length ≤ 4096 := by
    unfold normE at h1
    rw [if_neg (by rw [hbad]; decide)] at h1
    split at h1
    · cases h1
    · omega
  obtain ⟨n1, n2, hLe⟩ := good_edges hbad
  have hM : ∀ x ∈ normG L, 0 ≤ x.1 ∧ x.1 < n ∧ 0 ≤ x.2 ∧ x.2 < n ∧ x.1 ≠ x.2 := fun x hx => hLe x (norm_mem.1 hx)
  have hR := norm_rise L
  refine ⟨?_, h1, h2⟩
  generalize normG L = M at *
  generalize cutL n s = P at *
  obtain ⟨wg, wl, wr, ww⟩ := wipe_facts G 16 (Nat.le_refl _)
  unfold endB at h ⊢
  by_cases h3 : (writeAll M 0 P (wipeN σ 16)).2 ≠ 0
  · rw [if_pos h3] at h; exact absurd h h3
  rw [if_neg h3] at h ⊢
  have h3 : (writeAll M 0 P (wipeN σ 16)).2 = 0 := Decidable.byContradiction h3
  obtain ⟨ag, al, ar, aw, ao⟩ := writeAll_facts M P 0 _ wg (by omega) h3
  generalize (writeAll M 0 P (wipeN σ 16)).1 = σ1 at *
  obtain ⟨e, f1, f2, f3⟩ := write_ok h
  have gw := ag.write mN (splitP (mkB (encM ⟨n, M.length, P⟩)))
  have hrow := set_rows ag mN (splitP (mkB (encM ⟨n, M.length, P⟩)))
  rw [e] at gw ⊢
  refine ⟨gw, al.trans wl, ar.trans wr, ?_, fun j hj => ?_, fun j hj hj2 => ?_, fun x hx => ?_, ?_, fun p hp => okShard_out hM n2 hR hml (c3 p hp)⟩
  · rw [hrow, if_pos rfl]
  · rw [hrow, if_neg (nameB_m _)]
    have := aw j hj
    rwa [Nat.zero_add] at this
  · rw [hrow, if_neg (nameB_m _), ao _ fun k hk e => ?_]
    · exact (ww _).1 (.inr ⟨j, hj2, rfl⟩)
    · have := nameB_inj (i := (j : Int)) (by omega) e
      omega
  · rw [hrow, if_neg fun e => hx (.inl e), ao x fun k hk e => hx (.inr ⟨0 + k, by omega, e⟩)]
    exact (ww x).2 hx
  · unfold okMan
    simp only [Bool.and_eq_true, decide_eq_true_eq]
    omega
end Go.Cz.S
namespace Go.Cz.S
open Go Go.Cz Go.Cz.Crc
set_option maxRecDepth 100000
set_option maxHeartbeats 1000000
set_option linter.unusedSimpArgs false
set_option linter.unusedVariables false
def pagesOf (M : List (Int × Int)) (p : Int × Int) : Nat := (splitP (mkB (encS (shardF M p)))).length
def costL (M P : List (Int × Int)) : Nat := (P.map (pagesOf M)).sum
theorem set_used {σ : FSt} (G : GoodF σ) (nm : ByteArray) (ps : List ByteArray) : ((σ.set nm ps).used : Int) = σ.used - (σ.rows nm).length + ps.length := by
  have := used_set (nm := nm) (ps := ps) G.rise
  have e1 : σ.used = usedL σ.L := rfl
  have e2 : σ.rows nm = rowsL σ.L nm := rfl
  have e3 : (σ.set nm ps).used = usedL (setL nm ps σ.L) := rfl
  rw [e1, e2, e3]; omega
theorem rows_used {σ : FSt} (G : GoodF σ) (nm : ByteArray) : (σ.rows nm).length ≤ σ.used := rows_le nm G.rise
theorem writeAll_room (M : List (Int × Int)) : ∀ (P : List (Int × Int)) (i : Nat) (σ : FSt), GoodF σ → i + P.length ≤ 16 → (σ.used : Int) + costL M P ≤ σ.room →
    (writeAll M i P σ).2 = 0 ∧ ((writeAll M i P σ).1.used : Int) ≤ σ.used + costL M P
  | [], i, σ, G, _, _ => ⟨rfl, by show (σ.used : Int) ≤ _; omega⟩
  | p :: r, i, σ, G, hl, h => by
    rw [List.length_cons] at hl
    have hc : costL M (p :: r) = pagesOf M p + costL M r := by simp [costL]
    have hr := rows_used G (nameB (i : Int))
    have hd := write_does (σ := σ) (nm := nameB (i : Int)) (ps := splitP (mkB (encS (shardF M p)))) (nameB_ok (by omega)) splitP_128
    have hp : (splitP (mkB (encS (shardF M p)))).length = pagesOf M p := rfl
    rw [hp, if_neg (by omega)] at hd
    have hu := set_used G (nameB (i : Int)) (splitP (mkB (encS (shardF M p))))
    have G1 := G.write (nameB (i : Int)) (splitP (mkB (encS (shardF M p))))
    rw [writeAll_cons]
    rw [hd] at G1 ⊢
    rw [if_neg (by simp)]
    have ih := writeAll_room M r (i + 1) (σ.set (nameB (i : Int)) (splitP (mkB (encS (shardF M p))))) G1 (by omega) (by show ((σ.set _ _).used : Int) + _ ≤ σ.room; omega)
    exact ⟨ih.1, by have := ih.2; show ((writeAll M (i + 1) r (σ.set (nameB (i : Int)) (splitP (mkB (encS (shardF M p)))))).1.used : Int) ≤ _; omega⟩
theorem build_room {σ : FSt} (G : GoodF σ) {n : Int} {L : List (Int × Int)} {s : Int} (h1 : normE n L = 0) (h2 : badCut n s = false) (h : ((wipeN σ 16).used : Int) + costL (normG L) (cutL n s) + 4 ≤ σ.room) : (buildF σ n L s).2 = 0 := by
  unfold buildF
  rw [if_neg (by rw [h1]; simp), if_neg (by rw [h2]; decide)]
  obtain ⟨c1, c2, c3⟩ := cut_facts h2
  obtain ⟨wg, wl, wr, ww⟩ := wipe_facts G 16 (Nat.le_refl _)
  have hml : (normG L).length ≤ 4096 := by
    unfold normE at h1
    split at h1
    · cases h1
    · split at h1
      · cases h1
      · omega
  generalize normG L = M at *
  generalize cutL n s = P at *
  obtain ⟨a1, a2⟩ := writeAll_room M P 0 _ wg (by omega) (by rw [wr]; omega)
  obtain ⟨ag, al, ar, _⟩ := writeAll_facts M P 0 _ wg (by omega) a1
  unfold endB
  rw [if_neg (by rw [a1]; simp)]
  generalize (writeAll M 0 P (wipeN σ 16)).1 = σ1 at *
  have om : okMan ⟨n, M.length, P⟩ = true := by
    unfold okMan
    simp only [Bool.and_eq_true, decide_eq_true_eq]
    omega
  have ht := textM_len om
  have hs := (split_cnt (mkB (encM ⟨n, M.length, P⟩))).2
  have hz : (mkB (encM ⟨n, M.length, P⟩)).size ≤ 404 := by rw [mkB_size]; simp only [encM, sealed, List.length_append, crc4_len]; omega
  rw [write_does mN_ok splitP_128, if_neg (by rw [ar, wr]; omega)]
theorem encS_len2 {s : Shd} (h : okShard s = true) : (encS s).length ≤ 46 + 16 * s.out.length + 11 * manyS s.out := by
  have h1 := lists_len s.out
  have h2 := putN_len s.a.toNat
  have h3 := putN_len s.b.toNat
  have h4 := putN_len (manyS s.out)
  have h5 := wl_33 (degs s.out)
  have h6 : (packB (wl (degs s.out)) (degs s.out)).data.toList.length ≤ 5 * s.out.length + 1 := by
    unfold packB
    rw [mkB_data, Bits.bytes_len]
    have : (degs s.out).length = s.out.length := by simp [degs]
    rw [this]
    have : s.out.length * wl (degs s.out) ≤ s.out.length * 33 := Nat.mul_le_mul_left _ h5
    omega
  simp only [encS, sealed, headS, restS, List.length_append, List.length_cons, List.length_nil, crc4_len]
  omega
theorem filter_mid (M : List (Int × Int)) {a b c : Int} (h1 : a ≤ b) (h2 : b ≤ c) : (M.filter fun x => decide (a ≤ x.1) && decide (x.1 < b)).length + (M.filter fun x => decide (b ≤ x.1) && decide (x.1 < c)).length = (M.filter fun x => decide (a ≤ x.1) && decide (x.1 < c)).length := by
  induction M with
  | nil => rfl
  | cons x r ih =>
    simp only [List.filter_cons]
    by_cases e1 : a ≤ x.1 ∧ x.1 < b
    · rw [if_pos (by simp [e1]), if_neg (by simp; omega), if_pos (by simp only [Bool.and_eq_true, decide_eq_true_eq]; omega)]
      simp only [List.length_cons]; omega
    · rw [if_neg (by simp; omega)]
      by_cases e2 : b ≤ x.1 ∧ x.1 < c
      · rw [if_pos (by simp [e2]), if_pos (by simp only [Bool.and_eq_true, decide_eq_true_eq]; omega)]
        simp only [List.length_cons]; omega
      · rw [if_neg (by simp; omega), if_neg (by simp; omega)]
        exact ih
theorem many_out (M : List (Int × Int)) {a b : Int} (h : a ≤ b) : manyS (outE M a b) = (M.filter fun x => decide (a ≤ x.1) && decide (x.1 < b)).length := by
  unfold outE
  rw [sum_out]
  congr 1
  apply List.filter_congr
  intro x _
  rw [show a + ((b - a).toNat : Int) = b by omega]
theorem cost_walk (M : List (Int × Int)) : ∀ (P : List (Int × Int)) (a n : Int), walkL a P = some n → (∀ p ∈ P, okShard (shardF M p) = true) →
    (122 * costL M P : Int) ≤ 168 * P.length + 16 * (n - a) + 11 * (M.filter fun x => decide (a ≤ x.1) && decide (x.1 < n)).length
  | [], a, n, h, _ => by
    simp only [walkL, Option.some.injEq] at h
    subst h
    have : costL M [] = 0 := rfl
    rw [this, List.length_nil]
    omega
  | p :: r, a, n, h, ok => by
    simp only [walkL] at h
    split at h
    · rename_i hp
      obtain ⟨rfl, hp⟩ := hp
      have ih := cost_walk M r p.2 n h fun q hq => ok q (List.mem_cons_of_mem _ hq)
      have hle := (walk_mem r p.2 n h).1
      have hc : costL M (p :: r) = pagesOf M p + costL M r := by simp [costL]
      have okp := ok p (List.mem_cons_self ..)
      have hl := encS_len2 okp
      have hs := (split_cnt (mkB (encS (shardF M p)))).2
      rw [mkB_size] at hs
      have hpg : (splitP (mkB (encS (shardF M p)))).length = pagesOf M p := rfl
      have ho : (shardF M p).out.length = (p.2 - p.1).toNat := outE_len _ _ _
      have hm : manyS (shardF M p).out = (M.filter fun x => decide (p.1 ≤ x.1) && decide (x.1 < p.2)).length := many_out M (by omega)
      have hf := filter_mid M (a := p.1) (b := p.2) (c := n) (by omega) hle
      rw [hm, ho] at hl
      rw [List.length_cons]
      omega
    · cases h
theorem cost_bd {n : Int} {M P : List (Int × Int)} (h : checkL n P = 0) (ok : ∀ p ∈ P, okShard (shardF M p) = true) : (122 * costL M P : Int) ≤ 168 * P.length + 16 * n + 11 * M.length := by
  obtain ⟨_, _, _, hw⟩ := check_facts h
  have := cost_walk M P 0 n hw ok
  have h2 := List.length_filter_le (fun x : Int × Int => decide ((0 : Int) ≤ x.1) && decide (x.1 < n)) M
  omega
end Go.Cz.S
namespace Go.Cz.S
open Go Go.Cz Go.Cz.Crc
set_option maxRecDepth 100000
set_option maxHeartbeats 1000000
set_option linter.unusedSimpArgs false
set_option linter.unusedVariables false
theorem rise_ext {α : Type} {lt : α → α → Prop} (irr : ∀ a, ¬ lt a a) (tr : ∀ a b c, lt a b → lt b c → lt a c) : ∀ {l m : List α}, l.Pairwise lt → m.Pairwise lt → (∀ x, x ∈ l ↔ x ∈ m) → l = m
  | [], [], _, _, _ => rfl
  | [], b :: s, _, _, h => absurd ((h b).2 (List.mem_cons_self ..)) (by simp)
  | a :: r, [], _, _, h => absurd ((h a).1 (List.mem_cons_self ..)) (by simp)
  | a :: r, b :: s, hl, hm, h => by
    obtain ⟨l1, l2⟩ := List.pairwise_cons.1 hl
    obtain ⟨m1, m2⟩ := List.pairwise_cons.1 hm
    have e : a = b := by
      rcases List.mem_cons.1 ((h a).1 (List.mem_cons_self ..)) with e | e
      · exact e
      · rcases List.mem_cons.1 ((h b).2 (List.mem_cons_self ..)) with e' | e'
        · exact e'.symm
        · exact absurd (tr _ _ _ (l1 b e') (m1 a e)) (irr a)
    subst e
    rw [rise_ext irr tr l2 m2 fun x => ⟨fun hx => ?_, fun hx => ?_⟩]
    · rcases List.mem_cons.1 ((h x).1 (List.mem_cons_of_mem _ hx)) with e | e
      · subst e; exact absurd (l1 x hx) (irr x)
      · exact e
    · rcases List.mem_cons.1 ((h x).2 (List.mem_cons_of_mem _ hx)) with e | e
      · subst e; exact absurd (m1 x hx) (irr x)
      · exact e
theorem ltN_irrf (a : ByteArray) : ¬ ltN a a = true := by
  simp only [ltN, decide_eq_true_eq]; exact List.lt_irrefl _
theorem ltN_trf (a b c : ByteArray) (h1 : ltN a b = true) (h2 : ltN b c = true) : ltN a c = true := by
  simp only [ltN, decide_eq_true_eq] at h1 h2 ⊢; exact List.lt_trans h1 h2
theorem names_rise {σ : FSt} (G : GoodF σ) : (namesF σ).Pairwise fun a b => ltN a b = true := by
  unfold namesF; rw [List.pairwise_map]; exact G.rise
theorem names_mem {σ : FSt} (G : GoodF σ) {x : ByteArray} : x ∈ namesF σ ↔ σ.rows x ≠ [] := by
  constructor
  · intro h
    obtain ⟨y, hy, rfl⟩ := List.mem_map.1 h
    show rowsL σ.L y.1 ≠ []
    rw [rowsL_at G.rise hy]
    exact (G.pg y hy).1
  · intro h
    exact List.mem_map.2 ⟨_, rowsL_mem h, rfl⟩
theorem split_ne (d : ByteArray) : splitP d ≠ [] := fun e => by have := (split_cnt d).1; rw [e] at this; simp at this
theorem names_built {σ σ' : FSt} {n : Int} {M P : List (Int × Int)} (B : Built σ σ' n M P) (hl : P.length ≤ 16) {x : ByteArray} : x ∈ namesF σ' ↔ x = mN ∨ (∃ j : Nat, j < P.length ∧ x = nameB j) ∨ (¬ isG x ∧ σ.rows x ≠ []) := by
  rw [names_mem B.good]
  constructor
  · intro h
    by_cases hg : isG x
    · rcases hg with e | ⟨i, hi, rfl⟩
      · exact .inl e
      · refine .inr (.inl ⟨i, ?_, rfl⟩)
        apply Decidable.byContradiction
        intro hn
        exact h (B.none i (by omega) hi)
    · exact .inr (.inr ⟨hg, by rw [← B.else_ x hg]; exact h⟩)
  · rintro (rfl | ⟨j, hj, rfl⟩ | ⟨h1, h2⟩)
    · rw [B.man]; exact split_ne _
    · rw [B.shard j hj]; exact split_ne _
    · rw [B.else_ x h1]; exact h2
def L4 : List (Int × Int) := [(0, 1), (3, 0)]
def P4 : List (Int × Int) := [(0, 2), (2, 4)]
theorem ltP_irr (a : Int × Int) : ¬ ltP a a = true := by rw [ltP_iff']; omega
theorem ltP_tr (a b c : Int × Int) (h1 : ltP a b = true) (h2 : ltP b c = true) : ltP a c = true := by rw [ltP_iff'] at h1 h2 ⊢; omega
theorem norm_same {L : List (Int × Int)} (h : Rising L) : normG L = L := rise_ext ltP_irr ltP_tr (norm_rise L) h fun x => norm_mem
theorem norm_L4 : normG L4 = L4 := norm_same (by unfold Rising; decide)
theorem norm_nil : normG [] = [] := norm_same List.Pairwise.nil
theorem cut_42 : cutL 4 2 = P4 := by decide
theorem badCut_42 : badCut 4 2 = false := by decide
theorem normE_L4 : normE 4 L4 = 0 := by
  unfold normE
  rw [if_neg (by decide), norm_L4, if_neg (by decide)]
theorem normE_nil : normE 4 [] = 0 := by
  unfold normE
  rw [if_neg (by decide), norm_nil, if_neg (by decide)]
theorem build_11 (σ : FSt) : buildF σ 4 [(1, 1)] 2 = (σ, 2) := by
  have h : normE 4 [(1, 1)] = 2 := by
    unfold normE
    rw [if_pos (by decide)]
  unfold buildF
  rw [h, if_pos (by decide)]
def fs0 (n : Int) : FSt := ⟨n, -1, []⟩
theorem good0 {n : Int} (h : 0 ≤ n ∧ n ≤ 4096) : GoodF (fs0 n) := ⟨by show -1 ≤ (-1 : Int) ∧ (-1 : Int) ≤ 9223372036854775807; decide, h, h.1, List.Pairwise.nil, fun x hx => absurd hx (by simp [fs0]), fun x hx => absurd hx (by simp [fs0])⟩
theorem used0 {σ : FSt} (G : GoodF σ) (h : ∀ x, σ.rows x = []) : σ.used = 0 := by
  have : σ.L = [] := by
    cases e : σ.L with
    | nil => rfl
    | cons y r =>
      have hy : y ∈ σ.L := by rw [e]; exact List.mem_cons_self ..
      exact absurd (h y.1) (by show rowsL σ.L y.1 ≠ []; rw [rowsL_at G.rise hy]; exact (G.pg y hy).1)
  unfold FSt.used
  rw [this]; rfl
theorem wipe0 {n : Int} (h : 0 ≤ n ∧ n ≤ 4096) : (wipeN (fs0 n) 16).used = 0 := by
  obtain ⟨wg, wl, wr, ww⟩ := wipe_facts (good0 h) 16 (Nat.le_refl _)
  refine used0 wg fun x => ?_
  by_cases hx : x = mN ∨ ∃ j : Nat, j < 16 ∧ x = nameB j
  · exact (ww x).1 hx
  · rw [(ww x).2 hx]; rfl
theorem oks_of {n : Int} {L : List (Int × Int)} {s : Int} (h1 : normE n L = 0) (h2 : badCut n s = false) : ∀ p ∈ cutL n s, okShard (shardF (normG L) p) = true := by
  obtain ⟨c1, c2, c3⟩ := cut_facts h2
  have hbad : badG n L = false := by
    cases e : badG n L with
    | false => rfl
    | true => unfold normE at h1; rw [if_pos e] at h1; cases h1
  have hml : (normG L).length ≤ 4096 := by
    unfold normE at h1
    rw [if_neg (by rw [hbad]; decide)] at h1
    split at h1
    · cases h1
    · omega
  obtain ⟨n1, n2, hLe⟩ := good_edges hbad
  exact fun p hp => okShard_out (fun x hx => hLe x (norm_mem.1 hx)) n2 (norm_rise L) hml (c3 p hp)
theorem build_fresh {room n : Int} {L : List (Int × Int)} {s : Int} (hr : 0 ≤ room ∧ room ≤ 4096) (h1 : normE n L = 0) (h2 : badCut n s = false) (h : 168 * (cutL n s).length + 16 * n + 11 * (normG L).length + 122 * 4 ≤ 122 * room) :
    (buildF (fs0 room) n L s).2 = 0 ∧ Built (fs0 room) (buildF (fs0 room) n L s).1 n (normG L) (cutL n s) := by
  have hc := cost_bd (cut_facts h2).2.1 (oks_of h1 h2)
  have e : (buildF (fs0 room) n L s).2 = 0 := build_room (good0 hr) h1 h2 (by rw [wipe0 hr]; show ((0 : Nat) : Int) + _ + 4 ≤ room; omega)
  exact ⟨e, (built_of (good0 hr) e).1⟩
def fs4 : FSt := (buildF (fs0 20) 4 L4 2).1
theorem built4 : (buildF (fs0 20) 4 L4 2).2 = 0 ∧ Built (fs0 20) fs4 4 L4 P4 := by
  have := build_fresh (room := 20) (by decide) normE_L4 badCut_42 (by rw [norm_L4, cut_42]; decide)
  rw [norm_L4, cut_42] at this
  exact this
theorem names4 : namesF fs4 = [mN, nameB 0, nameB 1] := by
  obtain ⟨_, B⟩ := built4
  refine rise_ext ltN_irrf ltN_trf (names_rise B.good) (by decide +kernel) fun x => ?_
  rw [names_built B (by decide)]
  constructor
  · rintro (rfl | ⟨j, hj, rfl⟩ | ⟨h1, h2⟩)
    · simp
    · have hj : j < 2 := hj
      rcases (by omega : j = 0 ∨ j = 1) with rfl | rfl <;> simp
    · exact absurd rfl h2
  · intro h
    simp only [List.mem_cons, List.not_mem_nil, or_false] at h
    rcases h with rfl | rfl | rfl
    · exact .inl rfl
    · exact .inr (.inl ⟨0, by decide, rfl⟩)
    · exact .inr (.inl ⟨1, by decide, rfl⟩)
theorem build_tight : (buildF (fs0 1) 4 [] 2).2 = 61 := by
  unfold buildF
  rw [if_neg (by rw [normE_nil]; decide), if_neg (by rw [badCut_42]; decide), cut_42]
  obtain ⟨wg, wl, wr, ww⟩ := wipe_facts (good0 (n := 1) (by decide)) 16 (Nat.le_refl _)
  have wu := wipe0 (n := 1) (by decide)
  have wn : (wipeN (fs0 1) 16).rows (nameB ((0 : Nat) : Int)) = [] := (ww _).1 (.inr ⟨0, by decide, rfl⟩)
  have wn1 : (wipeN (fs0 1) 16).rows (nameB ((1 : Nat) : Int)) = [] := (ww _).1 (.inr ⟨1, by decide, rfl⟩)
  have wr : (wipeN (fs0 1) 16).room = 1 := wr
  generalize wipeN (fs0 1) 16 = σ at *
  have key : (writeAll (normG []) 0 P4 σ).2 = 61 := by
    show (writeAll (normG []) 0 [(0, 2), (2, 4)] σ).2 = 61
    have h0 := (split_cnt (mkB (encS (shardF (normG []) (0, 2))))).1
    have h1 := (split_cnt (mkB (encS (shardF (normG []) (2, 4))))).1
    have w0 := write_does (σ := σ) (nm := nameB ((0 : Nat) : Int)) (ps := splitP (mkB (encS (shardF (normG []) (0, 2))))) (nameB_ok (by decide)) splitP_128
    have w1 := fun σ' : FSt => write_does (σ := σ') (nm := nameB ((0 + 1 : Nat) : Int)) (ps := splitP (mkB (encS (shardF (normG []) (2, 4))))) (nameB_ok (by decide)) splitP_128
    rw [writeAll_cons]
    generalize splitP (mkB (encS (shardF (normG []) (0, 2)))) = p1 at *
    rw [wn, wu, wr] at w0
    by_cases hc : (((0 : Nat) : Int) - (([] : List ByteArray).length : Nat) + (p1.length : Nat)) > 1
    · rw [if_pos hc] at w0
      rw [w0]
      rfl
    · rw [if_neg hc] at w0
      have hs := set_used wg (nameB ((0 : Nat) : Int)) p1
      have hr := set_rows wg (nameB ((0 : Nat) : Int)) p1 (nameB ((0 + 1 : Nat) : Int))
      rw [if_neg (by intro e; have := nameB_inj (by decide) e; omega), wn1] at hr
      have hw := w1 (σ.set (nameB ((0 : Nat) : Int)) p1)
      have hroom : (σ.set (nameB ((0 : Nat) : Int)) p1).room = 1 := wr
      rw [hr, hs, wn, wu, hroom] at hw
      rw [if_pos (by simp only [List.length_nil] at hc ⊢; omega)] at hw
      rw [w0, if_neg (by simp), writeAll_cons, hw]
      rfl
  unfold endB
  rw [if_pos (by rw [key]; decide), key]
end Go.Cz.S
namespace Go.Cz.S
open Go Go.Cz Go.Cz.Crc
set_option maxRecDepth 100000
set_option maxHeartbeats 1000000
set_option linter.unusedSimpArgs false
set_option linter.unusedVariables false
theorem file_shard {σ0 σ : FSt} {n : Int} {M P : List (Int × Int)} (B : Built σ0 σ n M P) (hl : σ.left = -1) {κ : CSt} (F : Fresh σ κ) {k : Nat} (hk : k < P.length) :
    ∃ κ', fileC σ κ (nameB (k : Int)) = (σ, κ', mkB (encS (shardF M P[k])), 0) ∧ Fresh σ κ' ∧ κ'.most = κ.most := fileC_fresh F hl (B.shard k hk)
theorem file_man {σ0 σ : FSt} {n : Int} {M P : List (Int × Int)} (B : Built σ0 σ n M P) (hl : σ.left = -1) {κ : CSt} (F : Fresh σ κ) :
    ∃ κ', fileC σ κ mN = (σ, κ', mkB (encM ⟨n, M.length, P⟩), 0) ∧ Fresh σ κ' ∧ κ'.most = κ.most := fileC_fresh F hl B.man
theorem fresh0 (σ : FSt) {most : Int} (h : 1 ≤ most) : Fresh σ ⟨most, []⟩ := ⟨h, fun x hx => absurd hx (by simp)⟩
end Go.Cz.S
namespace Go.Cz.S
open Go Go.Cz Go.Cz.Crc
set_option maxRecDepth 100000
set_option maxHeartbeats 1000000
set_option linter.unusedSimpArgs false
set_option linter.unusedVariables false
theorem WW.fs2 {h : H} {S : Nat → Prop} {f c : Nat} {σ : FSt} {κ : CSt} {n : Int} (W : WW h S f c σ κ n) : ∃ Sf, FW h Sf f σ ∧ (∀ k, Sf k → S k) ∧ ∀ Sf' h' σ', FW h' Sf' f σ' → Kp Sf h Sf' h' → ∃ S', WW h' S' f c σ' κ n ∧ Kp S h S' h' ∧ ∀ k, S' k → Sf' k ∨ S k := by
  obtain ⟨Sf, cm, T, clock, W⟩ := W
  refine ⟨Sf, W.fs, fun k hk => (W.S k).2 (.inl hk), fun Sf' h' σ' F K => ?_⟩
  have sep : ∀ k, Sf' k → ¬ CB0.own c cm T k := fun k hk hk2 => by
    rcases K.own k hk with h | h
    · exact W.dis k h hk2
    · obtain ⟨o, ho⟩ := W.cb.ex k hk2; rw [h] at ho; cases ho
  refine ⟨fun k => Sf' k ∨ CB0.own c cm T k, ⟨Sf', cm, T, clock, ⟨F, W.cb.fr' K.fr fun k hk hs => W.dis k hs hk, sep, fun k => Iff.rfl, W.cc⟩⟩, ⟨K.fr.mono fun k hk => (W.S k).2 (.inl hk), fun k hk => ?_⟩, fun k hk => ?_⟩
  · rcases hk with h | h
    · rcases K.own k h with h | h
      · exact .inl ((W.S k).2 (.inl h))
      · exact .inr h
    · exact .inl ((W.S k).2 (.inr h))
  · rcases hk with h | h
    · exact .inl h
    · exact .inr ((W.S k).2 (.inr h))
theorem BuildW_i {h : H} {S : Nat → Prop} {f c : Nat} {σ : FSt} {κ : CSt} {t : Int} (W : WW h S f c σ κ t) {v : Sl} {L : List (Int × Int)} (A : Arr h v eP L) (hL : L.length ≤ 1000000) {n s : Int} {Q : Int × Int × Sl × Int → HProp}
    (h1 : (buildF σ n L s).2 ≠ 0 → ∀ S' h', WW h' S' f c (buildF σ n L s).1 κ t → Kp S h S' h' → Q (0, 0, ⟨none, 0, 0⟩, (buildF σ n L s).2) h')
    (h2 : (buildF σ n L s).2 = 0 → ∀ S' h' v', WW h' S' f c (buildF σ n L s).1 κ t → Kp S h S' h' → Off S' h' v' eP (cutL n s) → Q (n, ((normG L).length : Nat), v', 0) h') : build_Build (some (at0 f), n, v, s) Q h := by
  obtain ⟨Sf, F, hsub, go⟩ := W.fs2
  refine Build_i F A hL (fun e Sf' h' F' K' => ?_) (fun e Sf' h' v' F' K' O' nw => ?_)
  · obtain ⟨S', W', K, _⟩ := go Sf' h' _ F' K'
    exact h1 e S' h' W' K
  · obtain ⟨S', W', K, hs⟩ := go Sf' h' _ F' K'
    refine h2 e S' h' v' W' K ⟨O'.1, fun hne k hk hS => ?_⟩
    rcases hs k hS with h | h
    · exact O'.2 hne k hk h
    · obtain ⟨o, ho⟩ := W.ex k h
      rw [nw k hk] at ho; cases ho
theorem namesW_i {h : H} {S : Nat → Prop} {f c : Nat} {σ : FSt} {κ : CSt} {t : Int} (W : WW h S f c σ κ t) {Q : Sl → HProp}
    (hQ : ∀ v h', Vec h' v eS (namesF σ) → New h v → Ext h h' → Q v h') : files_FS_Names (some (at0 f)) Q h := by
  obtain ⟨Sf, F, _⟩ := W.fs
  obtain ⟨m, R, B, _⟩ := F.fs
  exact names_i B F.good hQ
theorem Ext.of_kp {S S' : Nat → Prop} {h0 h h' : H} (g : Ext h0 h) (k : Kp S h S' h') (hs : ∀ b, S b → h0 b = none) : Ext h0 h' := Ext.of_new g k.fr hs
end Go.Cz.S
namespace Go.Cz.S
open Go Go.Cz Go.Cz.Crc
set_option maxRecDepth 100000
set_option maxHeartbeats 2000000
set_option linter.unusedSimpArgs false
set_option linter.unusedVariables false
theorem L4_enc : eP.all L4 = [.int .i64 0, .int .i64 1, .int .i64 3, .int .i64 0] := rfl
theorem P4_enc : eP.all P4 = [.int .i64 0, .int .i64 2, .int .i64 2, .int .i64 4] := rfl
theorem ROff.ext {S : Nat → Prop} {h h' : H} {v : Sl} {out : List (List Int)} (R : ROff S h v out) (E : Ext h h') : ROff S h' v out := R.kp (Kp.ext E)
theorem NM_enc : eS.all [mN, nameB 0, nameB 1] = [.string (ByteArray.mk #[109]), .string (ByteArray.mk #[115, 48]), .string (ByteArray.mk #[115, 49])] := by
  have e0 : nameB 0 = ByteArray.mk #[115, 48] := by decide +kernel
  have e1 : nameB 1 = ByteArray.mk #[115, 49] := by decide +kernel
  rw [e0, e1]; rfl
theorem s1_eq : (ByteArray.mk #[115, 49]) = nameB ((1 : Nat) : Int) := by decide +kernel
theorem x_gone : fs4.rows ⟨#[120]⟩ = [] := by
  obtain ⟨_, B⟩ := built4
  rw [B.else_ _ ?_]
  · rfl
  · rintro (h | ⟨i, hi, h⟩)
    · exact absurd h (by decide +kernel)
    · have hs := congrArg ByteArray.size h
      unfold nameB at hs
      rw [if_pos (by omega), mkB_size] at hs
      unfold nameN at hs
      split at hs <;> simp at hs <;> cases hs
theorem file_none {σ : FSt} {κ : CSt} {nm : ByteArray} (h : σ.rows nm = []) : fileC σ κ nm = (σ, κ, ⟨#[]⟩, 4) := by unfold fileC; rw [h]; rfl
theorem left4 : fs4.left = -1 := built4.2.left
theorem does12_i {h : H} {Q : Bool → HProp} (hQ : ∀ h', Q true h') : law12_does () Q h := by
  unfold law12_does law12_does_F
  simp only [eqI_eq]
  refine newF_i (fun hb => absurd hb (by decide)) fun _ _ S0 f h1 F1 n1 E1 => ?_
  refine newC_i F1 (fun hb => absurd hb (by decide)) fun _ _ S1 c h2 W2 K2 E2 => ?_
  refine with_b false (fun q hq => ite_f (by rfl) (by simpa using hq)) ?_
  refine ite_f (by rfl) ?_
  refine new_i (E := eP) (l := L4) (n := 2) L4_enc (by rfl) fun b h3 V3 nw3 E3 => ?_
  have W3 := W2.ext E3
  have O3 : Off S1 h3 _ eP L4 := Off.new V3 nw3 W2.ex
  have eb := built4.1
  have B := built4.2
  refine BuildW_i W3 O3.1 (by decide) (fun e => absurd eb e) fun _ S4 h4 v4 W4 K4 P4o => ?_
  have O4 := O3.kp K4
  change WW h4 S4 f c fs4 ⟨2, []⟩ 0 at W4
  rw [cut_42] at P4o
  rw [norm_L4]
  obtain ⟨κ5, e5, F5, m5⟩ := file_man B left4 (fresh0 fs4 (most := 2) (by decide))
  refine Open_i W4 (by decide) (fun e => absurd (by rw [e5]) e) (fun _ e => ?_) fun _ m em S5 h5 v5 W5 K5 P5o => ?_
  · rw [e5] at e; rw [decM_enc B.okm] at e; cases e
  rw [e5] at em W5
  dsimp only at em W5
  rw [decM_enc B.okm] at em
  cases em
  have O4 := O4.kp K5
  have P4o := P4o.kp K5
  rw [s1_eq]
  obtain ⟨κ6, e6, F6, m6⟩ := file_shard B left4 F5 (k := 1) (by decide)
  refine File_i W5 (by decide) fun S6 h6 W6 K6 hz6 => ?_
  rw [e6] at W6 hz6 ⊢
  dsimp only at W6 hz6 ⊢
  have O4 := O4.kp K6
  have P4o := P4o.kp K6
  have P5o := P5o.kp K6
  have ok1 : okShard (shardF L4 (2, 4)) = true := B.oks (2, 4) (by decide)
  have ed : decS (mkB (encS (shardF L4 P4[1]))) = some (shardF L4 (2, 4)) := decS_enc ok1
  refine sdec_i hz6 ?_ (fun hs => by rw [ed] at hs; cases hs)
  intro s hs v7 h7 R7 E7
  have hs1 : s = shardF L4 (2, 4) := by rw [ed] at hs; exact (Option.some.inj hs).symm
  subst hs1
  have R5 : ROff S6 h7 v7 (outE L4 2 4) := R7.off W6.ex
  have W7 := W6.ext E7
  have O4 := O4.ext E7
  have P4o := P4o.ext E7
  have P5o := P5o.ext E7
  refine File_i W7 (by decide) fun S8 h8 W8 K8 _ => ?_
  rw [file_none x_gone] at W8 ⊢
  dsimp only at W8 ⊢
  have O4 := O4.kp K8
  have P4o := P4o.kp K8
  have P5o := P5o.kp K8
  have R5 := R5.kp K8
  refine newF_i (fun hb => absurd hb (by decide)) fun _ _ Sg g h9 Fg ng E9 => ?_
  have hbt := build_tight
  refine Build_i Fg (L := []) ⟨rfl, Nat.le_refl _, fun _ => rfl, fun a ha => by cases ha⟩ (by decide) ?_ (fun e => absurd (hbt.symm.trans e) (by decide))
  intro _ Sg' ha Fa Ka
  have Ea : Ext h8 ha := Ext.of_kp E9 Ka ng
  rw [show buildF { room := 1, left := -1, L := [] } 4 [] 2 = buildF (fs0 1) 4 [] 2 from rfl, hbt]
  have Wa := W8.ext Ea
  refine new_i (E := eP) (l := [(1, 1)]) (n := 1) rfl (by rfl) fun b1 hb Vb nwb Eb => ?_
  have Wb := Wa.ext Eb
  have Eab := Ea.trans Eb
  have O4 := O4.ext Eab
  have P4o := P4o.ext Eab
  have P5o := P5o.ext Eab
  have R5 := R5.ext Eab
  refine BuildW_i Wb Vb.arr (by decide) ?_ (fun e => ?_)
  · intro _ Sc hc Wc Kc
    rw [build_11] at Wc ⊢
    dsimp only at Wc ⊢
    have O4 := O4.kp Kc
    have P4o := P4o.kp Kc
    have P5o := P5o.kp Kc
    have R5 := R5.kp Kc
    refine new_i (E := eP) (l := P4) (n := 2) P4_enc (by rfl) fun b2 hd Vd nwd Ed => ?_
    have Wd := Wc.ext Ed
    have P4o := P4o.ext Ed
    have P5o := P5o.ext Ed
    have O4 := O4.ext Ed
    refine with_u (ite_t (by rfl) (law11_Same_i P4o.1 Vd.arr (by decide) ?_))
    refine ite_t (by decide) (ite_t (by rfl) (law11_Same_i P5o.1 Vd.arr (by decide) (ite_t (by decide) (both_i ?_ ?_))))
    · refine namesW_i Wd fun vn he Vn nwn En => ?_
      refine new_i (E := eS) (l := [mN, nameB 0, nameB 1]) (n := 3) NM_enc (by rfl) fun b3 hf Vf nwf Ef => ?_
      refine Texts_i (Vn.arr.ext Ef) Vf.arr (by rw [names4]; decide) ?_
      rw [names4]
      have HE := Ed.trans (En.trans Ef)
      have O4 := O4.ext (En.trans Ef)
      refine ite_t (by rfl) (ite_t (by rfl) (ite_t (by rfl) ?_))
      refine O4.1.slice (w := 2) (lo := 1) (hi := 2) rfl (by decide) (by decide) (by decide) fun u Au _ _ _ => ?_
      refine edges_i (R5.ext HE).rows (by decide) (by decide) (by decide) fun v6 hz V6 _ E6 => ?_
      have e6 : edgesS (shardF L4 (2, 4)).a (outE L4 2 4) = [(3, 0)] := by decide
      refine law08_Same_i V6.arr (Au.ext E6) (by rw [e6]; decide) ?_
      rw [e6]
      refine ite_t (by decide) (ite_t (by rfl) (ite_t (by rfl) (ite_t (by rfl) (ite_t (by rfl) ?_))))
      refine bname_i ?_
      rw [eqS_eq]
      refine ite_t (by decide +kernel) (bname_i ?_)
      rw [eqS_eq]
      refine ite_t (by decide +kernel) (bname_i ?_)
      rw [eqS_eq]
      rw [show decide (nameB (-1) = ⟨#[]⟩) = true by decide +kernel]
      exact hQ _
    · refine new_i (E := eS) (l := [mN, nameB 0, nameB 1]) (n := 3) NM_enc (by rfl) fun b3 hf Vf nwf Ef => ?_
      refine namesW_i (Wd.ext Ef) fun vn he Vn nwn En => ?_
      refine Texts_i Vn.arr (Vf.arr.ext En) (by rw [names4]; decide) ?_
      rw [names4]
      have HE := Ed.trans (Ef.trans En)
      have O4 := O4.ext (Ef.trans En)
      refine ite_t (by rfl) (ite_t (by rfl) (ite_t (by rfl) ?_))
      refine O4.1.slice (w := 2) (lo := 1) (hi := 2) rfl (by decide) (by decide) (by decide) fun u Au _ _ _ => ?_
      refine edges_i (R5.ext HE).rows (by decide) (by decide) (by decide) fun v6 hz V6 _ E6 => ?_
      have e6 : edgesS (shardF L4 (2, 4)).a (outE L4 2 4) = [(3, 0)] := by decide
      refine law08_Same_i V6.arr (Au.ext E6) (by rw [e6]; decide) ?_
      rw [e6]
      refine ite_t (by decide) (ite_t (by rfl) (ite_t (by rfl) (ite_t (by rfl) (ite_t (by rfl) ?_))))
      refine bname_i ?_
      rw [eqS_eq]
      refine ite_t (by decide +kernel) (bname_i ?_)
      rw [eqS_eq]
      refine ite_t (by decide +kernel) (bname_i ?_)
      rw [eqS_eq]
      rw [show decide (nameB (-1) = ⟨#[]⟩) = true by decide +kernel]
      exact hQ _
  · rw [build_11] at e; cases e
end Go.Cz.S
namespace Go.Cz.S
open Go Go.Cz Go.Cz.Crc
set_option maxRecDepth 100000
set_option maxHeartbeats 2000000
set_option linter.unusedSimpArgs false
set_option linter.unusedVariables false
end Go.Cz.S
namespace Go.Cz.S
open Go Go.Cz Go.Cz.Crc
set_option maxRecDepth 100000
set_option maxHeartbeats 2000000
set_option linter.unusedSimpArgs false
set_option linter.unusedVariables false
theorem cnv_rem {n m : Int} (h0 : 0 ≤ n) (h1 : n ≤ 9223372036854775807) (hm : 0 < m) : rem (cnv IntKind.i64 n) m = n % m := by
  rw [cnv_i64 (by omega) (by omega), rem_nn h0]
structure Bd (room n : Int) (L : List (Int × Int)) (s : Int) : Prop where
  r0 : 0 ≤ room ∧ room ≤ 4096
  nE : normE n L = 0
  cut : badCut n s = false
  room : 168 * (cutL n s).length + 16 * n + 11 * (normG L).length + 122 * 4 ≤ 122 * room
end Go.Cz.S
namespace Go.Cz.S
open Go Go.Cz Go.Cz.Crc
set_option maxRecDepth 100000
set_option maxHeartbeats 2000000
set_option linter.unusedSimpArgs false
set_option linter.unusedVariables false
theorem new_own {h0 h h' : H} {S S' : Nat → Prop} (g : Ext h0 h) (hs : ∀ k, S k → h0 k = none) (K : Kp S h S' h') : ∀ k, S' k → h0 k = none := fun k hk => by
  rcases K.own k hk with h | h
  · exact hs k h
  · exact g.none h
end Go.Cz.S
namespace Go.Cz.S
open Go Go.Cz Go.Cz.Crc
set_option maxRecDepth 100000
set_option maxHeartbeats 2000000
set_option linter.unusedSimpArgs false
set_option linter.unusedVariables false
end Go.Cz.S
namespace Go.Cz.S
open Go Go.Cz Go.Cz.Crc
set_option maxRecDepth 100000
set_option maxHeartbeats 1000000
set_option linter.unusedSimpArgs false
set_option linter.unusedVariables false
end Go.Cz.S
namespace Go.Cz.S
open Go Go.Cz Go.Cz.Crc
set_option maxRecDepth 100000
set_option maxHeartbeats 1000000
set_option linter.unusedSimpArgs false
set_option linter.unusedVariables false
end Go.Cz.S
namespace Go.Cz.S
open Go Go.Cz Go.Cz.Crc
set_option maxRecDepth 100000
set_option maxHeartbeats 1000000
set_option linter.unusedSimpArgs false
set_option linter.unusedVariables false
end Go.Cz.S
namespace Go.Cz.S
open Go Go.Cz Go.Cz.Crc
set_option maxRecDepth 100000
set_option maxHeartbeats 1000000
set_option linter.unusedSimpArgs false
set_option linter.unusedVariables false
end Go.Cz.S
namespace Go.Cz.S
open Go Go.Cz Go.Cz.Crc
set_option maxRecDepth 100000
set_option maxHeartbeats 1000000
set_option linter.unusedSimpArgs false
set_option linter.unusedVariables false
def pinR (T : List CRow) : Nat := (T.filter fun t => decide (0 < t.x.pins)).length
theorem pinR_perm {T T' : List CRow} (h : T.Perm T') : pinR T = pinR T' := (h.filter _).length_eq
theorem pinned_i {h : H} {c cm f : Nat} {most clock : Int} {T : List CRow} (C : CB0 h c cm f most clock T) (hl : T.length ≤ 1000000) {Q : Int → HProp} (hQ : ∀ h', Ext h h' → Q (pinR T : Nat) h') : cache_Cache_Pinned (some (at0 c)) Q h := by
  unfold cache_Cache_Pinned cache_Cache_Pinned_F
  simp only [eqI_eq, ltI_eq]
  refine cnone_i C (ite_f (by rfl) ?_)
  refine deref_i (loadM_i (C.obj.ld (j := 2) rfl) ?_)
  refine C.map.range fun it h0 I0 hit E0 => ?_
  refine loop_n (fun n (s : Int) h' => ∃ D S : List CRow, T.Perm (D ++ S) ∧ ItAt h' it cm (T.map CRow.kv) (D.map CRow.kv) ∧ n = D.length ∧ Ext h h' ∧ s = (pinR S : Nat)) T.length ⟨T, [], by simp, I0, rfl, E0, rfl⟩ ?_
  rintro n s h' ⟨D, S, hp, I, rfl, E, rfl⟩ k hk
  refine I.next (fun hd => ?_) (fun x todo' h3 hx I3 g3 => ?_)
  · have : D = [] := by cases D; rfl; cases hd
    subst this
    rw [List.nil_append] at hp
    rw [pinR_perm hp] at hQ
    exact hQ h' E
  · obtain ⟨D', hD, e⟩ := perm_map_inv hx.symm
    cases D' with
    | nil => cases e
    | cons t D'' =>
    simp only [List.map_cons, List.cons.injEq] at e
    obtain ⟨rfl, rfl⟩ := e
    have hp2 : T.Perm (D'' ++ (S ++ [t])) := by
      refine hp.trans ((hD.symm.append_right S).trans ?_)
      rw [← List.append_assoc]
      exact List.perm_append_comm (l₁ := [t]) (l₂ := D'' ++ S)
    have ht : t ∈ T := hp2.mem_iff.2 (by simp)
    have E3 : Ext h h3 := E.of_new g3 fun k hk => by subst hk; exact hit
    have C3 := C.ext E3
    have o := C3.fr t ht
    have I4 := I3.at
    have dl : D.length = D''.length + 1 := by rw [← hD.length_eq]; rfl
    have hsl : (S ++ [t]).length ≤ T.length := by rw [hp2.length_eq]; simp
    have hpl : pinR S ≤ S.length := List.length_filter_le _ _
    have ep : pinR (S ++ [t]) = if 0 < t.x.pins then pinR S + 1 else pinR S := by
      unfold pinR
      rw [List.filter_append, List.length_append]
      by_cases h : 0 < t.x.pins
      · rw [if_pos h]; simp [h]
      · rw [if_neg h]; simp [h]
    refine with_u (I3.entry (cs := [.string t.x.name, .int .i64 t.x.i]) (k := (t.x.name, t.x.i)) (v := some (at0 t.b)) rfl rfl rfl ?_)
    refine deref_i (loadI_i (n := t.x.pins) (o.ld (j := 1) rfl) (ite_i (fun e => ?_) fun e => ?_))
    · have e : 0 < t.x.pins := of_decide_eq_true e
      rw [List.length_append] at hsl
      rw [add_i64 (by omega) (by omega)]
      exact hk D''.length _ h3 (by omega) ⟨D'', S ++ [t], hp2, I4, rfl, E3, by rw [ep, if_pos e]; rfl⟩
    · have e : ¬ 0 < t.x.pins := of_decide_eq_false e
      exact hk D''.length _ h3 (by omega) ⟨D'', S ++ [t], hp2, I4, rfl, E3, by rw [ep, if_neg e]⟩
theorem Pinned_i {h : H} {S : Nat → Prop} {f c : Nat} {σ : FSt} {κ : CSt} {n : Int} (W : WW h S f c σ κ n) {Q : Int → HProp} (hQ : ∀ h', Ext h h' → Q (κ.pinned : Nat) h') : cache_Cache_Pinned (some (at0 c)) Q h := by
  obtain ⟨Sf, cm, T, clock, W⟩ := W
  have hc := W.cc
  have e : κ.pinned = pinR T := by
    unfold CSt.pinned pinR
    rw [hc.L, List.filter_map, List.length_map]
    rfl
  rw [e] at hQ
  have hlen := hc.len
  have hmost := hc.most
  have hl : κ.L.length = T.length := by rw [hc.L, List.length_map]
  have hlm := hc.len
  exact pinned_i W.cb (by omega) hQ
theorem FailW_i {h : H} {S : Nat → Prop} {f c : Nat} {σ : FSt} {κ : CSt} {t : Int} (W : WW h S f c σ κ t) {n : Int} (hn : n ≤ 9223372036854775807) {Q : Int → HProp}
    (hQ : ∀ S' h', WW h' S' f c (σ.fail n).1 κ t → Kp S h S' h' → Q (σ.fail n).2 h') : files_FS_Fail (some (at0 f), n) Q h := by
  obtain ⟨Sf, F, hsub, go⟩ := W.fs
  refine fail_i F hn fun h' F' K' => ?_
  obtain ⟨S', W', K⟩ := go Sf h' _ F' K'
  exact hQ S' h' W' K
theorem FlipW_i {h : H} {S : Nat → Prop} {f c : Nat} {σ : FSt} {κ : CSt} {t : Int} (W : WW h S f c σ κ t) {nm : ByteArray} {i at_ : Int} {x : UInt8} {Q : Int → HProp}
    (hQ : ∀ S' h', WW h' S' f c (σ.flip nm i at_ x).1 κ t → Kp S h S' h' → Q (σ.flip nm i at_ x).2 h') : files_FS_Flip (some (at0 f), nm, i, at_, (x.toNat : Int)) Q h := by
  obtain ⟨Sf, F, hsub, go⟩ := W.fs
  refine flip_i F fun Sf' h' F' K' => ?_
  obtain ⟨S', W', K⟩ := go Sf' h' _ F' K'
  exact hQ S' h' W' K
end Go.Cz.S
namespace Go.Cz.S
open Go Go.Cz Go.Cz.Crc
set_option maxRecDepth 100000
set_option maxHeartbeats 4000000
set_option linter.unusedSimpArgs false
set_option linter.unusedVariables false
theorem Arr.off {α : Type} {h0 h : H} {S : Nat → Prop} {v : Sl} {E : Enc α} {l : List α} (A : Arr h0 v E l) (g : Ext h0 h) (hs : ∀ k, S k → h0 k = none) : Off S h v E l :=
  ⟨A.ext g, fun hne k hk hS => by
    obtain ⟨a, ha, rfl⟩ := hk
    obtain ⟨_, cs, wr, h1, _⟩ := A.blk a ha hne
    rw [hs _ hS] at h1; cases h1⟩
structure Ed (n : Int) (M P : List (Int × Int)) : Prop where
  n2 : 1 ≤ n ∧ n ≤ 256
  lt : ∀ x ∈ M, 0 ≤ x.1 ∧ x.1 < n
  rise : Rising M
  len : M.length ≤ 4096
  parts : ∀ p ∈ P, okPart p.1 p.2 = true
  check : checkL n P = 0
  pos : 1 ≤ P.length ∧ P.length ≤ 16
end Go.Cz.S
namespace Go.Cz.S
open Go Go.Cz Go.Cz.Crc
set_option maxRecDepth 100000
set_option maxHeartbeats 4000000
set_option linter.unusedSimpArgs false
set_option linter.unusedVariables false
end Go.Cz.S
namespace Go.Cz.S
open Go Go.Cz Go.Cz.Crc
set_option maxRecDepth 100000
set_option maxHeartbeats 1000000
set_option linter.unusedSimpArgs false
set_option linter.unusedVariables false
def otherB : ByteArray := ⟨#[111, 116, 104, 101, 114]⟩
structure Anew (σ3 : FSt) (n : Int) (M P : List (Int × Int)) (data : ByteArray) : Prop where
  built : ∃ σ, Built σ σ3 n M P ∧ (∀ x, ¬ isG x → (σ.rows x ≠ [] ↔ x = otherB))
  other : σ3.rows otherB = splitP data
  left : σ3.left = -1
end Go.Cz.S
namespace Go.Cz.S
open Go Go.Cz Go.Cz.Crc
set_option maxRecDepth 100000
set_option maxHeartbeats 1000000
set_option linter.unusedSimpArgs false
set_option linter.unusedVariables false
def pinL (κ : CSt) : List Frm := κ.L.filter fun x => decide (0 < x.pins)
theorem pinL_len (κ : CSt) : κ.pinned = (pinL κ).length := rfl
structure Js (σ : FSt) (κ : CSt) (nm : ByteArray) : Prop where
  nn : ∀ x ∈ κ.L, 0 ≤ x.pins
  len : (κ.L.length : Int) ≤ κ.most
  mine : ∀ x ∈ κ.L, x.name = nm → x.pins = 0 ∧ OkFrm σ x
theorem erase_pin : ∀ (L : List Frm), (eraseFirst L).filter (fun x => decide (0 < x.pins)) = L.filter fun x => decide (0 < x.pins)
  | [] => rfl
  | x :: r => by
    simp only [eraseFirst]
    split
    · rename_i h
      rw [List.filter_cons, if_neg (by rw [h]; decide)]
    · rw [List.filter_cons, List.filter_cons, erase_pin r]
theorem erase_len : ∀ (L : List Frm), (L.any fun x => decide (x.pins = 0)) = true → (eraseFirst L).length + 1 = L.length
  | [], h => by simp at h
  | x :: r, h => by
    simp only [eraseFirst]
    split
    · rfl
    · rename_i hx
      rw [List.any_cons, decide_eq_false hx, Bool.false_or] at h
      rw [List.length_cons, List.length_cons, erase_len r h]
theorem pin_any {σ : FSt} {κ : CSt} {nm : ByteArray} (J : Js σ κ nm) {i : Int} {d : ByteArray} (h0 : 0 ≤ i) (h1 : i < (σ.rows nm).length) (hd : decP ((σ.rows nm).getD i.toNat ⟨#[]⟩) = some d) :
    (∃ σ1 κ1 κ2, pinC σ κ nm i = (σ1, κ1, d, 0) ∧ (unpinC κ1 nm i).1 = κ2 ∧ Js σ1 κ2 nm ∧ κ2.most = κ.most ∧ pinL κ2 = pinL κ ∧ (∀ x, σ1.rows x = σ.rows x) ∧ (σ1.left = σ.left ∨ (0 < σ.left ∧ σ1.left = σ.left - 1))) ∨
    (∃ σ1, pinC σ κ nm i = (σ1, κ, ⟨#[]⟩, 60) ∧ σ.left = 0 ∧ (∀ x, σ1.rows x = σ.rows x)) ∨
    (pinC σ κ nm i = (σ, κ, ⟨#[]⟩, 70) ∧ (κ.pinned : Int) = κ.most) := by
  unfold pinC
  cases hg : κ.get nm i with
  | some x =>
    have hx := List.mem_of_find?_eq_some hg
    have hat : isAt nm i x = true := List.find?_some hg
    obtain ⟨en, ei⟩ := isAt_iff.1 hat
    obtain ⟨hxp, hox⟩ := J.mine x hx en
    have hdx : x.data = d := by
      have := hox.2.2
      rw [en, ei, hd] at this
      exact (Option.some.inj this).symm
    have hu : κ.use nm i (fun x => { x with pins := x.pins + 1 }) = { κ with L := κ.L.filter (fun y => !isAt nm i y) ++ [{ x with pins := x.pins + 1 }] } := by
      unfold CSt.use; rw [hg]
    refine .inl ⟨σ, κ.use nm i (fun x => { x with pins := x.pins + 1 }), _, by rw [getC_some hg, hdx], unpin_last (L := κ.L.filter fun y => !isAt nm i y) (x := { x with pins := x.pins + 1 }) (by rw [hu]) hat (fun y hy => by simpa using (List.mem_filter.1 hy).2) (by show x.pins + 1 ≠ 0; rw [hxp]; decide), ⟨fun y hy => ?_, ?_, fun y hy hyn => ?_⟩, by rw [hu], ?_, fun _ => rfl, .inl rfl⟩
    · rcases List.mem_append.1 hy with h | h
      · exact J.nn y (List.mem_filter.1 h).1
      · rw [List.mem_singleton.1 h]; show 0 ≤ x.pins + 1 - 1; omega
    · show (((κ.L.filter fun y => !isAt nm i y) ++ [({ x with pins := x.pins + 1 - 1 } : Frm)]).length : Int) ≤ _
      rw [hu]
      have h1 : (κ.L.filter fun y => !isAt nm i y).length < κ.L.length := by
        rw [List.length_filter_lt_length_iff_exists]
        exact ⟨x, hx, by rw [hat]; decide⟩
      have := J.len
      rw [List.length_append, List.length_singleton]
      show ((_ + 1 : Nat) : Int) ≤ κ.most
      omega
    · rcases List.mem_append.1 hy with h | h
      · exact J.mine y (List.mem_filter.1 h).1 hyn
      · rw [List.mem_singleton.1 h]
        exact ⟨by show x.pins + 1 - 1 = 0; rw [hxp]; rfl, hox⟩
    · show ((κ.L.filter fun y => !isAt nm i y) ++ [({ x with pins := x.pins + 1 - 1 } : Frm)]).filter (fun x => decide (0 < x.pins)) = _
      rw [List.filter_append, List.filter_filter]
      have e1 : [({ x with pins := x.pins + 1 - 1 } : Frm)].filter (fun x => decide (0 < x.pins)) = [] := List.filter_eq_nil_iff.2 fun y hy => by
        rw [List.mem_singleton.1 hy]
        show ¬ decide (0 < x.pins + 1 - 1) = true
        rw [hxp]; decide
      rw [e1, List.append_nil]
      refine List.filter_congr fun y hy => ?_
      cases hyat : isAt nm i y with
      | false => simp
      | true =>
        have := (J.mine y hy (isAt_iff.1 hyat).1).1
        rw [this]; simp
  | none =>
    rw [getC_none hg]
    by_cases hroom : κ.room = false
    · rw [if_pos hroom]
      refine .inr (.inr ⟨rfl, ?_⟩)
      unfold CSt.room at hroom
      simp only [Bool.or_eq_false_iff, decide_eq_false_iff_not] at hroom
      have hall : κ.L.filter (fun x => decide (0 < x.pins)) = κ.L := List.filter_eq_self.2 fun x hx => by
        have h1 := J.nn x hx
        have h2 := List.any_eq_false.1 hroom.2 x hx
        have h2 : ¬ x.pins = 0 := by simpa using h2
        exact decide_eq_true (by omega)
      have := J.len
      unfold CSt.pinned
      rw [hall]; omega
    · rw [if_neg hroom]
      have hrm : κ.room = true := by simpa using hroom
      by_cases hl : σ.left = 0
      · have hr : σ.read nm i = ({ σ with left := -1 }, ⟨#[]⟩, 60) := by
          unfold FSt.read
          rw [if_neg (by omega), if_pos hl]
        rw [hr]
        exact .inr (.inl ⟨_, rfl, hl, fun _ => rfl⟩)
      · have hr : σ.read nm i = ({ σ with left := if σ.left > 0 then σ.left - 1 else σ.left }, (σ.rows nm).getD i.toNat ⟨#[]⟩, 0) := by
          unfold FSt.read
          rw [if_neg (by omega), if_neg hl]
        rw [hr]
        simp only [ne_eq, not_true_eq_false, if_false]
        rw [hd]
        simp only []
        unfold CSt.add
        have hno : ∀ y ∈ κ.L, isAt nm i y = false := fun y hy => by
          have := List.find?_eq_none.1 hg y hy
          simpa using this
        refine .inl ⟨_, _, _, rfl, unpin_last (L := if (κ.L.length : Int) ≥ κ.most then eraseFirst κ.L else κ.L) (x := ⟨nm, i, d, 0 + 1⟩) rfl (isAt_iff.2 ⟨rfl, rfl⟩) (fun y hy => ?_) (by show (0 : Int) + 1 ≠ 0; decide), ⟨fun y hy => ?_, ?_, fun y hy hyn => ?_⟩, rfl, ?_, fun _ => rfl, ?_⟩
        · split at hy
          · exact hno y (eraseFirst_mem hy)
          · exact hno y hy
        · rcases List.mem_append.1 hy with h | h
          · split at h
            · exact J.nn y (eraseFirst_mem h)
            · exact J.nn y h
          · rw [List.mem_singleton.1 h]; show (0 : Int) ≤ 0 + 1 - 1; decide
        · show (((if (κ.L.length : Int) ≥ κ.most then eraseFirst κ.L else κ.L) ++ [(⟨nm, i, d, 0 + 1 - 1⟩ : Frm)]).length : Int) ≤ κ.most
          have := J.len
          rw [List.length_append, List.length_singleton]
          split
          · rename_i hge
            have hany : (κ.L.any fun x => decide (x.pins = 0)) = true := by
              unfold CSt.room at hrm
              rw [decide_eq_false (by omega), Bool.false_or] at hrm
              exact hrm
            have := erase_len κ.L hany
            omega
          · omega
        · rcases List.mem_append.1 hy with h | h
          · split at h
            · exact J.mine y (eraseFirst_mem h) hyn
            · exact J.mine y h hyn
          · rw [List.mem_singleton.1 h]
            exact ⟨by show (0 : Int) + 1 - 1 = 0; rfl, h0, h1, hd⟩
        · show ((if (κ.L.length : Int) ≥ κ.most then eraseFirst κ.L else κ.L) ++ [(⟨nm, i, d, 0 + 1 - 1⟩ : Frm)]).filter (fun x => decide (0 < x.pins)) = _
          rw [List.filter_append]
          have e1 : [(⟨nm, i, d, 0 + 1 - 1⟩ : Frm)].filter (fun x => decide (0 < x.pins)) = [] := rfl
          rw [e1, List.append_nil]
          split
          · exact erase_pin κ.L
          · rfl
        · show (if σ.left > 0 then σ.left - 1 else σ.left) = σ.left ∨ (0 < σ.left ∧ (if σ.left > 0 then σ.left - 1 else σ.left) = σ.left - 1)
          by_cases h : σ.left > 0
          · rw [if_pos h]; exact .inr ⟨h, rfl⟩
          · rw [if_neg h]; exact .inl rfl
theorem file_any {σ : FSt} {κ : CSt} {nm d : ByteArray} (J : Js σ κ nm) (hr : σ.rows nm = splitP d) :
    ∃ σ' κ' z e, fileC σ κ nm = (σ', κ', z, e) ∧ Js σ' κ' nm ∧ κ'.most = κ.most ∧ pinL κ' = pinL κ ∧ (∀ x, σ'.rows x = σ.rows x) ∧
      ((e = 0 ∧ z = d) ∨ (e = 60 ∧ z = ⟨#[]⟩ ∧ 0 ≤ σ.left ∧ σ.left ≤ (splitP d).length) ∨ (e = 70 ∧ z = ⟨#[]⟩ ∧ (κ.pinned : Int) = κ.most)) := by
  obtain ⟨cs, C, e⟩ := split_cut d
  have hlen : (σ.rows nm).length = cs.length := by rw [hr, e, List.length_map]
  have hpos := List.length_pos_iff.2 C.ne
  have hsl : (splitP d).length = cs.length := by rw [e, List.length_map]
  rw [hsl]
  unfold fileC
  rw [if_neg (by omega), hlen]
  have key : ∀ (k : Nat) (σ0 : FSt) (κ0 : CSt), k ≤ cs.length → Js σ0 κ0 nm → (∀ x, σ0.rows x = σ.rows x) → κ0.most = κ.most → pinL κ0 = pinL κ → (0 ≤ σ0.left → σ.left ≤ σ0.left + ((cs.length - k : Nat) : Int) ∧ 0 ≤ σ.left) →
      ∃ σ' κ' z e, fileGo nm cs.length k σ0 κ0 (cs.take (cs.length - k)).flatten true = (σ', κ', z, e) ∧ Js σ' κ' nm ∧ κ'.most = κ.most ∧ pinL κ' = pinL κ ∧ (∀ x, σ'.rows x = σ.rows x) ∧
      ((e = 0 ∧ z = d) ∨ (e = 60 ∧ z = ⟨#[]⟩ ∧ 0 ≤ σ.left ∧ σ.left ≤ cs.length) ∨ (e = 70 ∧ z = ⟨#[]⟩ ∧ (κ.pinned : Int) = κ.most)) := by
    intro k
    induction k with
    | zero =>
      intro σ0 κ0 _ J0 hs hm hp _
      refine ⟨σ0, κ0, d, 0, ?_, J0, hm, hp, hs, .inl ⟨rfl, rfl⟩⟩
      simp only [fileGo, Nat.sub_zero, List.take_length, if_true]
      rw [C.join, mkB_of]
    | succ k ih =>
      intro σ0 κ0 hk J0 hs hm hp hleft
      have hj : cs.length - (k + 1) < cs.length := by omega
      have hpage : (σ0.rows nm).getD (((cs.length - (k + 1) : Nat) : Int)).toNat ⟨#[]⟩ = mkB (pageL cs[cs.length - (k + 1)]) := by
        rw [hs, Int.toNat_natCast, hr, e, List.getD_eq_getElem?_getD, List.getElem?_map, List.getElem?_eq_getElem hj]; rfl
      have hcl := C.le _ (List.getElem_mem hj)
      have hdec : decP ((σ0.rows nm).getD (((cs.length - (k + 1) : Nat) : Int)).toNat ⟨#[]⟩) = some (mkB cs[cs.length - (k + 1)]) := by
        rw [hpage]
        have := dec_page (d := mkB cs[cs.length - (k + 1)]) (by rw [mkB_size]; exact hcl)
        unfold pageB at this
        rw [mkB_data] at this
        exact this
      rw [fileGo_succ]
      rcases pin_any J0 (i := ((cs.length - (k + 1) : Nat) : Int)) (by omega) (by rw [hs, hlen]; omega) hdec with ⟨σ1, κ1, κ2, e1, e2, J2, m2, p2, r2, l2⟩ | ⟨σ1, e1, l0, r1⟩ | ⟨e1, hf⟩
      · rw [e1]
        simp only [ne_eq, not_true_eq_false, if_false]
        rw [e2]
        have hwv : (true && (decide (k = 0) || decide ((mkB cs[cs.length - (k + 1)]).size = 122)) && (decide (cs.length = k + 1) || decide (0 < (mkB cs[cs.length - (k + 1)]).size))) = true := by
          rw [mkB_size]
          simp only [Bool.true_and, Bool.and_eq_true, Bool.or_eq_true, decide_eq_true_eq]
          refine ⟨?_, ?_⟩
          · by_cases h : k = 0
            · exact .inl h
            · exact .inr (C.full _ (by omega))
          · by_cases h : cs.length = k + 1
            · exact .inl h
            · exact .inr (C.pos (by omega) _ (List.getElem_mem hj))
        rw [hwv]
        have ht : (cs.take (cs.length - (k + 1))).flatten ++ (mkB cs[cs.length - (k + 1)]).data.toList = (cs.take (cs.length - k)).flatten := by
          rw [mkB_data, show cs.length - k = cs.length - (k + 1) + 1 by omega, List.take_succ_eq_append_getElem hj, List.flatten_append]
          simp
        rw [ht]
        refine ih σ1 κ2 (by omega) J2 (fun x => (r2 x).trans (hs x)) (m2.trans hm) (p2.trans hp) fun hl => ?_
        rcases l2 with h | ⟨h1, h2⟩
        · rw [h] at hl ⊢
          have := hleft hl
          omega
        · have := hleft (by omega)
          omega
      · rw [e1]
        have hl := hleft (by omega)
        exact ⟨σ1, κ0, ⟨#[]⟩, 60, rfl, ⟨J0.nn, J0.len, fun x hx hn => ⟨(J0.mine x hx hn).1, by have := (J0.mine x hx hn).2; unfold OkFrm at this ⊢; rw [r1]; exact this⟩⟩, hm, hp, fun x => (r1 x).trans (hs x), .inr (.inl ⟨rfl, rfl, hl.2, by omega⟩)⟩
      · rw [e1]
        refine ⟨σ0, κ0, ⟨#[]⟩, 70, rfl, J0, hm, hp, hs, .inr (.inr ⟨rfl, rfl, ?_⟩)⟩
        rw [pinL_len, ← hp, ← pinL_len, ← hm]; exact hf
  have := key cs.length σ κ (Nat.le_refl _) J (fun _ => rfl) rfl rfl fun h => by rw [Nat.sub_self]; exact ⟨by simp, h⟩
  rw [Nat.sub_self] at this
  simpa using this
end Go.Cz.S
namespace Go.Cz.S
open Go Go.Cz Go.Cz.Crc
set_option maxRecDepth 100000
set_option maxHeartbeats 1000000
set_option linter.unusedSimpArgs false
set_option linter.unusedVariables false
theorem WriteW_i {h : H} {S : Nat → Prop} {f c : Nat} {σ : FSt} {κ : CSt} {t : Int} (W : WW h S f c σ κ t) {nm : ByteArray} (hn : nm.size ≤ 1000000000000) {v : Sl} {ps : List ByteArray} (A : Arr h v eS ps) (hl : ps.length ≤ 1000000) {Q : Int → HProp}
    (hQ : ∀ S' h', WW h' S' f c (σ.write nm ps).1 κ t → Kp S h S' h' → Q (σ.write nm ps).2 h') : files_FS_Write (some (at0 f), nm, v) Q h := by
  obtain ⟨Sf, F, hsub, go⟩ := W.fs
  refine write_i F hn A hl fun Sf' h' F' K' => ?_
  obtain ⟨S', W', K⟩ := go Sf' h' _ F' K'
  exact hQ S' h' W' K
end Go.Cz.S
namespace Go.Cz.S
open Go Go.Cz Go.Cz.Crc
set_option maxRecDepth 100000
set_option maxHeartbeats 1000000
set_option linter.unusedSimpArgs false
set_option linter.unusedVariables false
theorem WW.js {h : H} {S : Nat → Prop} {f c : Nat} {σ : FSt} {κ : CSt} {n : Int} (W : WW h S f c σ κ n) {nm : ByteArray} (hno : ∀ x ∈ κ.L, x.name ≠ nm) : Js σ κ nm := by
  obtain ⟨Sf, cm, T, clock, W⟩ := W
  have cc := W.cc
  refine ⟨fun x hx => ?_, ?_, fun x hx hn => absurd hn (hno x hx)⟩
  · rw [cc.L] at hx
    obtain ⟨t, ht, rfl⟩ := List.mem_map.1 hx
    exact (cc.pins t ht).1
  · rw [cc.L, List.length_map]; exact cc.len
theorem drop_no (κ : CSt) (nm : ByteArray) : ∀ x ∈ (dropC κ nm).L, x.name ≠ nm := fun x hx h => by
  have := (List.mem_filter.1 hx).2
  rw [decide_eq_true h] at this
  cases this
theorem fail_ok {σ : FSt} {n : Int} (h : 0 ≤ n) : σ.fail n = ({ σ with left := n }, 0) := by unfold FSt.fail; rw [if_neg (by omega)]
theorem Js.left {σ : FSt} {κ : CSt} {nm : ByteArray} (J : Js σ κ nm) {σ' : FSt} (h : ∀ x, σ'.rows x = σ.rows x) : Js σ' κ nm :=
  ⟨J.nn, J.len, fun x hx hn => ⟨(J.mine x hx hn).1, by have := (J.mine x hx hn).2; unfold OkFrm at this ⊢; rw [h]; exact this⟩⟩
end Go.Cz.S
namespace Go.Cz.S
open Go Go.Cz Go.Cz.Crc
set_option maxRecDepth 100000
set_option maxHeartbeats 1000000
set_option linter.unusedSimpArgs false
set_option linter.unusedVariables false
theorem Get_i {h : H} {S : Nat → Prop} {f c : Nat} {σ : FSt} {κ : CSt} {n : Int} (W : WW h S f c σ κ n) (hn : n < 2305843009213693952) {nm : ByteArray} {i : Int} {Q : ByteArray × Int → HProp}
    (hQ : ∀ S' h', WW h' S' f c (getC σ κ nm i id).1 (getC σ κ nm i id).2.1 (n + 1) → Kp S h S' h' → Q (getC σ κ nm i id).2.2 h') : cache_Cache_Get (some (at0 c), nm, i) Q h := by
  unfold cache_Cache_Get cache_Cache_Get_F
  simp only [eqI_eq]
  refine find_i W hn (fun he hg S' h' W' K' => ?_) fun σ' A t S' h' Sf cm clock W' K' hp hg en ei => ?_
  · refine ite_t (by simpa using he) ?_
    have := hQ S' h' (W'.mono (by omega)) K'
    have hz := getC_err σ κ nm i id he
    generalize getC σ κ nm i id = r at *
    obtain ⟨a, b, d, er⟩ := r
    simp only at *
    rw [hz] at this
    exact this
  · have e := hg id
    rw [e] at hQ
    have o := W'.cb.fr t (by simp)
    refine ite_f (by rfl) (deref_i (loadS_i (n := t.x.data) (o.ld (j := 0) rfl) (hQ S' h' ⟨Sf, cm, A ++ [t], clock, ?_⟩ K')))
    have : (A ++ [t]).map CRow.x = A.map CRow.x ++ [id t.x] := by rw [List.map_append]; rfl
    rw [this] at W'
    exact W'
theorem ItAt.permK {h : H} {it m : Nat} {a b todo todo' : List (Value × Value)} (I : ItAt h it m a todo) (p : a.Perm b) (q : todo.Perm todo') : ItAt h it m b todo' := by
  obtain ⟨es, ck, seen, last, I⟩ := I
  exact ⟨es, ck, seen, last, I.it, I.map.perm' p, I.le, I.todo.trans q⟩
theorem Drop_i {h : H} {S : Nat → Prop} {f c : Nat} {σ : FSt} {κ : CSt} {n : Int} (W : WW h S f c σ κ n) {nm : ByteArray} {Q : Unit → HProp}
    (hQ : ∀ S' h', WW h' S' f c σ (dropC κ nm) n → Kp S h S' h' → Q () h') : cache_Cache_Drop (some (at0 c), nm) Q h := by
  obtain ⟨Sf, cm, T, clock, W⟩ := W
  unfold cache_Cache_Drop cache_Cache_Drop_F
  refine Obj.new fun b h1 ob hb E1 => ?_
  have C := W.cb.ext E1
  refine cnone_i C (ite_t rfl (C.ldM ?_))
  unfold maps_DeleteFunc_map_cache_key_cache_frame_cache_key_cache_frame
  refine C.map.range fun it h2 I0 hit E2 => ?_
  have hcm1 : ∃ o, h1 cm = some o := C.map.there
  have hitb : it ≠ b := fun e => by subst e; unfold Obj at ob; rw [ob] at hit; cases hit
  have hcmb : b ≠ cm := fun e => by subst e; obtain ⟨o, ho⟩ := W.cb.map.there; rw [hb] at ho; cases ho
  refine loop_n (fun n (_ : Unit) h' => ∃ D S G : List CRow, T.Perm (D ++ (S ++ G)) ∧ ItAt h' it cm ((D ++ S).map CRow.kv) (D.map CRow.kv) ∧ n = D.length ∧ (∀ t ∈ S, t.x.name ≠ nm) ∧ (∀ t ∈ G, t.x.name = nm) ∧ Fr (fun k => k = cm ∨ k = it) h2 h') T.length
    ⟨T, [], [], by simp, by simpa using I0, rfl, by simp, by simp, Fr.refl _ _⟩ ?_
  rintro n ⟨⟩ h' ⟨D, S0, G, hp, I, rfl, hS, hG, F⟩ k hk
  have hk := fun m (h' : H) => hk m () h'
  refine I.next (fun hd => ?_) (fun x todo' h3 hx I3 g3 => ?_)
  · have hD : D = [] := by cases D; rfl; cases hd
    subst hD
    rw [List.nil_append] at hp I
    have hfil : (T.filter fun t => !decide (t.x.name = nm)).Perm S0 := by
      refine (hp.filter _).trans ?_
      rw [List.filter_append, List.filter_eq_self.2 fun t ht => by simpa using hS t ht, List.filter_eq_nil_iff.2 fun t ht => by simpa using hG t ht, List.append_nil]
    have Fh : Fr (fun k => k = cm) h h' := fun k o hk1 hs => by
      refine F k o (E2 k o (E1 k o hk1 fun h => h) fun h => h) fun e => ?_
      rcases e with e | e
      · exact hs e
      · subst e
        have := E1 k o hk1 fun h => h
        rw [hit] at this; cases this
    have sub : (T.filter fun t => !decide (t.x.name = nm)).Sublist T := List.filter_sublist
    have C2 := W.cb.sub sub Fh (I.mapAt.perm (hfil.symm.map _))
    have cc := W.cc
    have cc2 : CC (T.filter fun t => !decide (t.x.name = nm)) (dropC κ nm) clock n := by
      refine ⟨?_, cc.rise.sublist sub, fun t ht => cc.u t (sub.mem ht), cc.ck, cc.most, ?_, fun t ht => cc.pins t (sub.mem ht), fun t ht => cc.data t (sub.mem ht)⟩
      · show κ.L.filter _ = _
        rw [cc.L, List.filter_map]; rfl
      · have := cc.len
        have := sub.length_le
        show ((T.filter _).length : Int) ≤ κ.most
        omega
    obtain ⟨S', W', K'⟩ := W.cop (κ' := dropC κ nm) C2 (Fh.mono fun k hk => .inr (.inl hk)) (fun k hk => .inl (own_mono (fun t ht => ⟨t, sub.mem ht, rfl⟩) k hk)) cc2
    exact hQ S' h' ⟨Sf, cm, _, clock, W'⟩ K'
  · obtain ⟨D', hD, e⟩ := perm_map_inv hx.symm
    cases D' with
    | nil => cases e
    | cons t D'' =>
    simp only [List.map_cons, List.cons.injEq] at e
    obtain ⟨rfl, rfl⟩ := e
    have dl : D.length = D''.length + 1 := by rw [← hD.length_eq]; rfl
    have F3 : Fr (fun k => k = cm ∨ k = it) h2 h3 := F.trans (g3.mono fun k hk => .inr hk)
    have o3 : Obj h3 b [.string nm] := by
      refine (ob.ext E2).fr F3 ?_
      rintro (e | e)
      · exact hcmb e
      · exact hitb e.symm
    have pDS : ((D ++ S0).map CRow.kv).Perm (t.kv :: (D'' ++ S0).map CRow.kv) := by
      have := (hD.symm.append_right S0).map CRow.kv
      simpa using this
    refine with_u (I3.entry (cs := [.string t.x.name, .int .i64 t.x.i]) (k := (t.x.name, t.x.i)) (v := some (at0 t.b)) rfl rfl rfl ?_)
    dsimp only
    unfold cache_Cache_Drop_c1
    refine deref_i (loadS_i (n := nm) (o3.ld0 rfl) ?_)
    dsimp only
    rw [eqS_eq]
    refine ite_i (fun e => ?_) (fun e => ?_)
    · have e : t.x.name = nm := of_decide_eq_true e
      refine I3.delete (fits_C _) rfl (fun rest h4 hp4 I4 g4 => hk D''.length h4 (by omega) ⟨D'', S0, G ++ [t], ?_, ?_, rfl, hS, fun x hx => ?_, F3.trans (g4.mono fun k hk => .inl hk)⟩)
      · refine hp.trans ((hD.symm.append_right _).trans ?_)
        refine (List.perm_append_comm (l₁ := [t]) (l₂ := D'' ++ (S0 ++ G))).trans ?_
        simp
      · exact I4.permK ((pDS.symm.trans hp4).cons_inv.symm) (List.Perm.refl _)
      · rcases List.mem_append.1 hx with h | h
        · exact hG x h
        · rw [List.mem_singleton.1 h]; exact e
    · have e : ¬ t.x.name = nm := of_decide_eq_false e
      refine hk D''.length h3 (by omega) ⟨D'', S0 ++ [t], G, ?_, ?_, rfl, fun x hx => ?_, hG, F3⟩
      · refine hp.trans ((hD.symm.append_right _).trans ?_)
        have : (t :: (D'' ++ (S0 ++ G))).Perm (D'' ++ (S0 ++ t :: G)) := by
          rw [← List.append_assoc, ← List.append_assoc]; exact List.perm_middle.symm
        simpa using this
      · refine I3.at.permK ?_ (List.Perm.refl _)
        refine pDS.trans ?_
        have : (t :: (D'' ++ S0)).Perm (D'' ++ (S0 ++ [t])) := by
          rw [← List.append_assoc]; exact List.perm_append_comm (l₁ := [t])
        simpa using this.map CRow.kv
      · rcases List.mem_append.1 hx with h | h
        · exact hS x h
        · rw [List.mem_singleton.1 h]; exact e
end Go.Cz.S
namespace Go.Cz.S
open Go Go.Cz Go.Cz.Crc
set_option maxRecDepth 100000
set_option maxHeartbeats 1000000
set_option linter.unusedSimpArgs false
set_option linter.unusedVariables false
theorem CC.used {A B : List CRow} {t t' : CRow} {κ : CSt} {clock n : Int} (cc : CC (A ++ t :: B) κ clock n) (hu : t'.u = clock + 1) (hp : 0 ≤ t'.x.pins ∧ t'.x.pins ≤ clock + 1) (hd : t'.x.data.size ≤ 122) :
    CC ((A ++ B) ++ [t']) { κ with L := ((A ++ B) ++ [t']).map CRow.x } (clock + 1) (n + 1) := by
  have sub := mid_sub A t B
  have hck := cc.ck
  refine ⟨rfl, ?_, fun x hx => ?_, by omega, cc.most, ?_, fun x hx => ?_, fun x hx => ?_⟩
  · refine List.pairwise_append.2 ⟨cc.rise.sublist sub, by simp, fun a ha b hb => ?_⟩
    have := cc.u a (sub.mem ha)
    simp at hb; subst hb
    omega
  · rcases List.mem_append.1 hx with h | h
    · have := cc.u x (sub.mem h); omega
    · simp at h; subst h; omega
  · have := cc.len
    simp only [List.length_append, List.length_cons, List.length_nil] at this ⊢
    exact this
  · rcases List.mem_append.1 hx with h | h
    · have := cc.pins x (sub.mem h); omega
    · simp at h; subst h; exact hp
  · rcases List.mem_append.1 hx with h | h
    · exact cc.data x (sub.mem h)
    · simp at h; subst h; exact hd
theorem eraseR_lt {T : List CRow} {most : Int} (hl : (T.length : Int) ≤ most) (hr : roomR most T = true) {T' : List CRow} (e : (if (T.length : Int) ≥ most then eraseR T else T) = T') : (T'.length : Int) + 1 ≤ most ∧ T'.Sublist T := by
  subst e
  refine ⟨?_, by split; exact eraseR_sub T; exact List.Sublist.refl _⟩
  by_cases e7 : (T.length : Int) ≥ most
  · rw [if_pos e7]
    unfold roomR at hr
    rw [decide_eq_false (by omega), Bool.false_or, List.any_eq_true] at hr
    obtain ⟨t0, ht0, hp0⟩ := hr
    have : ∀ l : List CRow, (∃ t ∈ l, t.x.pins = 0) → (eraseR l).length + 1 ≤ l.length := by
      intro l
      induction l with
      | nil => rintro ⟨t, ht, _⟩; cases ht
      | cons a r ih =>
        rintro ⟨t, ht, hp⟩
        simp only [eraseR]
        split
        · simp
        · rename_i ha
          have : t ∈ r := by
            rcases List.mem_cons.1 ht with h | h
            · subst h; exact absurd hp ha
            · exact h
          have := ih ⟨t, this, hp⟩
          simp only [List.length_cons]; omega
    have := this T ⟨t0, ht0, of_decide_eq_true hp0⟩
    omega
  · rw [if_neg e7]; omega
theorem CC.came {T T' : List CRow} {t : CRow} {κ : CSt} {clock n : Int} (cc : CC T κ clock n) (sub : T'.Sublist T) (hlen : (T'.length : Int) + 1 ≤ κ.most) (hu : t.u = clock + 1) (hp : t.x.pins = 0) (hd : t.x.data.size ≤ 122) :
    CC (T' ++ [t]) { κ with L := (T' ++ [t]).map CRow.x } (clock + 1) (n + 1) := by
  have hck := cc.ck
  refine ⟨rfl, ?_, fun x hx => ?_, by omega, cc.most, ?_, fun x hx => ?_, fun x hx => ?_⟩
  · refine List.pairwise_append.2 ⟨cc.rise.sublist sub, by simp, fun a ha x hx => ?_⟩
    have := cc.u a (sub.mem ha)
    simp at hx; subst hx
    omega
  · rcases List.mem_append.1 hx with h | h
    · have := cc.u x (sub.mem h); omega
    · simp at h; subst h; omega
  · simp only [List.length_append, List.length_cons, List.length_nil]
    show ((T'.length + 1 : Nat) : Int) ≤ κ.most
    omega
  · rcases List.mem_append.1 hx with h | h
    · have := cc.pins x (sub.mem h); omega
    · simp at h; subst h; omega
  · rcases List.mem_append.1 hx with h | h
    · exact cc.data x (sub.mem h)
    · simp at h; subst h; exact hd
theorem Put_i {h : H} {S : Nat → Prop} {f c : Nat} {σ : FSt} {κ : CSt} {n : Int} (W : WW h S f c σ κ n) (hn : n < 2305843009213693952) {nm : ByteArray} (hnm : nm.size ≤ 1000000000000) {i : Int} {d : ByteArray} (hd : d.size ≤ 1000000) {Q : Int → HProp}
    (hQ : ∀ S' h', WW h' S' f c (putC σ κ nm i d).1 (putC σ κ nm i d).2.1 (n + 1) → Kp S h S' h' → Q (putC σ κ nm i d).2.2 h') : cache_Cache_Put (some (at0 c), nm, i, d) Q h := by
  obtain ⟨Sf, cm, T, clock, W⟩ := W
  unfold cache_Cache_Put cache_Cache_Put_F
  simp only [eqI_eq]
  refine cnone_i W.cb (ite_f rfl (pages_Encode_spec hd fun h1 E1 => ?_))
  have W1 : WT h1 S f c σ κ n Sf cm T clock := ⟨W.fs.ext E1, W.cb.ext E1, W.dis, W.S, W.cc⟩
  have K1 : Kp S h S h1 := Kp.ext E1
  have cc := W.cc
  have hck := cc.ck
  have up : WW h1 S f c σ κ (n + 1) := WW.mono ⟨_, _, _, _, W1⟩ (by omega)
  by_cases hds : d.size ≤ 122
  case neg =>
    rw [if_neg hds]
    have e : putC σ κ nm i d = (σ, κ, 3) := by unfold putC; rw [if_pos (by omega)]
    rw [e] at hQ
    exact ite_t (by rfl) (hQ S h1 up K1)
  rw [if_pos hds]
  have e1 : putC σ κ nm i d = if (κ.get nm i).isNone ∧ κ.room = false then (σ, κ, 70) else if (σ.put nm i (pageB d)).2 ≠ 0 then ((σ.put nm i (pageB d)).1, κ, (σ.put nm i (pageB d)).2) else ((σ.put nm i (pageB d)).1, (match κ.get nm i with | some _ => κ.use nm i (fun x => { x with data := d }) | none => κ.add ⟨nm, i, d, 0⟩), 0) := by
    unfold putC; rw [if_neg (by omega)]; rfl
  have C := W1.cb
  refine ite_f (by rfl) (C.ldM (C.look (fun t ht en ei => ?_) fun hno => ?_))
  · obtain ⟨A, B, rfl⟩ := List.append_of_mem ht
    obtain ⟨g1, g2, g3⟩ := get_some cc.L C.nd ⟨en, ei⟩
    rw [if_neg (by rw [g1]; simp), g1] at e1
    refine with_b false (fun k hk => ite_f (by rfl) hk) (ite_f (by rfl) ?_)
    refine deref_i (loadP_i (C.obj.ld (j := 0) rfl) (put_i W1.fs hnm fun Sf' h3 F3 K3 => ?_))
    obtain ⟨S3, W3, K3'⟩ := W1.fsop F3 K3
    have K03 := K1.trans K3'
    refine ite_i (fun e => ?_) fun e => ?_
    · have e : (σ.put nm i (pageB d)).2 ≠ 0 := by simpa using e
      rw [e1, if_pos e] at hQ
      exact hQ S3 h3 (WW.mono ⟨_, _, _, _, W3⟩ (by omega)) K03
    · have e : (σ.put nm i (pageB d)).2 = 0 := by simpa using e
      rw [e1, if_neg (by rw [e]; simp)] at hQ
      refine with_u (ite_f (by rfl) (deref_i ?_))
      have C3 := W3.cb
      refine (C3.fr t ht).st (j := 0) (by simp [CRow.cells]) fun h4 o4 g4 => ?_
      have C4 : CB0 h4 c cm f κ.most clock (A ++ { t with x := { t.x with data := d } } :: B) := C3.set (t' := { t with x := { t.x with data := d } }) rfl rfl o4 g4
      refine use_i (t := { t with x := { t.x with data := d } }) C4 (by omega) fun h5 C5 g5 => ?_
      have hp := cc.pins t ht
      have cc5 := cc.used (t' := { t with x := { t.x with data := d }, u := clock + 1 }) rfl ⟨hp.1, by show t.x.pins ≤ _; omega⟩ hds
      have hpm : (A ++ { t with x := { t.x with data := d }, u := clock + 1 } :: B).Perm ((A ++ B) ++ [{ t with x := { t.x with data := d }, u := clock + 1 }]) := by
        refine List.perm_middle.trans ?_
        exact (List.perm_append_comm (l₁ := [{ t with x := { t.x with data := d }, u := clock + 1 }]) (l₂ := A ++ B))
      have C6 := C5.perm hpm
      have own1 : ∀ k, CB0.own c cm (A ++ { t with x := { t.x with data := d } } :: B) k → CB0.own c cm (A ++ t :: B) k := own_mono fun x hx => by
        rcases List.mem_append.1 hx with h | h
        · exact ⟨x, List.mem_append_left _ h, rfl⟩
        · rcases List.mem_cons.1 h with rfl | h
          · exact ⟨t, ht, rfl⟩
          · exact ⟨x, List.mem_append_right _ (List.mem_cons_of_mem _ h), rfl⟩
      have own2 : ∀ k, CB0.own c cm ((A ++ B) ++ [{ t with x := { t.x with data := d }, u := clock + 1 }]) k → CB0.own c cm (A ++ t :: B) k := own_mono fun x hx => by
        rcases List.mem_append.1 hx with h | h
        · exact ⟨x, (mid_sub A t B).mem h, rfl⟩
        · simp at h; subst h; exact ⟨t, ht, rfl⟩
      have G : Fr (CB0.own c cm (A ++ t :: B)) h3 h5 := (g4.mono fun k hk => .inr (.inr ⟨t, ht, hk.symm⟩)).trans (g5.mono own1)
      obtain ⟨S5, W5, K5⟩ := W3.cop (κ' := { κ with L := ((A ++ B) ++ [({ t with x := { t.x with data := d }, u := clock + 1 } : CRow)]).map CRow.x }) C6 G (fun k hk => .inl (own2 k hk)) cc5
      have eu : κ.use nm i (fun x => { x with data := d }) = { κ with L := ((A ++ B) ++ [({ t with x := { t.x with data := d }, u := clock + 1 } : CRow)]).map CRow.x } := by
        unfold CSt.use
        rw [g1, g2]
        simp
      rw [← eu] at W5
      exact hQ S5 h5 ⟨_, _, _, _, W5⟩ (K03.trans K5)
  · have hg := get_none cc.L hno
    have hroom := room_eq cc
    rw [hg] at e1
    refine with_i (fun (r : Bool) h' => r = !roomR κ.most T ∧ Ext h1 h') (fun k hk => ite_t (by rfl) (full_i C fun h2 E2 => hk _ _ ⟨rfl, E2⟩)) ?_
    rintro r h2 ⟨rfl, E2⟩
    have W2 : WT h2 S f c σ κ n Sf cm T clock := ⟨W1.fs.ext E2, W1.cb.ext E2, W.dis, W.S, cc⟩
    have K2 : Kp S h S h2 := K1.trans (Kp.ext E2)
    refine ite_i (fun e => ?_) fun e => ?_
    · have hr : κ.room = false := by rw [hroom]; simpa using e
      rw [if_pos ⟨rfl, hr⟩] at e1
      rw [e1] at hQ
      exact hQ S h2 (WW.mono ⟨_, _, _, _, W2⟩ (by omega)) K2
    have hr : roomR κ.most T = true := by simpa using e
    rw [if_neg (by rw [hroom, hr]; simp)] at e1
    refine deref_i (loadP_i (W2.cb.obj.ld (j := 0) rfl) (put_i W2.fs hnm fun Sf' h3 F3 K3 => ?_))
    obtain ⟨S3, W3, K3'⟩ := W2.fsop F3 K3
    have K03 := K2.trans K3'
    refine ite_i (fun e => ?_) fun e => ?_
    · have e : (σ.put nm i (pageB d)).2 ≠ 0 := by simpa using e
      rw [e1, if_pos e] at hQ
      exact hQ S3 h3 (WW.mono ⟨_, _, _, _, W3⟩ (by omega)) K03
    have e : (σ.put nm i (pageB d)).2 = 0 := by simpa using e
    rw [e1, if_neg (by rw [e]; simp)] at hQ
    refine with_u (ite_t (by rfl) (come_i W3.cb cc.rise hno fun b h5 C5 hb g5 => deref_i ?_))
    generalize hT' : (if (T.length : Int) ≥ κ.most then eraseR T else T) = T' at *
    obtain ⟨hlen, sub⟩ := eraseR_lt cc.len hr hT'
    have hin : (⟨⟨nm, i, d, 0⟩, b, 0⟩ : CRow) ∈ T' ++ [⟨⟨nm, i, d, 0⟩, b, 0⟩] := by simp
    refine (C5.fr _ hin).st (j := 0) (by simp [CRow.cells]) fun h6 o6 g6 => ?_
    have C6 : CB0 h6 c cm f κ.most clock (T' ++ [⟨⟨nm, i, d, 0⟩, b, 0⟩]) := C5.set (A := T') (B := []) (t := ⟨⟨nm, i, d, 0⟩, b, 0⟩) (t' := ⟨⟨nm, i, d, 0⟩, b, 0⟩) rfl rfl o6 g6
    refine use_i (A := T') (B := []) (t := ⟨⟨nm, i, d, 0⟩, b, 0⟩) C6 (by omega) fun h7 C7 g7 => ?_
    have cc7 := cc.came (t := ⟨⟨nm, i, d, 0⟩, b, clock + 1⟩) sub hlen rfl rfl hds
    have hb4 : h3 b = none := hb
    have mid : ∀ k, CB0.own c cm (T' ++ [(⟨⟨nm, i, d, 0⟩, b, 0⟩ : CRow)]) k → CB0.own c cm T k ∨ k = b := by
      rintro k (h | h | ⟨t, ht, rfl⟩)
      · exact .inl (.inl h)
      · exact .inl (.inr (.inl h))
      · rcases List.mem_append.1 ht with h | h
        · exact .inl (.inr (.inr ⟨t, sub.mem h, rfl⟩))
        · simp at h; subst h; exact .inr rfl
    have g37 : Fr (CB0.own c cm T) h3 h7 := by
      intro k o hk hs
      have hkb : k ≠ b := fun e => by subst e; rw [hb4] at hk; cases hk
      refine g7 k o (g6 k o (g5 k o hk hs) hkb) fun h => ?_
      rcases mid k h with h | h
      · exact hs h
      · exact hkb h
    have hown : ∀ k, CB0.own c cm (T' ++ [(⟨⟨nm, i, d, 0⟩, b, clock + 1⟩ : CRow)]) k → CB0.own c cm T k ∨ h3 k = none := by
      rintro k (h | h | ⟨t, ht, rfl⟩)
      · exact .inl (.inl h)
      · exact .inl (.inr (.inl h))
      · rcases List.mem_append.1 ht with h | h
        · exact .inl (.inr (.inr ⟨t, sub.mem h, rfl⟩))
        · simp at h; subst h; exact .inr hb4
    obtain ⟨S7, W7, K7⟩ := W3.cop (κ' := { κ with L := (T' ++ [(⟨⟨nm, i, d, 0⟩, b, clock + 1⟩ : CRow)]).map CRow.x }) C7 g37 hown cc7
    have ea : κ.add ⟨nm, i, d, 0⟩ = { κ with L := (T' ++ [(⟨⟨nm, i, d, 0⟩, b, clock + 1⟩ : CRow)]).map CRow.x } := by
      unfold CSt.add
      rw [cc.L, List.length_map, ← hT']
      split
      · rw [← eraseR_x]; simp
      · simp
    rw [← ea] at W7
    exact hQ S7 h7 ⟨_, _, _, _, W7⟩ (K03.trans K7)
end Go.Cz.S
namespace Go.Cz.S
open Go Go.Cz Go.Cz.Crc
set_option maxRecDepth 100000
set_option maxHeartbeats 4000000
set_option linter.unusedSimpArgs false
set_option linter.unusedVariables false
structure ActT where
  k : Int
  nm : ByteArray
  i : Int
  d : ByteArray
  x : Int
def eAct : Enc ActT := ⟨5, fun a => [.int .u8 a.k, .string a.nm, .int .i64 a.i, .string a.d, .int .u8 a.x], fun _ => rfl, fun n v hv => by simp at hv; rcases hv with rfl | rfl | rfl | rfl | rfl <;> trivial, by decide⟩
structure OkAct (a : ActT) : Prop where
  k : 0 ≤ a.k ∧ a.k ≤ 255
  i : -9223372036854775808 ≤ a.i ∧ a.i ≤ 9223372036854775807
  x : 0 ≤ a.x ∧ a.x ≤ 255
def fewA (a : ActT) : Bool := decide (a.nm.size ≤ 40) && decide (a.d.size ≤ 400)
def doneF (σ : FSt) (κ : CSt) (a : ActT) : FSt × CSt × ByteArray × Int :=
  if a.k % 10 = 2 then pinC σ κ a.nm a.i
  else if a.k % 10 = 3 then (σ, (unpinC κ a.nm a.i).1, ⟨#[]⟩, (unpinC κ a.nm a.i).2)
  else if a.k % 10 = 4 then ((putC σ κ a.nm a.i a.d).1, (putC σ κ a.nm a.i a.d).2.1, ⟨#[]⟩, (putC σ κ a.nm a.i a.d).2.2)
  else if a.k % 10 = 5 then (σ, dropC κ a.nm, ⟨#[]⟩, 0)
  else if a.k % 10 = 6 then ((σ.write a.nm (splitP a.d)).1, κ, ⟨#[]⟩, (σ.write a.nm (splitP a.d)).2)
  else if a.k % 10 = 7 then ((σ.fail a.i).1, κ, ⟨#[]⟩, (σ.fail a.i).2)
  else if a.k % 10 = 8 then ((σ.flip a.nm a.i 2 (UInt8.ofNat a.x.toNat)).1, κ, ⟨#[]⟩, (σ.flip a.nm a.i 2 (UInt8.ofNat a.x.toNat)).2)
  else if a.k % 10 = 9 then ((σ.remove a.nm).1, κ, ⟨#[]⟩, (σ.remove a.nm).2)
  else getC σ κ a.nm a.i id
theorem RemoveW_i {h : H} {S : Nat → Prop} {f c : Nat} {σ : FSt} {κ : CSt} {t : Int} (W : WW h S f c σ κ t) {nm : ByteArray} {Q : Int → HProp}
    (hQ : ∀ S' h', WW h' S' f c (σ.remove nm).1 κ t → Kp S h S' h' → Q (σ.remove nm).2 h') : files_FS_Remove (some (at0 f), nm) Q h := by
  obtain ⟨Sf, F, hsub, go⟩ := W.fs
  refine remove_i F fun S1 h' F' K' => ?_
  obtain ⟨S', W', K⟩ := go S1 h' _ F' K'
  exact hQ S' h' W' K
theorem Done_i {h : H} {S : Nat → Prop} {f c : Nat} {σ : FSt} {κ : CSt} {n : Int} (W : WW h S f c σ κ n) (hn : n < 2305843009213693952) {a : ActT} (ok : OkAct a) (few : fewA a = true) {Q : ByteArray × Int → HProp}
    (hQ : ∀ S' h', WW h' S' f c (doneF σ κ a).1 (doneF σ κ a).2.1 (n + 1) → Kp S h S' h' → Q (doneF σ κ a).2.2 h') : law07_Done (some (at0 c), a.k, a.nm, a.i, a.d, a.x) Q h := by
  unfold fewA at few
  simp only [Bool.and_eq_true, decide_eq_true_eq] at few
  unfold law07_Done law07_Done_F
  simp only [eqI_eq]
  rw [rem_nn ok.k.1]
  refine must_i (by decide) ?_
  unfold doneF at hQ
  refine ite_i (fun e => ?_) fun e => ?_
  · rw [if_pos (of_decide_eq_true e)] at hQ
    exact Pin_i W hn hQ
  rw [if_neg (of_decide_eq_false e)] at hQ
  refine ite_i (fun e => ?_) fun e => ?_
  · rw [if_pos (of_decide_eq_true e)] at hQ
    exact Unpin_i W (by omega) fun S' h' W' K' => hQ S' h' (W'.mono (by omega)) K'
  rw [if_neg (of_decide_eq_false e)] at hQ
  refine ite_i (fun e => ?_) fun e => ?_
  · rw [if_pos (of_decide_eq_true e)] at hQ
    exact Put_i W hn (by omega) (by omega) hQ
  rw [if_neg (of_decide_eq_false e)] at hQ
  refine ite_i (fun e => ?_) fun e => ?_
  · rw [if_pos (of_decide_eq_true e)] at hQ
    exact Drop_i W fun S' h' W' K' => hQ S' h' (W'.mono (by omega)) K'
  rw [if_neg (of_decide_eq_false e)] at hQ
  refine ite_i (fun e => ?_) fun e => ?_
  · rw [if_pos (of_decide_eq_true e)] at hQ
    refine W.cfs (pages_Split_spec (by omega) fun v h1 V nw E => ?_)
    refine WriteW_i (W.ext E) (by omega) V.arr (by have := (split_cnt a.d).2; omega) fun S' h' W' K' => hQ S' h' (W'.mono (by omega)) ((Kp.ext E).trans K')
  rw [if_neg (of_decide_eq_false e)] at hQ
  refine ite_i (fun e => ?_) fun e => ?_
  · rw [if_pos (of_decide_eq_true e)] at hQ
    exact W.cfs (FailW_i W ok.i.2 fun S' h' W' K' => hQ S' h' (W'.mono (by omega)) K')
  rw [if_neg (of_decide_eq_false e)] at hQ
  refine ite_i (fun e => ?_) fun e => ?_
  · rw [if_pos (of_decide_eq_true e)] at hQ
    have hx : ((UInt8.ofNat a.x.toNat).toNat : Int) = a.x := by
      rw [UInt8.toNat_ofNat']
      have := ok.x
      omega
    refine W.cfs ?_
    have := FlipW_i W (nm := a.nm) (i := a.i) (at_ := 2) (x := UInt8.ofNat a.x.toNat) (Q := fun r h' => Q (⟨#[]⟩, r) h') fun S' h' W' K' => hQ S' h' (W'.mono (by omega)) K'
    rw [hx] at this
    exact this
  rw [if_neg (of_decide_eq_false e)] at hQ
  refine ite_i (fun e => ?_) fun e => ?_
  · rw [if_pos (of_decide_eq_true e)] at hQ
    exact W.cfs (RemoveW_i W fun S' h' W' K' => hQ S' h' (W'.mono (by omega)) K')
  rw [if_neg (of_decide_eq_false e)] at hQ
  exact Get_i W hn hQ
theorem _root_.Go.Cz.Arr.act {h : H} {v : Sl} {l : List ActT} (A : Arr h v eAct l) {j : Nat} (hj : j < l.length) {i : Nat} {y : Value} (hy : (eAct.f l[j])[i]? = some y) {K : Addr → HProp}
    (hK : ∀ a, h.cell? (a.add i) = some y → K a h) : indexW (j : Int) v 5 K h :=
  A.index (by omega) (by omega) fun a ha => hK a (A.cell (E := eAct) (i := j) (j := i) (x := l[j]) (by simpa [eAct] using ha) (List.getElem?_eq_getElem hj) hy)
theorem Great07_i {h : H} {v : Sl} {l : List ActT} (A : Arr h v eAct l) (hl : l.length ≤ 9223372036854775807) {m : Int} {Q : Bool → HProp} (hQ : Q (decide (m < l.length) || !(l.all fewA)) h) : law07_Great (v, m) Q h := by
  unfold law07_Great
  have hlen := A.len
  simp only [ltI_eq, hlen]
  refine ite_i (fun e => ?_) fun e => ?_
  · rw [e, Bool.true_or] at hQ; exact hQ
  rw [e, Bool.false_or] at hQ
  refine loop_i (fun (s : Int) h' => h' = h ∧ ∃ j : Nat, s = j ∧ j ≤ l.length ∧ (l.take j).all fewA = true) (fun s => (l.length - s).toNat) ⟨rfl, 0, rfl, by omega, rfl⟩ ?_
  rintro s h' ⟨rfl, j, rfl, hj, hall⟩ k hk
  refine ite_i (fun e => ?_) fun e => ?_
  · have hlt : j < l.length := by have := of_decide_eq_true e; omega
    refine with_b (!fewA l[j]) (fun k2 hk2 => ?_) ?_
    · refine A.act hlt (i := 1) rfl fun a ha => loadS_i (n := l[j].nm) ha ?_
      unfold fewA at hk2
      refine ite_i (fun e1 => ?_) fun e1 => ?_
      · have e1 := of_decide_eq_true e1
        rw [decide_eq_false (by omega : ¬ l[j].nm.size ≤ 40), Bool.false_and] at hk2
        exact hk2
      · have e1 := of_decide_eq_false e1
        rw [decide_eq_true (by omega : l[j].nm.size ≤ 40), Bool.true_and] at hk2
        refine A.act hlt (i := 3) rfl fun a ha => loadS_i (n := l[j].d) ha ?_
        have : decide ((400 : Int) < (l[j].d.size : Nat)) = !decide (l[j].d.size ≤ 400) := by
          by_cases h4 : l[j].d.size ≤ 400
          · rw [decide_eq_true h4, decide_eq_false (by omega)]; rfl
          · rw [decide_eq_false h4, decide_eq_true (by omega)]; rfl
        rw [this]; exact hk2
    refine ite_i (fun e1 => ?_) fun e1 => ?_
    · have hno : l.all fewA = false := by
        cases e2 : l.all fewA with
        | false => rfl
        | true =>
          have := List.all_eq_true.1 e2 l[j] (List.getElem_mem hlt)
          rw [this] at e1; cases e1
      rw [hno] at hQ; exact hQ
    · rw [add_i64 (by omega) (by omega)]
      refine hk _ _ ⟨rfl, j + 1, by omega, by omega, ?_⟩ (by omega)
      rw [List.take_succ_eq_append_getElem hlt, List.all_append, hall]
      simpa using e1
  · have : ¬ j < l.length := by have := of_decide_eq_false e; omega
    rw [List.take_of_length_le (by omega)] at hall
    rw [hall] at hQ; exact hQ
theorem cnv9 {a : Int} (ha : 0 ≤ a ∧ a ≤ 255) : add IntKind.i64 1 (rem (cnv IntKind.i64 a) 9) = 1 + a % 9 := by
  rw [cnv_rem ha.1 (by omega) (by decide), add_i64 (by omega) (by omega)]
theorem Made_i {a : Int} (ha : 0 ≤ a ∧ a ≤ 255) {h : H} {Q : Option Addr → HProp} (hQ : ∀ S f c h', WW h' S f c (fs0 60) ⟨1 + a % 9, []⟩ 0 → Ext h h' → (∀ k, S k → h k = none) → Q (some (at0 c)) h') : law07_Made a Q h := by
  unfold law07_Made law07_Made_F
  simp only [eqI_eq]
  refine newF_i (fun hb => absurd hb (by decide)) fun _ _ S0 f h1 F1 n1 E1 => ?_
  refine ite_f (by rfl) (must_i (by decide) ?_)
  rw [cnv9 ha]
  have c0 := Int.emod_nonneg a (show (9 : Int) ≠ 0 by decide)
  have c1 := Int.emod_lt_of_pos a (show (0 : Int) < 9 by decide)
  refine newC_i F1 (fun hb => absurd hb (by omega)) fun _ _ S c h2 W2 K2 E2 => ite_f (by rfl) (hQ S f c h2 W2 (E1.trans E2) (new_own E1 n1 K2))
end Go.Cz.S
namespace Go.Cz.S
open Go Go.Cz Go.Cz.Crc
set_option maxRecDepth 100000
set_option maxHeartbeats 4000000
set_option linter.unusedSimpArgs false
set_option linter.unusedVariables false
theorem _root_.Go.Cz.Arr.ld5 {h : H} {v : Sl} {l : List ActT} (A : Arr h v eAct l) {j : Nat} (hj : j < l.length) {K : Int → ByteArray → Int → ByteArray → Int → HProp} (hK : K l[j].k l[j].nm l[j].i l[j].d l[j].x h) :
    indexW (j : Int) v 5 (fun a => loadI .u8 (a.add 0) fun x => loadS (a.add 1) fun x1 => loadI .i64 (a.add 2) fun x2 => loadS (a.add 3) fun x3 => loadI .u8 (a.add 4) fun x4 => K x x1 x2 x3 x4) h :=
  A.index (by omega) (by omega) fun a ha =>
    have c : ∀ (i : Nat) (y : Value), (eAct.f l[j])[i]? = some y → h.cell? (a.add i) = some y := fun i y hy => A.cell (E := eAct) (i := j) (j := i) (x := l[j]) (by simpa [eAct] using ha) (List.getElem?_eq_getElem hj) hy
    loadI_i (c 0 _ rfl) (loadS_i (c 1 _ rfl) (loadI_i (c 2 _ rfl) (loadS_i (c 3 _ rfl) (loadI_i (c 4 _ rfl) hK))))
def hereB : ByteArray := ⟨#[104, 101, 114, 101]⟩
theorem here_ok : okName hereB = true := by decide +kernel
theorem BuildPins_holds (z : ByteArray) (v : Sl) (l : List ActT) (a b : Int) (h : H) (A : Arr h v eAct l) (hok : ∀ x ∈ l, OkAct x) (hvl : l.length ≤ 9223372036854775807) (ha : 0 ≤ a ∧ a ≤ 255) (hb : 0 ≤ b ∧ b ≤ 255) : law12_BuildPins (z, v, a, b) (fun r _ => r = true) h := by
  unfold law12_BuildPins law12_BuildPins_F
  have hlen := A.len
  simp only [eqI_eq, ltI_eq, leI_eq, eqS_eq, hlen, show (ByteArray.mk #[104, 101, 114, 101]) = hereB from rfl]
  refine with_b (decide (1000 < z.size) || (decide (30 < l.length) || !(l.all fewA))) (fun k hk => ?_) ?_
  · refine ite_i (fun e => ?_) fun e => ?_
    · rw [decide_eq_true (by have := of_decide_eq_true e; omega : 1000 < z.size), Bool.true_or] at hk; exact hk
    · rw [decide_eq_false (by have := of_decide_eq_false e; omega : ¬ 1000 < z.size), Bool.false_or] at hk
      refine Great07_i A hvl ?_
      have : decide ((30 : Int) < (l.length : Nat)) = decide (30 < l.length) := decide_eq_decide.2 (by omega)
      rw [this]; exact hk
  refine ite_i (fun _ => by trivial) fun e => ?_
  simp only [Bool.or_eq_false_iff, decide_eq_false_iff_not, Bool.not_eq_false'] at e
  obtain ⟨hz, hl, hf⟩ := e
  refine ite_t (by decide) (ite_t (by decide) (Made_i ha fun S0 f c h1 W1 E1 hS1 => ?_))
  refine ite_f (isNilP_some _) ?_
  have AO := Arr.off A E1 hS1
  have c0 := Int.emod_nonneg a (show (9 : Int) ≠ 0 by decide)
  have c1 := Int.emod_lt_of_pos a (show (0 : Int) < 9 by decide)
  refine loop_i (fun (s : Int) h' => ∃ (j : Nat) (S : Nat → Prop) (σ : FSt) (κ : CSt), s = j ∧ j ≤ l.length ∧ WW h' S f c σ κ (j : Int) ∧ κ.most = 1 + a % 9 ∧ Off S h' v eAct l) (fun s => (l.length - s).toNat)
    ⟨0, S0, _, _, rfl, by omega, W1, rfl, AO⟩ ?_
  rintro s h2 ⟨j, S2, σ, κ, rfl, hj, W2, hm2, A2⟩ k hk
  refine ite_i (fun e => ?_) fun e => ?_
  · have hlt : j < l.length := by have := of_decide_eq_true e; omega
    have ok := hok _ (List.getElem_mem hlt)
    have few := List.all_eq_true.1 hf _ (List.getElem_mem hlt)
    refine A2.1.ld5 hlt (Done_i W2 (by omega) ok few fun S3 h3 W3 K3 => ?_)
    rw [add_i64 (by omega) (by omega)]
    refine hk _ h3 ⟨j + 1, S3, _, _, by omega, by omega, by rw [show ((j + 1 : Nat) : Int) = (j : Int) + 1 by omega]; exact W3, ?_, A2.kp K3⟩ (by omega)
    rw [← hm2]
    exact done_most σ κ l[j]
  · refine Drop_i W2 fun S3 h3 W3 K3 => ?_
    have hno := drop_no κ hereB
    have hm3 : (dropC κ hereB).most = 1 + a % 9 := hm2
    change WW h3 S3 f c σ (dropC κ hereB) _ at W3
    generalize dropC κ hereB = κ3 at *
    refine Pinned_i W3 fun h4 E4 => ?_
    have W4 := W3.ext E4
    refine W4.cfs (pages_Split_spec (by omega) fun u h5 V5 nw5 E5 => ?_)
    have W5 := W4.ext E5
    have hsp := (split_cnt z).2
    refine WriteW_i W5 (by decide) V5.arr (by omega) fun S6 h6 W6 K6 => ?_
    have ew := write_does (σ := σ) (nm := hereB) here_ok (splitP_128 (d := z))
    by_cases hroom : (σ.used : Int) - (σ.rows hereB).length + (splitP z).length > σ.room
    · rw [if_pos hroom] at ew
      rw [ew]
      exact ite_t (by rfl) (with_u (ite_t (by rfl) (does12_i fun _ => by trivial)))
    rw [if_neg hroom] at ew
    rw [ew] at W6 ⊢
    refine ite_f (by rfl) (ite_t (by decide) (ite_t (by decide) (must_i (by decide) (W6.cfs ?_))))
    have b0 := Int.emod_nonneg b (show (12 : Int) ≠ 0 by decide)
    have b1 := Int.emod_lt_of_pos b (show (0 : Int) < 12 by decide)
    rw [cnv_rem hb.1 (by omega) (by decide)]
    have hG : GoodF σ := by obtain ⟨Sf, F, _⟩ := W5.fs; exact F.good
    have hrow : (σ.set hereB (splitP z)).rows hereB = splitP z := by rw [set_rows hG, if_pos rfl]
    have J6 := W6.js (nm := hereB) hno
    dsimp only at W6 J6
    generalize σ.set hereB (splitP z) = σ6 at *
    refine FailW_i W6 (by omega) fun S7 h7 W7 K7 => ?_
    rw [fail_ok b0] at W7
    have J7 : Js { σ6 with left := b % 12 } κ3 hereB := J6.left fun _ => rfl
    obtain ⟨σ8, κ8, z8, e8, ef8, J8, m8, p8, r8, c8⟩ := file_any J7 hrow
    refine File_i W7 (by omega) fun S8 h8 W8 K8 hz8 => ?_
    rw [ef8] at W8 ⊢
    dsimp only at W8 ⊢
    have hp8 : κ8.pinned = κ3.pinned := by rw [pinL_len, pinL_len, p8]
    refine with_i (fun (r : Bool) h' => r = false ∧ Ext h8 h') (fun k2 hk2 => ?_) ?_
    · refine Pinned_i W8 fun h9 E9 => ?_
      rw [hp8]
      have hk2 := hk2 false h9 ⟨rfl, E9⟩
      refine ite_f (by simp) ?_
      rcases c8 with ⟨rfl, rfl⟩ | ⟨rfl, rfl, _, _⟩ | ⟨rfl, rfl, _⟩
      · exact ite_t (by rfl) (ite_f (by simp) (ite_f (by rfl) hk2))
      · exact ite_f (by rfl) (ite_t (by rfl) (ite_f (by rfl) (ite_f (by rfl) hk2)))
      · exact ite_f (by rfl) (ite_t (by rfl) (ite_f (by rfl) (ite_t (by rfl) hk2)))
    rintro r h9 ⟨rfl, E9⟩
    have W9 := W8.ext E9
    refine ite_f (by rfl) (W9.cfs (FailW_i W9 (by decide) fun S10 h10 W10 K10 => ?_))
    rw [fail_ok (by decide)] at W10
    have J10 : Js { σ8 with left := 1099511627776 } κ8 hereB := J8.left fun _ => rfl
    obtain ⟨σ11, κ11, z11, e11, ef11, J11, m11, p11, r11, c11⟩ := file_any J10 (d := z) (by show σ8.rows hereB = _; rw [r8]; exact hrow)
    refine File_i W10 (by omega) fun S11 h11 W11 K11 hz11 => ?_
    rw [ef11] at W11 ⊢
    dsimp only at W11 ⊢
    have hp11 : κ11.pinned = κ3.pinned := by rw [pinL_len, p11, ← pinL_len, hp8]
    refine ite_t (by decide) (ite_t (by decide) (must_i (by decide) (with_u ?_)))
    have fin : ∀ h', Ext h11 h' → ∀ Q : Bool → HProp, (∀ h', Q true h') → iteW (decide (((κ11.pinned : Nat) : Int) = ((κ3.pinned : Nat) : Int))) (law12_does () Q) (Q false) h' := fun h' _ Q hQ => ite_t (by rw [hp11]; simp) (does12_i hQ)
    rcases c11 with ⟨rfl, rfl⟩ | ⟨rfl, rfl, _, hbad⟩ | ⟨rfl, rfl, hfull⟩
    · exact ite_t (by rfl) (ite_t (by simp) (Pinned_i W11 fun h12 E12 => fin h12 E12 _ fun _ => by trivial))
    · dsimp only at hbad; omega
    · refine ite_f (by rfl) (ite_t (by rfl) (ite_t ?_ (Pinned_i W11 fun h12 E12 => fin h12 E12 _ fun _ => by trivial)))
      rw [cnv9 ha]
      refine decide_eq_true ?_
      rw [← hp8, hfull, m8, hm3]
where
  done_most (σ : FSt) (κ : CSt) (a : ActT) : (doneF σ κ a).2.1.most = κ.most := by
    have hadd : ∀ x : Frm, (κ.add x).most = κ.most := fun x => rfl
    have huse : ∀ nm i g, (κ.use nm i g).most = κ.most := fun nm i g => by unfold CSt.use; split <;> rfl
    have hget : ∀ g, (getC σ κ a.nm a.i g).2.1.most = κ.most := fun g => by
      unfold getC
      cases κ.get a.nm a.i with
      | some x => exact huse _ _ _
      | none =>
        simp only []
        split
        · rfl
        · generalize σ.read a.nm a.i = rd
          obtain ⟨f', p, e⟩ := rd
          simp only []
          split
          · rfl
          · cases decP p <;> rfl
    unfold doneF
    split
    · exact hget _
    split
    · unfold unpinC
      cases κ.get a.nm a.i with
      | none => rfl
      | some x => simp only []; split <;> rfl
    split
    · show (putC σ κ a.nm a.i a.d).2.1.most = _
      unfold putC
      split
      · rfl
      split
      · rfl
      · generalize σ.put a.nm a.i (pageB a.d) = rd
        obtain ⟨f', e⟩ := rd
        simp only []
        split
        · rfl
        · cases κ.get a.nm a.i with
          | none => rfl
          | some x => exact huse _ _ _
    split
    · rfl
    split
    · rfl
    split
    · rfl
    split
    · rfl
    split
    · rfl
    · exact hget _
end Go.Cz.S
namespace Go.Cz.S
open Go Go.Cz Go.Cz.Crc
set_option maxRecDepth 100000
set_option maxHeartbeats 4000000
set_option linter.unusedSimpArgs false
set_option linter.unusedVariables false
end Go.Cz.S
namespace Go.Cz
open Go
theorem RdL_cons {h : H} {x : Lf} {r : List Lf} {v : SV} {us : List SV} : RdL h (x :: r) (v :: us) ↔ Rd h x v ∧ RdL h r us := by
  simp only [RdL]
  constructor
  · rintro ⟨_, _, e, h1, h2⟩; cases e; exact ⟨h1, h2⟩
  · rintro ⟨h1, h2⟩; exact ⟨_, _, rfl, h1, h2⟩
theorem Rd.int {h : H} {k : IntKind} {n : Int} (hr : Rd h (.i k) (.i k n)) : (Lit.int k n).wf = true := by
  simp only [Rd] at hr
  obtain ⟨m, e, hw⟩ := hr
  cases e; exact hw
theorem Rd.u8 {h : H} {n : Int} (hr : Rd h (.i .u8) (.i .u8 n)) : 0 ≤ n ∧ n ≤ 255 := bounds_u8 hr.int
theorem Rd.arr {α : Type} {h : H} {e : List Lf} {v : Sl} {E : Enc α} (P : α → Prop) (hr : Rd h (.sl e) (.sl v)) (hw : e.length = E.w)
    (dec : ∀ r, RdL h e (r.map SV.ofA) → ∃ x, E.f x = r ∧ P x) : ∃ l, Arr h v E l ∧ (∀ x ∈ l, P x) ∧ v.cap ≤ maxLen := by
  simp only [Rd] at hr
  obtain ⟨u, eq, h1, h2, h3, rows, h4, h5, h6⟩ := hr
  cases eq
  have ex : ∀ rows : List (List Value), (∀ r ∈ rows, RdL h e (r.map SV.ofA)) → ∃ l : List α, l.map E.f = rows ∧ ∀ x ∈ l, P x := by
    intro rows
    induction rows with
    | nil => intro _; exact ⟨[], rfl, by simp⟩
    | cons r rs ih =>
      intro hh
      obtain ⟨x, hx, hp⟩ := dec r (hh r (by simp))
      obtain ⟨l, hl, hq⟩ := ih (fun r hr => hh r (by simp [hr]))
      refine ⟨x :: l, by simp [hx, hl], ?_⟩
      intro y hy
      rcases List.mem_cons.1 hy with rfl | hy
      · exact hp
      · exact hq y hy
  obtain ⟨l, hl, hp⟩ := ex rows h6
  have hlen : l.length = v.len := by rw [← h4, ← hl]; simp
  refine ⟨l, ⟨hlen.symm, h1, h3, fun a ha hne => ?_⟩, hp, h2⟩
  rw [hw] at h5
  unfold H.row? at h5
  have hpos : 0 < l.length := List.length_pos_iff.2 hne
  have := Nat.mul_pos hpos E.pos
  rw [← hlen, if_neg (by omega), ha] at h5
  simp only at h5
  split at h5
  · rename_i c wr hb
    split at h5
    · cases h5
    · rename_i hs
      split at h5
      · rename_i hle
        refine ⟨by cases hq : a.spot <;> simp_all, c, wr, hb, hle, ?_⟩
        have := Option.some.inj h5
        rw [this, ← hl, Enc.all, List.flatMap]
      · cases h5
  · cases h5
theorem RdL_one {h : H} {x : Lf} {r : List Value} (hr : RdL h [x] (r.map SV.ofA)) : ∃ v, r = [v] ∧ Rd h x (SV.ofA v) := by
  cases r with
  | nil => simp [RdL] at hr
  | cons v r =>
    simp only [List.map_cons] at hr
    obtain ⟨h1, h2⟩ := RdL_cons.1 hr
    cases r with
    | nil => exact ⟨v, rfl, h1⟩
    | cons w r => simp [RdL] at h2
theorem RdL_more {h : H} {x : Lf} {l : List Lf} {r : List Value} (hr : RdL h (x :: l) (r.map SV.ofA)) : ∃ v s, r = v :: s ∧ Rd h x (SV.ofA v) ∧ RdL h l (s.map SV.ofA) := by
  cases r with
  | nil => simp [RdL] at hr
  | cons v r =>
    simp only [List.map_cons] at hr
    obtain ⟨h1, h2⟩ := RdL_cons.1 hr
    exact ⟨v, r, rfl, h1, h2⟩
theorem ofA_int {h : H} {k : IntKind} {v : Value} (hr : Rd h (.i k) (SV.ofA v)) : ∃ n, v = .int k n ∧ (Lit.int k n).wf = true := by
  simp only [Rd] at hr
  obtain ⟨n, e, hw⟩ := hr
  refine ⟨n, ?_, hw⟩
  cases v <;> simp [SV.ofA] at e
  obtain ⟨rfl, rfl⟩ := e; rfl
theorem ofA_str {h : H} {v : Value} (hr : Rd h .s (SV.ofA v)) : ∃ z, v = .string z ∧ z.size ≤ maxLen := by
  simp only [Rd] at hr
  obtain ⟨n, e, hw⟩ := hr
  refine ⟨n, ?_, hw⟩
  cases v <;> simp [SV.ofA] at e
  rw [e]
end Go.Cz
namespace Go.Cz.S
open Go Go.Cz
theorem acts {h : H} {v : Sl} (hr : Rd h (.sl [.i .u8, .s, .i .i64, .s, .i .u8]) (.sl v)) : ∃ l, Arr h v eAct l ∧ (∀ x ∈ l, OkAct x) ∧ l.length ≤ 9223372036854775807 := by
  obtain ⟨l, A, hp, hc⟩ := hr.arr (E := eAct) OkAct rfl fun r hr => by
    obtain ⟨v0, s0, rfl, h0, k0⟩ := RdL_more hr
    obtain ⟨v1, s1, rfl, h1, k1⟩ := RdL_more k0
    obtain ⟨v2, s2, rfl, h2, k2⟩ := RdL_more k1
    obtain ⟨v3, s3, rfl, h3, k3⟩ := RdL_more k2
    obtain ⟨v4, rfl, h4⟩ := RdL_one k3
    obtain ⟨n0, rfl, w0⟩ := ofA_int h0
    obtain ⟨z1, rfl, _⟩ := ofA_str h1
    obtain ⟨n2, rfl, w2⟩ := ofA_int h2
    obtain ⟨z3, rfl, _⟩ := ofA_str h3
    obtain ⟨n4, rfl, w4⟩ := ofA_int h4
    exact ⟨⟨n0, z1, n2, z3, n4⟩, rfl, bounds_u8 w0, bounds_i64 w2, bounds_u8 w4⟩
  refine ⟨l, A, hp, ?_⟩
  have h1 := A.len
  have h2 := A.le
  have h3 : maxLen = 9223372036854775807 := rfl
  omega
theorem law12_BuildPins_row (h : H) (t : ByteArray × Sl × Int × Int) (hr : RdL h [.s, .sl [.i .u8, .s, .i .i64, .s, .i .u8], .i .u8, .i .u8] [.s t.1, .sl t.2.1, .i .u8 t.2.2.1, .i .u8 t.2.2.2]) : law12_BuildPins t (fun r _ => r = true) h := by
  obtain ⟨_, hr⟩ := RdL_cons.1 hr
  obtain ⟨r1, hr⟩ := RdL_cons.1 hr
  obtain ⟨r2, hr⟩ := RdL_cons.1 hr
  obtain ⟨r3, _⟩ := RdL_cons.1 hr
  obtain ⟨l, A, ok, hl⟩ := acts r1
  exact BuildPins_holds t.1 t.2.1 l t.2.2.1 t.2.2.2 h A ok hl r2.u8 r3.u8
end Go.Cz.S
