/- Part of the proof of a law of 22: an engine that runs a function over an abstract heap, and what the functions compute; own work. -/
import Derived.Test.YtgfncopifhnkcaaD22
import Derived.Test.YtgfncopifhnkcaaU32
set_option linter.unusedVariables false
set_option linter.unusedSimpArgs false
set_option linter.unusedSectionVars false
/- Chapter 22: what the functions of the rounds compute, and the laws. -/
namespace Go.Cz.S
open Go Go.Cz Go.Cz.Crc
set_option maxRecDepth 10000

theorem mulb2 {a b A B : Int} (h0 : 0 ≤ a) (h1 : a ≤ A) (h2 : 0 ≤ b) (h3 : b ≤ B) : 0 ≤ a * b ∧ a * b ≤ A * B :=
  ⟨Int.mul_nonneg h0 h2, Int.mul_le_mul h1 h3 h2 (Int.le_trans h0 h1)⟩
/-! ## how many bits -/
def pc (m : R) : Nat → Nat
  | 0 => 0
  | n + 1 => pc m n + (if m.getLsbD n then 1 else 0)
theorem pc_le (m : R) : ∀ n, pc m n ≤ n
  | 0 => Nat.le_refl _
  | n + 1 => by have := pc_le m n; simp only [pc]; split <;> omega
theorem pc_zero : ∀ n, pc 0#32 n = 0
  | 0 => rfl
  | n + 1 => by simp [pc, pc_zero n]
theorem pc_set (m : R) (k : Nat) (hk : k < 32) (hm : m.getLsbD k = false) : ∀ n, pc (m ||| (1#32 <<< k)) n = pc m n + (if k < n then 1 else 0)
  | 0 => by simp [pc]
  | n + 1 => by
    simp only [pc]
    rw [pc_set m k hk hm n]
    have e : (m ||| (1#32 <<< k)).getLsbD n = (m.getLsbD n || decide (n = k)) := by
      rw [BitVec.getLsbD_or, BitVec.getLsbD_shiftLeft, BitVec.getLsbD_one]
      by_cases h : n = k
      · subst h; simp [hk]
      · by_cases h2 : n < k
        · simp [h, h2]
        · simp [h, show n - k ≠ 0 by omega]
    rw [e]
    by_cases h : n = k
    · subst h; rw [hm]; simp
    · have : decide (n = k) = false := decide_eq_false h
      rw [this, Bool.or_false]
      by_cases h2 : k < n
      · have h3 : k < n + 1 := by omega
        simp only [h2, h3, if_true]; omega
      · have h3 : ¬ k < n + 1 := by omega
        simp only [h2, h3, if_false]; omega
theorem pc_full {m : R} : ∀ {n : Nat}, pc m n = n → ∀ k, k < n → m.getLsbD k = true
  | 0, _, k, hk => by omega
  | n + 1, h, k, hk => by
    simp only [pc] at h
    have := pc_le m n
    by_cases e : k = n
    · subst e
      cases hm : m.getLsbD k
      · rw [hm] at h; simp at h; omega
      · rfl
    · exact pc_full (n := n) (by split at h <;> omega) k (by omega)
theorem pc_ext (m : R) (n : Nat) (hm : ∀ k, n ≤ k → m.getLsbD k = false) : ∀ j, pc m (n + j) = pc m n
  | 0 => rfl
  | j + 1 => by
    have : pc m (n + (j + 1)) = pc m (n + j) + (if m.getLsbD (n + j) then 1 else 0) := rfl
    rw [this, pc_ext m n hm j, hm _ (by omega)]
    simp

def tab : ByteArray := ByteArray.mk
        (([0, 1, 1, 2, 1, 2, 2, 3, 1, 2, 2, 3, 2, 3, 3, 4, 1, 2, 2, 3, 2, 3, 3, 4, 2, 3, 3, 4, 3, 4, 4, 5, 1, 2, 2, 3,
                    2, 3, 3, 4, 2, 3, 3, 4, 3, 4, 4, 5, 2, 3, 3, 4, 3, 4, 4, 5, 3, 4, 4, 5, 4, 5, 5, 6].append
                [1, 2, 2, 3, 2, 3, 3, 4, 2, 3, 3, 4, 3, 4, 4, 5, 2, 3, 3, 4, 3, 4, 4, 5, 3, 4, 4, 5, 4, 5, 5, 6, 2, 3,
                  3, 4, 3, 4, 4, 5, 3, 4, 4, 5, 4, 5, 5, 6, 3, 4, 4, 5, 4, 5, 5, 6, 4, 5, 5, 6, 5, 6, 6, 7]).append
            ([1, 2, 2, 3, 2, 3, 3, 4, 2, 3, 3, 4, 3, 4, 4, 5, 2, 3, 3, 4, 3, 4, 4, 5, 3, 4, 4, 5, 4, 5, 5, 6, 2, 3, 3,
                  4, 3, 4, 4, 5, 3, 4, 4, 5, 4, 5, 5, 6, 3, 4, 4, 5, 4, 5, 5, 6, 4, 5, 5, 6, 5, 6, 6, 7].append
              [2, 3, 3, 4, 3, 4, 4, 5, 3, 4, 4, 5, 4, 5, 5, 6, 3, 4, 4, 5, 4, 5, 5, 6, 4, 5, 5, 6, 5, 6, 6, 7, 3, 4, 4,
                5, 4, 5, 5, 6, 4, 5, 5, 6, 5, 6, 6, 7, 4, 5, 5, 6, 5, 6, 6, 7, 5, 6, 6, 7, 6, 7, 7, 8])).toArray
theorem tab_at : ∀ x : Fin 256, ((tab.data.toList[x.val]?).map UInt8.toNat) = some (pc (BitVec.ofNat 32 x.val) 8) := by decide +kernel
theorem tab_byte (x : R) (hx : x.toNat < 256) : ∃ c : UInt8, tab.data.toList[(N x).toNat]? = some c ∧ c.toNat = pc x 8 := by
  have h := tab_at ⟨x.toNat, hx⟩
  simp only at h
  have e : (N x).toNat = x.toNat := by unfold N; simp
  rw [e]
  cases hc : tab.data.toList[x.toNat]? with
  | none => rw [hc] at h; cases h
  | some c =>
    rw [hc] at h
    refine ⟨c, rfl, ?_⟩
    have := Option.some.inj h
    rw [this]
    congr 1
    exact BitVec.ofNat_toNat 32 x
theorem low8 (x : R) (i : Nat) : ((x &&& 255#32).getLsbD i) = (x.getLsbD i && decide (i < 8)) := by
  rw [BitVec.getLsbD_and]
  congr 1
  by_cases h : i < 32
  · have : ∀ i : Fin 32, (255#32).getLsbD i.val = decide (i.val < 8) := by decide
    exact this ⟨i, h⟩
  · rw [BitVec.getLsbD_of_ge _ _ (by omega)]; simp; omega
theorem low8_lt (x : R) : (x &&& 255#32).toNat < 256 := by
  rw [BitVec.toNat_and]
  have : (255#32).toNat = 2 ^ 8 - 1 := by decide
  rw [this, Nat.and_two_pow_sub_one_eq_mod]
  omega
theorem pc32 (m : R) : pc m 32 = pc (m >>> 24) 8 + pc ((m >>> 16) &&& 255#32) 8 + pc ((m >>> 8) &&& 255#32) 8 + pc (m &&& 255#32) 8 := by
  simp only [pc, low8, BitVec.getLsbD_ushiftRight]
  simp
  omega
theorem OnesCount_spec {m : R} {h : H} {Q : Int → HProp} (hQ : Q (pc m 32 : Int) h) : math_bits_OnesCount32 (N m) Q h := by
  unfold math_bits_OnesCount32
  have s24 : shr .u32 (N m) 24 = N (m >>> 24) := shr_N m 24 (by decide)
  have s16 : andI .u32 (shr .u32 (N m) 16) 255 = N ((m >>> 16) &&& 255#32) := by
    rw [show shr .u32 (N m) 16 = N (m >>> 16) from shr_N m 16 (by decide)]; exact and_N _ 255#32
  have s8 : andI .u32 (shr .u32 (N m) 8) 255 = N ((m >>> 8) &&& 255#32) := by
    rw [show shr .u32 (N m) 8 = N (m >>> 8) from shr_N m 8 (by decide)]; exact and_N _ 255#32
  have s0 : andI .u32 (N m) 255 = N (m &&& 255#32) := and_N _ 255#32
  rw [s24, s16, s8, s0]
  have h24 : (m >>> 24).toNat < 256 := by
    rw [BitVec.toNat_ushiftRight, Nat.shiftRight_eq_div_pow]
    have := m.isLt; omega
  obtain ⟨c3, e3, p3⟩ := tab_byte _ h24
  obtain ⟨c2, e2, p2⟩ := tab_byte _ (low8_lt (m >>> 16))
  obtain ⟨c1, e1, p1⟩ := tab_byte _ (low8_lt (m >>> 8))
  obtain ⟨c0, e0, p0⟩ := tab_byte _ (low8_lt m)
  have b3 := pc_le (m >>> 24) 8
  have b2 := pc_le ((m >>> 16) &&& 255#32) 8
  have b1 := pc_le ((m >>> 8) &&& 255#32) 8
  have b0 := pc_le (m &&& 255#32) 8
  refine must_i (by decide) (byte_i (z := tab) (N_bd _).1 e3 ?_)
  refine must_i (by decide) (byte_i (z := tab) (N_bd _).1 e2 ?_)
  refine must_i (by decide) (byte_i (z := tab) (N_bd _).1 e1 ?_)
  refine byte_i (z := tab) (N_bd _).1 e0 ?_
  rw [p3, p2, p1, p0]
  have w8 : ∀ n : Int, 0 ≤ n → n ≤ 255 → IntKind.u8.wrap n = n := by intro n h0 h1; simp [IntKind.wrap, IntKind.bits, IntKind.signed]; omega
  have a1 : ∀ a b : Nat, a + b ≤ 255 → add .u8 (a : Int) (b : Int) = ((a + b : Nat) : Int) := by intro a b h; unfold add; rw [w8 _ (by omega) (by omega)]; omega
  rw [a1 _ _ (by omega), a1 _ _ (by omega), a1 _ _ (by omega), cnv_i64 (by omega) (by omega), ← pc32]
  exact hQ

/-! ## the cover -/
def cov (n r : Int) (m : R) : List Value := [.int .i64 n, .int .i64 r, .int .u32 (N m)]
section
variable {h : H} {b : Nat} {n r : Int} {m : R}
theorem none_spec {Q : Bool → HProp} (o : Obj h b (cov n r m)) (hQ : Q (decide (n = 0)) h) : rounds_Cover_none (some (at0 b)) Q h := by
  unfold rounds_Cover_none
  refine with_u (ite_f (isNilP_some _) (deref_i (loadI_i (o.ld rfl) ?_)))
  rw [eqI_eq]; exact hQ
theorem none_nil {Q : Bool → HProp} (hQ : Q true h) : rounds_Cover_none none Q h := by
  unfold rounds_Cover_none
  exact with_u (ite_t isNilP_none hQ)
theorem Left_spec {Q : Int → HProp} (o : Obj h b (cov n r m)) (h0 : 1 ≤ n) (h1 : n ≤ 16) (hQ : Q (n - (pc m 32 : Int)) h) : rounds_Cover_Left (some (at0 b)) Q h := by
  unfold rounds_Cover_Left
  refine none_spec o (ite_f (by simp; omega) (deref_i (loadI_i (o.ld rfl) (deref_i (loadI_i (o.ld rfl) (OnesCount_spec ?_))))))
  refine keeps1 (o.ld rfl) ?_
  have := pc_le m 32
  rw [sub_i64 (by omega) (by omega)]; exact hQ
theorem Round_spec {Q : Int → HProp} (o : Obj h b (cov n r m)) (h0 : 1 ≤ n) (hQ : Q r h) : rounds_Cover_Round (some (at0 b)) Q h := by
  unfold rounds_Cover_Round
  exact none_spec o (ite_f (by simp; omega) (deref_i (loadI_i (o.ld rfl) hQ)))
def hasB (m : R) (n k : Int) : Bool := decide (0 ≤ k ∧ k < n) && m.getLsbD k.toNat
theorem Has_spec {k : Int} {Q : Bool → HProp} (o : Obj h b (cov n r m)) (h0 : 1 ≤ n) (h1 : n ≤ 16) (hQ : Q (hasB m n k) h) : rounds_Cover_Has (some (at0 b), k) Q h := by
  unfold rounds_Cover_Has
  refine with_b (hasB m n k) (fun k2 hk2 => ?_) hQ
  refine none_spec o (ite_t (by simp; omega) ?_)
  simp only [leI_eq, ltI_eq]
  refine ite_i (fun e => ?_) (fun e => ?_)
  · have e := of_decide_eq_true e
    refine deref_i (loadI_i (o.ld rfl) (ite_i (fun e2 => ?_) (fun e2 => ?_)))
    · have e2 := of_decide_eq_true e2
      refine deref_i (loadI_i (o.ld rfl) (must_i e ?_))
      have e3 : shr .u32 (N m) k = N (m >>> k.toNat) := by
        rw [show k = ((k.toNat : Nat) : Int) by omega]; exact shr_N _ _ (by omega)
      have e4 : andI .u32 (N (m >>> k.toNat)) 1 = N ((m >>> k.toNat) &&& 1#32) := and_N _ 1#32
      rw [e3, e4, show (1 : Int) = N 1#32 from rfl, eqN, and1]
      have e5 : hasB m n k = decide ((if (m >>> k.toNat).getLsbD 0 then 1#32 else 0#32) = 1#32) := by
        unfold hasB
        rw [decide_eq_true ⟨e, e2⟩, BitVec.getLsbD_ushiftRight, Nat.add_zero]
        cases m.getLsbD k.toNat <;> simp
      rw [← e5]; exact hk2
    · have e2 := of_decide_eq_false e2
      unfold hasB at hk2
      rw [decide_eq_false (by omega)] at hk2; exact hk2
  · have e := of_decide_eq_false e
    unfold hasB at hk2
    rw [decide_eq_false (by omega)] at hk2; exact hk2
theorem Take_spec {k : Int} {Q : Int → HProp} (o : Obj h b (cov n r m)) (h0 : 1 ≤ n) (h1 : n ≤ 16)
    (ha : ¬ (0 ≤ k ∧ k < n) → Q 2 h) (hb : 0 ≤ k → k < n → m.getLsbD k.toNat = true → Q 4 h)
    (hc : 0 ≤ k → k < n → m.getLsbD k.toNat = false → ∀ h', Obj h' b (cov n r (m ||| (1#32 <<< k.toNat))) → Fr (fun x => x = b) h h' → Q 0 h') : rounds_Cover_Take (some (at0 b), k) Q h := by
  unfold rounds_Cover_Take
  refine none_spec o (ite_f (by simp; omega) ?_)
  simp only [leI_eq, ltI_eq]
  refine with_b (decide (¬ (0 ≤ k ∧ k < n))) (fun k2 hk2 => ?_) ?_
  · refine ite_i (fun e => ?_) (fun e => deref_i (loadI_i (o.ld rfl) ?_))
    · have e := of_decide_eq_true e
      rw [decide_eq_true (by omega)] at hk2; exact hk2
    · have e := of_decide_eq_false e
      rw [show decide (n ≤ k) = decide (¬ (0 ≤ k ∧ k < n)) by rw [decide_eq_decide]; omega]; exact hk2
  refine ite_i (fun e => ha (of_decide_eq_true e)) (fun e => ?_)
  have e := of_decide_eq_false e
  have k0 : 0 ≤ k ∧ k < n := by omega
  refine Has_spec o h0 h1 ?_
  have eh : hasB m n k = m.getLsbD k.toNat := by unfold hasB; rw [decide_eq_true k0]; rfl
  rw [eh]
  refine ite_i (fun e2 => hb k0.1 k0.2 e2) (fun e2 => ?_)
  refine deref_i (loadI_i (o.ld rfl) (must_i k0.1 (deref_i ?_)))
  have e3 : shl .u32 1 k = N (1#32 <<< k.toNat) := by
    conv => lhs; rw [show k = ((k.toNat : Nat) : Int) by omega]
    exact shln_N 1#32 _ (by omega)
  rw [e3, or_N]
  exact o.st (by show 2 < 3; decide) (hc k0.1 k0.2 e2)
theorem Next_spec {Q : Int → HProp} (o : Obj h b (cov n r m)) (h0 : 1 ≤ n) (h1 : n ≤ 16) (r0 : 0 ≤ r) (r1 : r ≤ 1000000)
    (ha : (pc m 32 : Int) < n → Q 271 h) (hb : n ≤ (pc m 32 : Int) → ∀ h', Obj h' b (cov n (r + 1) 0#32) → Fr (fun x => x = b) h h' → Q 0 h') : rounds_Cover_Next (some (at0 b)) Q h := by
  unfold rounds_Cover_Next
  refine none_spec o (ite_f (by simp; omega) (Left_spec o h0 h1 ?_))
  simp only [ltI_eq]
  refine ite_i (fun e => ha (by have := of_decide_eq_true e; omega)) (fun e => ?_)
  have e := of_decide_eq_false e
  refine deref_i (o.st (v := .int .u32 0) (by show 2 < 3; decide) fun h' o' f => ?_)
  refine deref_i (loadI_i (o'.ld rfl) (deref_i ?_))
  rw [add_i64 (by omega) (by omega)]
  exact o'.st (by show 1 < 3; decide) fun h'' o'' f' => hb (by omega) h'' o'' (f.trans f')
theorem New_spec {s : Int} {Q : Option Addr × Int → HProp} (ha : ¬ (1 ≤ s ∧ s ≤ 16) → Q (none, 2) h) (hb : 1 ≤ s → s ≤ 16 → ∀ b h', Obj h' b (cov s 0 0#32) → h b = none → Ext h h' → Q (some (at0 b), 0) h') : rounds_New s Q h := by
  unfold rounds_New
  simp only [ltI_eq]
  refine with_b (decide (¬ (1 ≤ s ∧ s ≤ 16))) (fun k2 hk2 => ?_) ?_
  · refine ite_i (fun e => ?_) (fun e => ?_)
    · have e := of_decide_eq_true e
      rw [decide_eq_true (by omega)] at hk2; exact hk2
    · have e := of_decide_eq_false e
      rw [show decide (16 < s) = decide (¬ (1 ≤ s ∧ s ≤ 16)) by rw [decide_eq_decide]; omega]; exact hk2
  refine ite_i (fun e => ha (of_decide_eq_true e)) (fun e => ?_)
  have e := of_decide_eq_false e
  exact Obj.new fun b h' o hn hx => hb (by omega) (by omega) b h' o hn hx
end
theorem goes_spec {h : H} {Q : Bool → HProp} (hQ : ∀ h', Ext h h' → Q true h') : law22_goes () Q h := by
  unfold law22_goes
  refine New_spec (fun e => absurd ⟨by decide, by decide⟩ e) (fun _ _ b h1 o1 n1 x1 => ?_)
  refine New_spec (fun _ => ?_) (fun e => absurd e (by decide))
  refine New_spec (fun _ => ?_) (fun _ e => absurd e (by decide))
  have fin : ∀ {h2 : H}, Fr (fun x => x = b) h1 h2 → Ext h h2 := fun f => x1.of_new f (fun k e => by subst e; exact n1)
  refine with_i (fun t h2 => t = false ∧ Obj h2 b (cov 2 1 0#32) ∧ Ext h h2) (fun k hk => ?_) ?_
  · simp only [eqI_eq]
    refine ite_f (by decide) (ite_f (by decide) (ite_f (by decide) ?_))
    refine Take_spec o1 (by decide) (by decide) (fun e => absurd ⟨by decide, by decide⟩ e) (fun _ _ e => absurd e (by decide)) (fun _ _ _ h2 o2 f2 => ite_f (by decide) ?_)
    refine Take_spec o2 (by decide) (by decide) (fun e => absurd ⟨by decide, by decide⟩ e) (fun _ _ _ => ite_f (by decide) ?_) (fun _ _ e => absurd e (by decide))
    refine Next_spec o2 (by decide) (by decide) (by decide) (by decide) (fun _ => ite_f (by decide) ?_) (fun e => absurd e (by decide))
    refine Take_spec o2 (by decide) (by decide) (fun e => absurd ⟨by decide, by decide⟩ e) (fun _ _ e => absurd e (by decide)) (fun _ _ _ h3 o3 f3 => ite_f (by decide) ?_)
    refine Next_spec o3 (by decide) (by decide) (by decide) (by decide) (fun e => absurd e (by decide)) (fun _ h4 o4 f4 => ?_)
    exact hk _ _ ⟨by decide, o4, fin ((f2.trans f3).trans f4)⟩
  · rintro t h2 ⟨rfl, o, x⟩
    refine ite_f rfl ?_
    refine with_b true (fun k hk => ?_) (hQ h2 x)
    simp only [eqI_eq]
    exact Round_spec o (by decide) (ite_t (by decide) (Left_spec o (by decide) (by decide) (by simpa [pc_zero] using hk)))

/-! ## the document's cover -/
def rcov (n r : Int) (v : Sl) : List Value := [.int .i64 n, .int .i64 r, .slice v.a v.len v.cap]
section
variable {h0 h : H} {b : Nat} {n r : Int} {v : Sl} {L : List Int}
theorem refNew_spec {s : Int} {Q : Option Addr × Int → HProp} (ha : ¬ (1 ≤ s ∧ s ≤ 16) → Q (none, 2) h) (hb : 1 ≤ s → s ≤ 16 → ∀ b h', Obj h' b (rcov s 0 ⟨none, 0, 0⟩) → h b = none → Ext h h' → Q (some (at0 b), 0) h') : ref22_New s Q h := by
  unfold ref22_New
  simp only [ltI_eq]
  refine with_b (decide (¬ (1 ≤ s ∧ s ≤ 16))) (fun k2 hk2 => ?_) ?_
  · refine ite_i (fun e => ?_) (fun e => ?_)
    · have e := of_decide_eq_true e
      rw [decide_eq_true (by omega)] at hk2; exact hk2
    · have e := of_decide_eq_false e
      rw [show decide (16 < s) = decide (¬ (1 ≤ s ∧ s ≤ 16)) by rw [decide_eq_decide]; omega]; exact hk2
  refine ite_i (fun e => ha (of_decide_eq_true e)) (fun e => ?_)
  have e := of_decide_eq_false e
  exact Obj.new fun b h' o hn hx => hb (by omega) (by omega) b h' o hn hx
theorem refHas_spec {k : Int} {Q : Bool → HProp} (o : Obj h b (rcov n r v)) (V : Vec h v (eI .i64) L) (hl : L.length ≤ 1000000) (hQ : Q (decide (k ∈ L)) h) : ref22_Cover_Has (some (at0 b), k) Q h := by
  unfold ref22_Cover_Has
  have hv := V.len
  refine loop_i (fun (i : Int) h2 => 0 ≤ i ∧ i ≤ L.length ∧ h2 = h ∧ ∀ j, j < i.toNat → L[j]? ≠ some k) (fun i => (L.length - i).toNat) ⟨Int.le_refl _, by omega, rfl, by simp⟩ ?_
  rintro i h2 ⟨i0, i1, rfl, hj⟩ k2 hk2
  refine deref_i (loadL_i (o.ld rfl) ?_)
  simp only [ltI_eq, eqI_eq]
  refine ite_i (fun e => ?_) (fun e => ?_)
  · have e := of_decide_eq_true e
    have hi : i.toNat < L.length := by omega
    have hx : L[i.toNat]? = some L[i.toNat] := List.getElem?_eq_getElem hi
    refine deref_i (loadL_i (o.ld rfl) (V.arr.index i0 (by omega) fun q hq => ?_))
    have hc := V.arr.cell (j := 0) hq hx rfl
    rw [add0] at hc
    refine loadI_i hc (ite_i (fun e2 => ?_) (fun e2 => ?_))
    · have e2 := of_decide_eq_true e2
      rw [decide_eq_true (by rw [← e2]; exact List.getElem_mem hi)] at hQ; exact hQ
    · have e2 := of_decide_eq_false e2
      rw [add_i64 (by omega) (by omega)]
      refine hk2 _ _ ⟨by omega, by omega, rfl, fun j hj2 => ?_⟩ (by omega)
      by_cases e3 : j = i.toNat
      · subst e3; rw [hx]; simpa using e2
      · exact hj j (by omega)
  · have e := of_decide_eq_false e
    rw [decide_eq_false (by
      intro hm
      obtain ⟨j, hj2⟩ := List.mem_iff_getElem?.1 hm
      exact hj j (by have := (List.getElem?_eq_some_iff.1 hj2).1; omega) hj2)] at hQ
    exact hQ
theorem refTake_spec {k : Int} {Q : Int → HProp} (o : Obj h b (rcov n r v)) (V : Vec h v (eI .i64) L) (hv : ¬ v.on b) (hl : L.length ≤ 1000000) (hx : Ext h0 h) (nv : New h0 v) (nb : h0 b = none)
    (ha : ¬ (0 ≤ k ∧ k < n) → Q 2 h) (hb : 0 ≤ k → k < n → k ∈ L → Q 4 h)
    (hc : 0 ≤ k → k < n → k ∉ L → ∀ u h', Obj h' b (rcov n r u) → Vec h' u (eI .i64) (L ++ [k]) → ¬ u.on b → Ext h0 h' → New h0 u → Fr (fun x => v.on x ∨ x = b) h h' → (∀ x, u.on x → v.on x ∨ h x = none) → Q 0 h') : ref22_Cover_Take (some (at0 b), k) Q h := by
  unfold ref22_Cover_Take
  simp only [leI_eq, ltI_eq]
  refine with_b (decide (¬ (0 ≤ k ∧ k < n))) (fun k2 hk2 => ?_) ?_
  · refine ite_i (fun e => ?_) (fun e => deref_i (loadI_i (o.ld rfl) ?_))
    · have e := of_decide_eq_true e
      rw [decide_eq_true (by omega)] at hk2; exact hk2
    · have e := of_decide_eq_false e
      rw [show decide (n ≤ k) = decide (¬ (0 ≤ k ∧ k < n)) by rw [decide_eq_decide]; omega]; exact hk2
  refine ite_i (fun e => ha (of_decide_eq_true e)) (fun e => ?_)
  have e := of_decide_eq_false e
  have k0 : 0 ≤ k ∧ k < n := by omega
  refine refHas_spec o V hl (ite_i (fun e2 => hb k0.1 k0.2 (of_decide_eq_true e2)) (fun e2 => ?_))
  have e2 := of_decide_eq_false e2
  refine deref_i (loadL_i (o.ld rfl) ?_)
  refine V.append_new hx nv (m := [k]) rfl rfl rfl (by omega) (fun u h1 U x1 n1 f1 hu => ?_)
  have o1 := o.fr f1 hv
  have ub : ¬ u.on b := by
    intro h
    rcases hu b h with h | h
    · exact hv h
    · unfold Obj at o; rw [h] at o; cases o
  refine deref_i (o1.st (by show 2 < 3; decide) fun h2 o2 f2 => ?_)
  refine hc k0.1 k0.2 e2 u h2 o2 (U.fr f2 fun x hx e => by subst e; exact ub hx) ub (x1.of_new f2 fun x e => by subst e; exact nb) n1 ?_ hu
  intro x q hx hn
  exact f2 x q (f1 x q hx fun h => hn (.inl h)) (fun h => hn (.inr h))
theorem refNext_spec {Q : Int → HProp} (o : Obj h b (rcov n r v)) (V : Vec h v (eI .i64) L) (r0 : 0 ≤ r) (r1 : r ≤ 1000000)
    (ha : (L.length : Int) < n → Q 271 h) (hb : n ≤ L.length → ∀ h', Obj h' b (rcov n (r + 1) ⟨none, 0, 0⟩) → Fr (fun x => x = b) h h' → Q 0 h') : ref22_Cover_Next (some (at0 b)) Q h := by
  unfold ref22_Cover_Next
  have hv := V.len
  refine deref_i (loadL_i (o.ld rfl) (deref_i (loadI_i (o.ld rfl) ?_)))
  simp only [ltI_eq]
  refine ite_i (fun e => ha (by have := of_decide_eq_true e; omega)) (fun e => ?_)
  have e := of_decide_eq_false e
  refine deref_i (o.st (by show 2 < 3; decide) fun h' o' f => ?_)
  refine deref_i (loadI_i (o'.ld rfl) (deref_i ?_))
  rw [add_i64 (by omega) (by omega)]
  exact o'.st (by show 1 < 3; decide) fun h'' o'' f' => hb (by omega) h'' o'' (f.trans f')
end

theorem nilOn {n c b : Nat} : ¬ (⟨none, n, c⟩ : Sl).on b := by rintro ⟨_, h, _⟩; cases h
/-! ## the laws -/
theorem or_get {m : R} {k : Nat} (hk : k < 32) (j : Nat) : (m ||| (1#32 <<< k)).getLsbD j = (m.getLsbD j || decide (j = k)) := by
  rw [BitVec.getLsbD_or, BitVec.getLsbD_shiftLeft, BitVec.getLsbD_one]
  by_cases h : j = k
  · subst h; simp [hk]
  · by_cases h2 : j < k
    · simp [h, h2]
    · simp [h, show j - k ≠ 0 by omega]
/-- the register has what the list has -/
structure Link (m : R) (n : Int) (L : List Int) : Prop where
  len : pc m 32 = L.length
  mem : ∀ j : Nat, m.getLsbD j = decide ((j : Int) ∈ L)
  bd : ∀ k ∈ L, 0 ≤ k ∧ k < n
theorem Link.zero (n : Int) : Link 0#32 n [] := ⟨pc_zero 32, fun j => by simp, by simp⟩
theorem Link.has {m : R} {n k : Int} {L : List Int} (l : Link m n L) : hasB m n k = decide (k ∈ L) := by
  unfold hasB
  by_cases hk : 0 ≤ k ∧ k < n
  · rw [decide_eq_true hk, Bool.true_and, l.mem]
    rw [show ((k.toNat : Nat) : Int) = k by omega]
  · rw [decide_eq_false hk, decide_eq_false (fun hm => hk (l.bd k hm))]; rfl
theorem Link.take {m : R} {n k : Int} {L : List Int} (l : Link m n L) (k0 : 0 ≤ k) (k1 : k < n) (hn : n ≤ 16) (hm : m.getLsbD k.toNat = false) : Link (m ||| (1#32 <<< k.toNat)) n (L ++ [k]) := by
  refine ⟨?_, fun j => ?_, fun q hq => ?_⟩
  · rw [pc_set m _ (by omega) hm, if_pos (by omega), l.len]; simp
  · rw [or_get (by omega), l.mem]
    simp only [List.mem_append, List.mem_singleton, Bool.decide_or]
    congr 1
    rw [decide_eq_decide]; omega
  · rcases List.mem_append.1 hq with h | h
    · exact l.bd q h
    · simp at h; subst h; exact ⟨k0, k1⟩
theorem Link.small {m : R} {n : Int} {L : List Int} (l : Link m n L) : L.length ≤ 32 := by rw [← l.len]; exact pc_le m 32

theorem RoundsPlay_holds (n : Int) (a : Sl) (l : List Int) (h0 : H) (A : Arr h0 a (eI .i64) l) : law22_RoundsPlay (n, a) (fun r _ => r = true) h0 := by
  unfold law22_RoundsPlay
  have la := A.len
  have fin : ∀ h1 : H, law22_goes () (fun r _ => r = true) h1 := fun h1 => goes_spec fun h' _ => rfl
  simp only [ltI_eq, eqI_eq]
  refine ite_i (fun _ => fin _) (fun e => ?_)
  have e := of_decide_eq_false e
  refine New_spec (fun e1 => ?_) (fun n0 n1 b h1 o1 nb1 x1 => ?_)
  · refine refNew_spec (fun _ => ?_) (fun e2 e3 => absurd ⟨e2, e3⟩ e1)
    refine with_b false (fun k hk => ite_f rfl (by simp only [isNilP_none, isNilP_some]; exact hk)) (ite_f rfl ?_)
    refine loop_i (fun (i : Int) h2 => i = 0) (fun i => 0) rfl ?_
    rintro i h2 rfl k hk
    refine with_b false (fun k2 hk2 => ?_) (ite_f rfl (fin _))
    exact ite_i (fun _ => by simp only [isNilP_none]; exact hk2) (fun _ => hk2)
  · refine refNew_spec (fun e2 => absurd ⟨n0, n1⟩ e2) (fun _ _ b2 h2 o2 nb2 x2 => ?_)
    refine with_b false (fun k hk => ite_f rfl (by simp only [isNilP_none, isNilP_some]; exact hk)) (ite_f rfl ?_)
    have hb : b ≠ b2 := by rintro rfl; unfold Obj at o1; rw [nb2] at o1; cases o1
    refine loop_i (fun (i : Int) h3 => 0 ≤ i ∧ i ≤ l.length ∧ ∃ r m v L, 0 ≤ r ∧ r ≤ i ∧ Link m n L ∧ Obj h3 b (cov n r m) ∧ Obj h3 b2 (rcov n r v) ∧ Vec h3 v (eI .i64) L ∧ ¬ v.on b ∧ ¬ v.on b2 ∧ New h0 v ∧ Ext h0 h3) (fun i => (l.length - i).toNat)
      ⟨Int.le_refl _, by omega, 0, 0#32, ⟨none, 0, 0⟩, [], Int.le_refl _, Int.le_refl _, Link.zero n, o1.ext x2, o2, Vec.nil0, nilOn, nilOn, New.nil0, x1.trans x2⟩ ?_
    rintro i h3 ⟨i0, i1, r, m, v, L, r0, r1, lk, ob, ob2, V, vb, vb2, nv, x3⟩ k hk
    have nb : h0 b = none := nb1
    have nb2' : h0 b2 = none := x1.none nb2
    have sm := lk.small
    have hll : (a.len : Int) ≤ 300 := by omega
    refine with_b (decide (i < l.length)) (fun k2 hk2 => ?_) ?_
    · refine ite_i (fun e => ?_) (fun e => ?_)
      · rw [show (decide (i < (l.length : Int))) = true from decide_eq_true (by have := of_decide_eq_true e; omega)] at hk2
        rw [isNilP_some]; exact hk2
      · rw [show (decide (i < (l.length : Int))) = false from decide_eq_false (by have := of_decide_eq_false e; omega)] at hk2; exact hk2
    refine ite_i (fun e => ?_) (fun _ => fin _)
    have e := of_decide_eq_true e
    have hi : i.toNat < l.length := by omega
    have hx : l[i.toNat]? = some l[i.toNat] := List.getElem?_eq_getElem hi
    generalize hq : l[i.toNat] = q at hx
    have rd : ∀ {h4 : H}, Ext h0 h4 → ∀ {K : Int → HProp} {P : Addr → Prop}, (∀ p, h4.cell? p = some (.int .i64 q) → K q h4) → indexW i a 1 (fun p => loadI .i64 p K) h4 := by
      intro h4 x4 K P hK
      refine (A.ext x4).index i0 (by omega) fun p hp => ?_
      have hc := (A.ext x4).cell (j := 0) hp hx rfl
      rw [add0] at hc
      exact loadI_i hc (hK p hc)
    -- the act
    refine with_i (fun (t : Int × Int) h4 => t.1 = t.2 ∧ ∃ r m v L, 0 ≤ r ∧ r ≤ i + 1 ∧ Link m n L ∧ Obj h4 b (cov n r m) ∧ Obj h4 b2 (rcov n r v) ∧ Vec h4 v (eI .i64) L ∧ ¬ v.on b ∧ ¬ v.on b2 ∧ New h0 v ∧ Ext h0 h4) (fun k2 hk2 => ?_) ?_
    · refine rd (P := fun _ => True) x3 fun p _ => ?_
      refine ite_i (fun e2 => ?_) (fun e2 => ?_)
      · refine Next_spec ob n0 n1 r0 (by omega) (fun e3 => ?_) (fun e3 h4 o4 f4 => ?_)
        · refine refNext_spec ob2 V r0 (by omega) (fun _ => ?_) (fun e4 => by have := lk.len; omega)
          exact hk2 _ _ ⟨rfl, r, m, v, L, r0, by omega, lk, ob, ob2, V, vb, vb2, nv, x3⟩
        · have x4 := x3.of_new f4 (fun x e => by subst e; exact nb)
          refine refNext_spec (ob2.fr f4 (fun h => hb h.symm)) (V.fr f4 fun x hx e => by subst e; exact vb hx) r0 (by omega) (fun e4 => by have := lk.len; omega) (fun _ h5 o5 f5 => ?_)
          have x5 := x4.of_new f5 (fun x e => by subst e; exact nb2')
          exact hk2 _ _ ⟨rfl, r + 1, 0#32, ⟨none, 0, 0⟩, [], by omega, by omega, Link.zero n, o4.fr f5 hb, o5, Vec.nil0, nilOn, nilOn, New.nil0, x5⟩
      · refine rd (P := fun _ => True) x3 fun p _ => ?_
        refine (A.ext x3).index i0 (by omega) fun p hp => ?_
        have hc := (A.ext x3).cell (j := 0) hp hx rfl
        rw [add0] at hc
        refine loadI_i hc ?_
        have hpb : ∀ {h4 : H}, Ext h0 h4 → h4.cell? p = some (.int .i64 q) := by
          intro h4 x4
          have hc := (A.ext x4).cell (j := 0) hp hx rfl
          rw [add0] at hc
          exact hc
        refine Take_spec ob n0 n1 (fun e3 => ?_) (fun k0 k1 e3 => ?_) (fun k0 k1 e3 h4 o4 f4 => ?_)
        · refine keeps1 hc (refTake_spec ob2 V vb2 (by omega) x3 nv nb2' (fun _ => ?_) (fun e4 e5 => absurd ⟨e4, e5⟩ e3) (fun e4 e5 => absurd ⟨e4, e5⟩ e3))
          exact hk2 _ _ ⟨rfl, r, m, v, L, r0, by omega, lk, ob, ob2, V, vb, vb2, nv, x3⟩
        · have hm : q ∈ L := by
            have := lk.mem q.toNat
            rw [e3, show ((q.toNat : Nat) : Int) = q by omega] at this
            exact of_decide_eq_true this.symm
          refine keeps1 hc (refTake_spec ob2 V vb2 (by omega) x3 nv nb2' (fun e4 => absurd ⟨k0, k1⟩ e4) (fun _ _ _ => ?_) (fun _ _ e4 => absurd hm e4))
          exact hk2 _ _ ⟨rfl, r, m, v, L, r0, by omega, lk, ob, ob2, V, vb, vb2, nv, x3⟩
        · have hm : q ∉ L := by
            have := lk.mem q.toNat
            rw [e3, show ((q.toNat : Nat) : Int) = q by omega] at this
            exact of_decide_eq_false this.symm
          have x4 := x3.of_new f4 (fun x e => by subst e; exact nb)
          refine keeps1 (hpb x4) (refTake_spec (ob2.fr f4 (fun h => hb h.symm)) (V.fr f4 fun x hx e => by subst e; exact vb hx) vb2 (by omega) x4 nv nb2' (fun e4 => absurd ⟨k0, k1⟩ e4) (fun _ _ e4 => absurd e4 hm) (fun _ _ _ u h5 o5 U ub2 x5 nu f5 hu => ?_))
          have ub : ¬ u.on b := by
            intro h
            rcases hu b h with h | h
            · exact vb h
            · have o4' := o4; unfold Obj at o4'; rw [h] at o4'; cases o4'
          exact hk2 _ _ ⟨rfl, r, _, u, L ++ [q], r0, by omega, lk.take k0 k1 n1 e3, o4.fr f5 (fun h => h.elim (fun h => vb h) (fun h => hb h)), o5, U, ub, ub2, nu, x5⟩
    -- what the cover tells
    rintro ⟨t1, t2⟩ h4 ⟨et, r', m', v', L', r0', r1', lk', ob', ob2', V', vb', vb2', nv', x4⟩
    simp only at et
    subst et
    have sm' := lk'.small
    have hv' := V'.len
    refine with_b false (fun k2 hk2 => ?_) ?_
    · refine ite_f (by simp) ?_
      refine deref_i (loadL_i (ob2'.ld rfl) (Left_spec ob' n0 n1 (keeps1 (ob2'.ld rfl) (ite_f ?_ ?_))))
      · have := lk'.len
        rw [sub_i64 (by omega) (by omega), hv', this]; simp
      refine deref_i (loadI_i (ob2'.ld rfl) (Round_spec ob' n0 (keeps1 (ob2'.ld rfl) (ite_f (by simp) ?_))))
      refine rd (P := fun _ => True) x4 fun p _ => ?_
      refine (A.ext x4).index i0 (by omega) fun p hp => ?_
      have hc := (A.ext x4).cell (j := 0) hp hx rfl
      rw [add0] at hc
      refine loadI_i hc (Has_spec ob' n0 n1 (keeps1 hc (refHas_spec ob2' V' (by omega) ?_)))
      rw [lk'.has]
      simpa using hk2
    refine ite_f rfl ?_
    rw [add_i64 (by omega) (by omega)]
    exact hk _ _ ⟨by omega, by omega, r', m', v', L', r0', r1', lk', ob', ob2', V', vb', vb2', nv', x4⟩ (by omega)

theorem nil_none {h : H} {p : Option Addr} {Q : Bool → HProp} (hp : p = none ∨ ∃ b, p = some (at0 b) ∧ Obj h b (cov 0 0 0#32)) (hQ : Q true h) : rounds_Cover_none p Q h := by
  rcases hp with rfl | ⟨b, rfl, o⟩
  · exact none_nil hQ
  · exact none_spec o hQ
def eAd : Enc (Option Addr) := ⟨1, fun p => [.pointer p], fun _ => rfl, fun n v hv => by simp at hv; subst hv; trivial, Nat.one_pos⟩
theorem RoundsNone_holds (k : Int) (h0 : H) : law22_RoundsNone k (fun r _ => r = true) h0 := by
  unfold law22_RoundsNone
  refine Obj.new fun b h1 o1 n1 x1 => ?_
  refine new_i (E := eAd) (l := [none, some (at0 b)]) rfl rfl fun b2 h2 V2 _ x2 => ?_
  have o2 := o1.ext x2
  simp only [ltI_eq, eqI_eq]
  refine loop_i (fun (i : Int) h3 => 0 ≤ i ∧ i ≤ 2 ∧ h3 = h2) (fun i => (2 - i).toNat) ⟨Int.le_refl _, by decide, rfl⟩ ?_
  rintro i h3 ⟨i0, i1, rfl⟩ k2 hk2
  refine ite_i (fun e => ?_) (fun _ => goes_spec fun _ _ => rfl)
  have e : i < 2 := of_decide_eq_true e
  have hx : ∃ p, ([none, some (at0 b)] : List (Option Addr))[i.toNat]? = some p ∧ (p = none ∨ ∃ b, p = some (at0 b) ∧ Obj h3 b (cov 0 0 0#32)) := by
    have : i.toNat = 0 ∨ i.toNat = 1 := by omega
    rcases this with h | h <;> rw [h]
    · exact ⟨none, rfl, .inl rfl⟩
    · exact ⟨_, rfl, .inr ⟨b, rfl, o2⟩⟩
  obtain ⟨p, hx, hp⟩ := hx
  refine V2.arr.index i0 (by show i < 2; exact e) fun q hq => ?_
  have hc := V2.arr.cell (j := 0) hq hx rfl
  rw [add0] at hc
  refine loadP_i hc ?_
  refine with_b false (fun k3 hk3 => ?_) ?_
  · unfold rounds_Cover_Take
    refine nil_none hp (ite_t rfl (ite_f (by decide) ?_))
    unfold rounds_Cover_Next
    refine nil_none hp (ite_t rfl (ite_f (by decide) ?_))
    unfold rounds_Cover_Has
    refine with_u (nil_none hp (ite_f rfl (ite_f rfl ?_)))
    unfold rounds_Cover_Left
    refine nil_none hp (ite_t rfl (ite_f (by decide) ?_))
    unfold rounds_Cover_Round
    exact nil_none hp (ite_t rfl hk3)
  refine ite_f rfl ?_
  rw [add_i64 (by omega) (by omega)]
  exact hk2 _ _ ⟨by omega, by omega, rfl⟩ (by omega)

def bits (m : R) (n : Nat) : List Bool := (List.range n).map fun k => m.getLsbD k
theorem bits_get {m : R} {n k : Nat} (h : k < n) : (bits m n)[k]? = some (m.getLsbD k) := by simp [bits, List.getElem?_range h]
theorem bits_set {m : R} {n k : Nat} (h : k < n) (hn : n ≤ 16) : (bits m n).set k true = bits (m ||| (1#32 <<< k)) n := by
  apply List.ext_getElem?
  intro j
  by_cases hj : j < n
  · rw [bits_get hj, or_get (by omega)]
    by_cases e : j = k
    · subst e; rw [List.getElem?_set_self (by simpa [bits] using h)]; simp
    · rw [List.getElem?_set_ne (fun h => e h.symm), bits_get hj]; simp [e]
  · rw [List.getElem?_eq_none (by simp [bits]; omega), List.getElem?_eq_none (by simp [bits]; omega)]
theorem bits_zero (n : Nat) : List.replicate n false = bits 0#32 n := by
  apply List.ext_getElem?
  intro j
  by_cases hj : j < n
  · rw [bits_get hj]; simp [hj]
  · rw [List.getElem?_eq_none (by simp; omega), List.getElem?_eq_none (by simp [bits]; omega)]
theorem pc_bd {m : R} {n : Nat} (hn : n ≤ 32) (hm : ∀ k, n ≤ k → m.getLsbD k = false) : pc m 32 = pc m n := by
  have := pc_ext m n hm (32 - n)
  rw [show n + (32 - n) = 32 by omega] at this; exact this
theorem high_set {m : R} {n k : Nat} (hk : k < n) (hn : n ≤ 16) (hm : ∀ j, n ≤ j → m.getLsbD j = false) : ∀ j, n ≤ j → (m ||| (1#32 <<< k)).getLsbD j = false := by
  intro j hj
  rw [or_get (by omega), hm j hj, decide_eq_false (by omega)]; rfl

theorem RoundsWhole_holds (many : Int) (a : Sl) (l : List Int) (h0 : H) (A : Arr h0 a (eI .u8) l) (hz : ∀ z ∈ l, 0 ≤ z ∧ z ≤ 255) (m0 : 0 ≤ many) (m1 : many ≤ 255) : law22_RoundsWhole (many, a) (fun r _ => r = true) h0 := by
  unfold law22_RoundsWhole
  have la := A.len
  have fin : ∀ h1 : H, law22_goes () (fun r _ => r = true) h1 := fun h1 => goes_spec fun h' _ => rfl
  simp only [ltI_eq, eqI_eq, cnv_i64 (show -9223372036854775808 ≤ many by omega) (by omega), rem_nn m0]
  have e1 : add .i64 1 (many % 16) = 1 + many % 16 := add_i64 (by omega) (by omega)
  rw [e1]
  generalize hn : 1 + many % 16 = n
  have n0 : 1 ≤ n := by omega
  have n1 : n ≤ 16 := by omega
  refine ite_i (fun _ => fin _) (fun e => ?_)
  have e := of_decide_eq_false e
  refine must_i (by decide) (New_spec (fun e1 => absurd ⟨n0, n1⟩ e1) (fun _ _ b h1 o1 nb x1 => ?_))
  refine ite_f rfl ?_
  refine make_i (E := eB) (x0 := false) rfl (by omega) (Int.le_refl _) (by omega) (by omega) ?_
  intro v h2 V2 _ nv2 x2 _
  have nv : New h0 v := nv2.mono x1
  refine loop_i (fun (s : Sl × Int × Int × Int) h3 => 0 ≤ s.2.2.2 ∧ s.2.2.2 ≤ l.length ∧ 0 ≤ s.2.2.1 ∧ s.2.2.1 ≤ s.2.2.2 ∧ ∃ m, s.2.1 = n - (pc m 32 : Int) ∧ (∀ k, n.toNat ≤ k → m.getLsbD k = false) ∧ Obj h3 b (cov n s.2.2.1 m) ∧ Vec h3 s.1 eB (bits m n.toNat) ∧ ¬ s.1.on b ∧ New h0 s.1 ∧ Ext h0 h3) (fun s => (l.length - s.2.2.2).toNat)
    ⟨Int.le_refl _, by show (0 : Int) ≤ l.length; omega, Int.le_refl _, Int.le_refl _, 0#32, by show n = n - ((pc 0#32 32 : Nat) : Int); rw [pc_zero]; omega, by simp, o1.ext x2, by rw [bits_zero] at V2; exact V2, ?_, nv, x1.trans x2⟩ ?_
  · intro hv
    have := nv2 b hv
    unfold Obj at o1; rw [this] at o1; cases o1
  rintro ⟨v, left, done, i⟩ h3 ⟨i0, i1, d0, d1, m, hleft, hm, o3, V3, vb, nv, x3⟩ k hk
  simp only at i0 i1 d0 d1 hleft V3 vb nv
  dsimp only
  have hpc := pc_bd (m := m) (n := n.toNat) (by omega) hm
  have hpl := pc_le m n.toNat
  refine ite_i (fun e2 => ?_) (fun _ => fin _)
  have e2 := of_decide_eq_true e2
  have hi : i.toNat < l.length := by omega
  have hx : l[i.toNat]? = some l[i.toNat] := List.getElem?_eq_getElem hi
  have hzb := hz _ (List.getElem_mem hi)
  generalize l[i.toNat] = z at hx hzb
  refine (A.ext x3).index i0 (by omega) fun p hp => ?_
  have hc := (A.ext x3).cell (j := 0) hp hx rfl
  rw [add0] at hc
  refine loadI_i hc (must_i (by omega) ?_)
  rw [cnv_i64 (a := z) (by omega) (by omega), rem_nn hzb.1]
  have kr : 0 ≤ z % n ∧ z % n < n := ⟨Int.emod_nonneg _ (by omega), Int.emod_lt_of_pos _ (by omega)⟩
  generalize z % n = q at kr
  have hqn : q.toNat < n.toNat := by omega
  have hbl : (bits m n.toNat).length = n.toNat := by simp [bits]
  have hg := bits_get (m := m) hqn
  -- the last part, from what was taken
  have tail : ∀ (m' : R) (h4 : H) (left' : Int), left' = n - (pc m' 32 : Int) → (∀ k, n.toNat ≤ k → m'.getLsbD k = false) → Obj h4 b (cov n done m') → Vec h4 v eB (bits m' n.toNat) → Ext h0 h4 →
      (rounds_Cover_Next (some (at0 b)) fun (r_2 : Int) =>
        withK (fun (t_3 : Bool) => iteW t_3 (fun _ => false = true)
          (withK (fun (t : Sl × Int × Int) =>
              withK (fun (t_4 : Bool) => iteW t_4 (fun _ => false = true) (k (t.fst, t.snd.fst, t.snd.snd, add IntKind.i64 i 1)))
                fun (k : Bool → HProp) => rounds_Cover_Left (some (at0 b)) fun (r_3 : Int) => iteW (!decide (r_3 = t.snd.fst)) (k true) (rounds_Cover_Round (some (at0 b)) fun (r : Int) => k !decide (r = t.snd.snd)))
            fun (k : Sl × Int × Int → HProp) => iteW (decide (left' = 0))
              (makeW n n [Value.bool false] 1 fun (v : Sl) => k (v, n, add IntKind.i64 done 1)) (k (v, left', done))))
          fun (k : Bool → HProp) => iteW (!decide (r_2 = 0) == decide (left' = 0)) (k true) (iteW (!decide (r_2 = 0)) (k !decide (r_2 = 271)) (k false))) h4 := by
    intro m' h4 left' hl' hm' o4 V4 x4
    have hpc' := pc_bd (m := m') (n := n.toNat) (by omega) hm'
    have hpl' := pc_le m' n.toNat
    refine Next_spec o4 n0 n1 d0 (by omega) (fun e4 => ?_) (fun e4 h5 o5 f5 => ?_)
    · have hne : left' ≠ 0 := by omega
      refine with_b false (fun k2 hk2 => ?_) ?_
      · rw [decide_eq_false hne]
        exact ite_f (by decide) (ite_t (by decide) (by simpa using hk2))
      refine ite_f rfl ?_
      refine with_b (v, left', done) (fun k2 hk2 => ite_f (decide_eq_false hne) hk2) ?_
      refine with_b false (fun k2 hk2 => ?_) ?_
      · refine Left_spec o4 n0 n1 (ite_f (by simp [hl']) (Round_spec o4 n0 (by simpa using hk2)))
      refine ite_f rfl ?_
      rw [add_i64 (by omega) (by omega)]
      exact hk _ _ ⟨by show 0 ≤ i + 1; omega, by show i + 1 ≤ _; omega, d0, by show done ≤ i + 1; omega, m', hl', hm', o4, V4, vb, nv, x4⟩ (by show (l.length - (i + 1)).toNat < (l.length - i).toNat; omega)
    · have hz0 : left' = 0 := by omega
      refine with_b false (fun k2 hk2 => ?_) ?_
      · rw [decide_eq_true hz0]
        exact ite_f (by decide) (ite_f (by decide) hk2)
      refine ite_f rfl ?_
      have x5 := x4.of_new f5 (fun x e => by subst e; exact nb)
      refine with_i (fun (t : Sl × Int × Int) h6 => t.2 = (n, done + 1) ∧ Obj h6 b (cov n (done + 1) 0#32) ∧ Vec h6 t.1 eB (bits 0#32 n.toNat) ∧ ¬ t.1.on b ∧ New h0 t.1 ∧ Ext h0 h6) (fun k2 hk2 => ?_) ?_
      · refine ite_t (decide_eq_true hz0) ?_
        refine make_i (E := eB) (x0 := false) rfl (by omega) (Int.le_refl _) (by omega) (by omega) ?_
        intro u h6 U _ nu x6 _
        rw [add_i64 (by omega) (by omega)]
        rw [bits_zero] at U
        refine hk2 _ _ ⟨rfl, o5.ext x6, U, ?_, nu.mono x5, x5.trans x6⟩
        intro hu
        have := nu b hu
        have o5' := o5; unfold Obj at o5'; rw [this] at o5'; cases o5'
      rintro ⟨u, l2, d2⟩ h6 ⟨et, o6, U, ub, nu, x6⟩
      simp only [Prod.mk.injEq] at et
      obtain ⟨rfl, rfl⟩ := et
      simp only at U ub nu
      refine with_b false (fun k2 hk2 => ?_) ?_
      · refine Left_spec o6 n0 n1 (ite_f (by simp [pc_zero]) (Round_spec o6 n0 (by simpa using hk2)))
      refine ite_f rfl ?_
      rw [add_i64 (by omega) (by omega)]
      exact hk _ _ ⟨by show 0 ≤ i + 1; omega, by show i + 1 ≤ _; omega, by show 0 ≤ done + 1; omega, by show done + 1 ≤ i + 1; omega, 0#32, by show l2 = l2 - ((pc 0#32 32 : Nat) : Int); rw [pc_zero]; omega, by simp, o6, U, ub, nu, x6⟩ (by show (l.length - (i + 1)).toNat < (l.length - i).toNat; omega)
  refine Take_spec o3 n0 n1 (fun e3 => absurd kr e3) (fun _ _ e3 => ?_) (fun _ _ e3 h4 o4 f4 => ?_)
  · rw [e3] at hg
    have hcb : ∀ p, Slot v q.toNat 1 p → h3.cell? p = some (.bool true) := by
      intro p hp
      have := V3.arr.cell (j := 0) hp hg rfl
      rw [add0] at this; exact this
    refine with_b false (fun k2 hk2 => ?_) ?_
    · refine V3.arr.index kr.1 (by omega) fun p hp => loadB_i (hcb p hp) ?_
      exact ite_f (by decide) (ite_t (by decide) (by simpa using hk2))
    refine ite_f rfl ?_
    refine with_b left (fun k2 hk2 => ?_) ?_
    · exact V3.arr.index kr.1 (by omega) fun p hp => loadB_i (hcb p hp) (ite_f rfl hk2)
    exact tail m h3 left hleft hm o3 V3 x3
  · rw [e3] at hg
    have V4 := V3.fr f4 (fun x hx e => by subst e; exact vb hx)
    have x4 := x3.of_new f4 (fun x e => by subst e; exact nb)
    have hcb : ∀ p, Slot v q.toNat 1 p → h4.cell? p = some (.bool false) := by
      intro p hp
      have := V4.arr.cell (j := 0) hp hg rfl
      rw [add0] at this; exact this
    refine with_b false (fun k2 hk2 => ?_) ?_
    · refine V4.arr.index kr.1 (by omega) fun p hp => loadB_i (hcb p hp) ?_
      exact ite_f (by decide) (ite_f (by decide) hk2)
    refine ite_f rfl ?_
    have hp2 : pc (m ||| (1#32 <<< q.toNat)) 32 = pc m 32 + 1 := by rw [pc_set m _ (by omega) e3, if_pos (by omega)]
    refine with_i (fun (t : Int) h5 => t = left - 1 ∧ Obj h5 b (cov n done (m ||| (1#32 <<< q.toNat))) ∧ Vec h5 v eB (bits (m ||| (1#32 <<< q.toNat)) n.toNat) ∧ Ext h0 h5) (fun k2 hk2 => ?_) ?_
    · refine V4.arr.index kr.1 (by omega) fun p hp => loadB_i (hcb p hp) (ite_t rfl ?_)
      refine V4.arr.index kr.1 (by omega) fun p hp => ?_
      have := V4.store (K := k2 (sub .i64 left 1)) (j := 0) (x' := true) (y := .bool true) hp hg Nat.one_pos rfl
      rw [add0] at this
      refine this fun h5 V5 f5 => ?_
      rw [bits_set hqn (by omega)] at V5
      rw [sub_i64 (by omega) (by omega)]
      exact hk2 _ _ ⟨rfl, o4.fr f5 vb, V5, x4.of_new f5 nv⟩
    rintro t h5 ⟨rfl, o5, V5, x5⟩
    exact tail _ h5 _ (by omega) (high_set hqn (by omega) hm) o5 V5 x5

theorem mod_ne {f r t n : Nat} (h : t < r) (hr : r < n) : (f + t) % n ≠ (f + r) % n := by
  intro e
  have := Nat.sub_mod_eq_zero_of_mod_eq e.symm
  rw [show f + r - (f + t) = r - t by omega, Nat.mod_eq_of_lt (by omega)] at this
  omega
theorem RoundsRing_holds (many from_ times : Int) (h0 : H) (m0 : 0 ≤ many) (m1 : many ≤ 255) (f0 : 0 ≤ from_) (f1 : from_ ≤ 255) (t0 : 0 ≤ times) (t1 : times ≤ 255) : law22_RoundsRing (many, from_, times) (fun r _ => r = true) h0 := by
  unfold law22_RoundsRing
  simp only [ltI_eq, eqI_eq, cnv_i64 (show -9223372036854775808 ≤ many by omega) (by omega), cnv_i64 (show -9223372036854775808 ≤ from_ by omega) (by omega), cnv_i64 (show -9223372036854775808 ≤ times by omega) (by omega), rem_nn m0, rem_nn t0]
  have e1 : add .i64 1 (many % 16) = 1 + many % 16 := add_i64 (by omega) (by omega)
  rw [e1]
  generalize hn : 1 + many % 16 = n
  generalize hT : times % 21 = T
  have n0 : 1 ≤ n := by omega
  have n1 : n ≤ 16 := by omega
  have T0 : 0 ≤ T ∧ T ≤ 20 := by omega
  have hb := mulb2 (a := n) (b := T) (A := 16) (B := 20) (by omega) n1 T0.1 T0.2
  refine must_i (by decide) (New_spec (fun e1 => absurd ⟨n0, n1⟩ e1) (fun _ _ b h1 o1 nb x1 => ?_))
  refine ite_f rfl ?_
  rw [mul_i64 (by omega) (by omega), sub_i64 (a := n) (by omega) (by omega)]
  refine loop_i (fun (i : Int) h2 => 0 ≤ i ∧ i ≤ n * T ∧ ∃ (q r : Nat) (m : R), i = n * q + r ∧ (r : Int) < n ∧ pc m 32 = r ∧ (∀ k, m.getLsbD k = true ↔ ∃ t, t < r ∧ k = (from_.toNat + t) % n.toNat) ∧ Obj h2 b (cov n q m)) (fun i => (n * T - i).toNat)
    ⟨Int.le_refl _, hb.1, 0, 0, 0#32, by simp, by omega, pc_zero 32, by simp, o1⟩ ?_
  rintro i h2 ⟨i0, i1, q, r, m, hi, hr, hp, hm, o2⟩ k hk
  have hir : i % n = r := by rw [hi, Int.mul_add_emod_self_left, Int.emod_eq_of_lt (by omega) hr]
  refine must_i (by decide) (ite_i (fun e => ?_) (fun e => ?_))
  · have e := of_decide_eq_true e
    refine must_i (by omega) ?_
    rw [add_i64 (a := from_) (by omega) (by omega), rem_nn (show 0 ≤ from_ + i by omega), rem_nn i0, hir]
    have hk0 : (from_ + i) % n = (((from_.toNat + r) % n.toNat : Nat) : Int) := by
      rw [hi, show from_ + (n * q + r) = (from_ + r) + n * q by omega, Int.add_mul_emod_self_left]
      have e1 : from_ = ((from_.toNat : Nat) : Int) := by omega
      have e2 : n = ((n.toNat : Nat) : Int) := by omega
      conv => lhs; rw [e1, e2]
      norm_cast
    rw [hk0]
    have hlt : (from_.toNat + r) % n.toNat < n.toNat := Nat.mod_lt _ (by omega)
    generalize hK : (from_.toNat + r) % n.toNat = K at *
    have hmK : m.getLsbD K = false := by
      cases hc : m.getLsbD K with
      | false => rfl
      | true =>
        obtain ⟨t, ht, he⟩ := (hm K).1 hc
        rw [← hK] at he
        exact absurd he.symm (mod_ne ht (by omega))
    have qb : (q : Int) ≤ 320 := by
      have : (q : Int) * 1 ≤ q * n := Int.mul_le_mul_of_nonneg_left n0 (by omega)
      rw [Int.mul_comm (q : Int) n] at this
      omega
    have h0' : hasB m n (K : Int) = false := by unfold hasB; rw [Int.toNat_natCast, hmK]; simp
    have h1' : hasB (m ||| (1#32 <<< K)) n (K : Int) = true := by
      unfold hasB; rw [Int.toNat_natCast, or_get (by omega), decide_eq_true (⟨by omega, by omega⟩ : 0 ≤ (K : Int) ∧ (K : Int) < n)]; simp
    have hp2 : pc (m ||| (1#32 <<< K)) 32 = r + 1 := by rw [pc_set m _ (by omega) hmK, if_pos (by omega), hp]
    refine with_i (fun (t : Bool) h3 => t = false ∧ Obj h3 b (cov n q (m ||| (1#32 <<< K)))) (fun k2 hk2 => ?_) ?_
    · refine Has_spec o2 n0 n1 (ite_f h0' ?_)
      refine Take_spec o2 n0 n1 (fun e3 => absurd ⟨by omega, by omega⟩ e3) (fun _ _ e3 => by rw [Int.toNat_natCast, hmK] at e3; cases e3) (fun _ _ _ h3 o3 f3 => ite_f (by decide) ?_)
      rw [Int.toNat_natCast] at o3
      refine Has_spec o3 n0 n1 (ite_f (by rw [h1']; rfl) (must_i (by omega) (Left_spec o3 n0 n1 ?_)))
      rw [sub_i64 (by omega) (by omega), hp2]
      refine hk2 _ _ ⟨?_, o3⟩
      rw [Bool.not_eq_false', decide_eq_true_iff]; omega
    rintro t h3 ⟨rfl, o3⟩
    refine ite_f rfl ?_
    have hm2 : ∀ k, (m ||| (1#32 <<< K)).getLsbD k = true ↔ ∃ t, t < r + 1 ∧ k = (from_.toNat + t) % n.toNat := by
      intro k
      rw [or_get (by omega), Bool.or_eq_true, hm, decide_eq_true_iff]
      constructor
      · rintro (⟨t, ht, he⟩ | he)
        · exact ⟨t, by omega, he⟩
        · exact ⟨r, by omega, by rw [he, hK]⟩
      · rintro ⟨t, ht, he⟩
        by_cases e : t = r
        · subst e; exact .inr (by rw [he, hK])
        · exact .inl ⟨t, by omega, he⟩
    refine with_i (fun (t : Bool) h4 => t = false ∧ ∃ (q2 r2 : Nat) (m2 : R), i + 1 = n * q2 + r2 ∧ (r2 : Int) < n ∧ pc m2 32 = r2 ∧ (∀ k, m2.getLsbD k = true ↔ ∃ t, t < r2 ∧ k = (from_.toNat + t) % n.toNat) ∧ Obj h4 b (cov n q2 m2)) (fun k2 hk2 => ?_) ?_
    · refine must_i (by omega) (ite_i (fun e3 => ?_) (fun e3 => ?_))
      · have e3 := of_decide_eq_true e3
        refine Next_spec o3 n0 n1 (by omega) (by omega) (fun e4 => by omega) (fun _ h4 o4 f4 => ?_)
        refine hk2 _ _ ⟨rfl, q + 1, 0, 0#32, ?_, by omega, pc_zero 32, by simp, by simpa using o4⟩
        rw [hi]; simp only [Int.natCast_add, Int.mul_add]; omega
      · have e3 := of_decide_eq_false e3
        exact hk2 _ _ ⟨rfl, q, r + 1, _, by omega, by omega, hp2, hm2, o3⟩
    rintro t h4 ⟨rfl, q2, r2, m2, c1, c2, c3, c4, c5⟩
    refine ite_f rfl ?_
    rw [add_i64 (by omega) (by omega)]
    exact hk _ _ ⟨by omega, by omega, q2, r2, m2, c1, c2, c3, c4, c5⟩ (by omega)
  · have e := of_decide_eq_false e
    have hiT : i = n * T := by omega
    have hq : (q : Int) = T := by
      have h5 : n * (q : Int) + r = n * T := by rw [← hi]; exact hiT
      have h6 : (n * T) % n = 0 := Int.mul_emod_right n T
      rw [← hiT, hir] at h6
      have h7 : n * (q : Int) = n * T := by omega
      exact Int.eq_of_mul_eq_mul_left (by omega) h7
    refine with_i (fun r _ => r = true) (fun k hk => ?_) (fun _ _ e => e)
    refine Round_spec o2 n0 (must_i (by decide) (ite_t (decide_eq_true hq) (goes_spec fun h' _ => hk _ _ rfl)))
end Go.Cz.S
