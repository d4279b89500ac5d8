/- Part of the proof of a law of 03: an engine that runs a function over an abstract heap, and what the functions compute; own work. -/
import Derived.Test.YtbcijfhjbmlplaaD03
import Derived.Test.YtbcijfhjbmlplaaCrc
set_option linter.unusedVariables false
set_option linter.unusedSimpArgs false
set_option linter.unusedSectionVars false
/- Chapter 3: what the functions of the sums compute, and the laws. -/
namespace Go.Cz.S
open Go Go.Cz Go.Cz.Crc
set_option maxRecDepth 10000

def N (x : R) : Int := (x.toNat : Int)
theorem N_inj {a b : R} : N a = N b ↔ a = b := by
  unfold N
  constructor
  · intro h; apply BitVec.eq_of_toNat_eq; omega
  · rintro rfl; rfl
theorem N_bd (x : R) : 0 ≤ N x ∧ N x ≤ 4294967295 := by unfold N; have := x.isLt; omega
theorem N_of {a : Int} (h0 : 0 ≤ a) (h1 : a ≤ 4294967295) : ∃ x : R, a = N x := ⟨BitVec.ofNat 32 a.toNat, by unfold N; rw [BitVec.toNat_ofNat]; omega⟩
theorem wrapu {n : Int} (h0 : 0 ≤ n) (h1 : n ≤ 4294967295) : IntKind.u32.wrap n = n := by simp [IntKind.wrap, IntKind.bits, IntKind.signed]; omega
theorem ofN (x : R) : BitVec.ofInt 32 (N x) = x := by
  apply BitVec.eq_of_toNat_eq
  unfold N
  rw [BitVec.toNat_ofInt]
  have := x.isLt
  simp; omega
theorem xor_N (a b : R) : xorI .u32 (N a) (N b) = N (a ^^^ b) := by
  unfold xorI
  show IntKind.u32.wrap ((BitVec.ofInt 32 (N a) ^^^ BitVec.ofInt 32 (N b)).toNat : Int) = _
  rw [ofN, ofN]
  exact wrapu (N_bd _).1 (N_bd _).2
theorem and_N (a b : R) : andI .u32 (N a) (N b) = N (a &&& b) := by
  unfold andI
  show IntKind.u32.wrap ((BitVec.ofInt 32 (N a) &&& BitVec.ofInt 32 (N b)).toNat : Int) = _
  rw [ofN, ofN]
  exact wrapu (N_bd _).1 (N_bd _).2
theorem not_N (a : R) : notI .u32 (N a) = N (~~~a) := by
  unfold notI
  have : (if IntKind.u32.signed then (-1 : Int) else IntKind.u32.max) = N (BitVec.allOnes 32) := by decide
  rw [this, xor_N]
  rw [BitVec.allOnes_xor]
theorem shr_N (a : R) (n : Nat) (hn : n ≤ 32) : shr .u32 (N a) (n : Int) = N (a >>> n) := by
  unfold shr N
  rw [BitVec.toNat_ushiftRight, Nat.shiftRight_eq_div_pow]
  have : min ((n : Int)).toNat IntKind.u32.bits = n := by
    have : IntKind.u32.bits = 32 := rfl
    omega
  rw [this]
  simp
theorem shl_N (a : R) : shl .u32 (N a) 1 = N (a <<< 1) := by
  unfold shl N
  have : min ((1 : Int)).toNat IntKind.u32.bits = 1 := by decide
  rw [this, BitVec.toNat_shiftLeft, Nat.shiftLeft_eq]
  simp [IntKind.wrap, IntKind.bits, IntKind.signed]
theorem and1 (a : R) : a &&& 1#32 = if a.getLsbD 0 then 1#32 else 0#32 := by
  apply BitVec.eq_of_getLsbD_eq
  intro i hi
  rw [BitVec.getLsbD_and, BitVec.getLsbD_one]
  by_cases h : i = 0
  · subst h; cases a.getLsbD 0 <;> simp
  · cases a.getLsbD 0 <;> simp [h]
theorem byte_N (b : UInt8) : (b.toNat : Int) = N (BitVec.ofNat 32 b.toNat) := by
  unfold N
  rw [BitVec.toNat_ofNat]
  have := b.toNat_lt
  omega
theorem eqN (a b : R) : eqI (N a) (N b) = decide (a = b) := by rw [eqI_eq, decide_eq_decide]; exact N_inj

theorem up_spec {x : R} {h : H} {Q : Int → HProp} (hQ : Q (N (up x)) h) : sums_register_up (N x) Q h := by
  unfold sums_register_up
  refine must_i (by decide) ?_
  have h1 : shr .u32 (N x) 1 = N (x >>> 1) := shr_N x 1 (by decide)
  have h2 : andI .u32 (N x) 1 = N (x &&& 1#32) := and_N x 1#32
  have h3 : mul .u32 3988292384 (N (x &&& 1#32)) = N (if x.getLsbD 0 then poly else 0#32) := by
    rw [and1]
    cases x.getLsbD 0 <;> · unfold mul; decide
  rw [h1, h2, h3, xor_N]
  exact hQ
theorem in_spec {x : R} {b : UInt8} {h : H} {Q : Int → HProp} (hQ : Q (N (inb x b)) h) : sums_register_in (N x, (b.toNat : Int)) Q h := by
  unfold sums_register_in
  simp only [ltI_eq]
  have e : xorI .u32 (N x) (cnv .u32 (b.toNat : Int)) = N (x ^^^ BitVec.ofNat 32 b.toNat) := by
    have : cnv .u32 (b.toNat : Int) = N (BitVec.ofNat 32 b.toNat) := by
      rw [byte_N]; unfold cnv; exact wrapu (N_bd _).1 (N_bd _).2
    rw [this, xor_N]
  rw [e]
  refine loop_i (fun (s : Int × Int) h2 => 0 ≤ s.2 ∧ s.2 ≤ 8 ∧ h2 = h ∧ ∃ y, s.1 = N y ∧ ups (8 - s.2.toNat) y = inb x b) (fun s => (8 - s.2).toNat) ⟨Int.le_refl _, by show (0 : Int) ≤ 8; decide, rfl, _, rfl, rfl⟩ ?_
  rintro ⟨r, i⟩ h2 ⟨i0, i1, rfl, y, rfl, hy⟩ k hk
  simp only at i0 i1 hy
  refine ite_i (fun e => ?_) (fun e => ?_)
  · have e := of_decide_eq_true e
    simp only at e
    refine up_spec ?_
    rw [add_i64 (by omega) (by omega)]
    refine hk _ _ ⟨by show 0 ≤ i + 1; omega, by show i + 1 ≤ 8; omega, rfl, _, rfl, ?_⟩ (by show (8 - (i + 1)).toNat < (8 - i).toNat; omega)
    rw [← hy]
    show ups (8 - (i + 1).toNat) (up y) = _
    rw [show 8 - i.toNat = (8 - (i + 1).toNat) + 1 by omega]; rfl
  · have e := of_decide_eq_false e
    simp only at e
    have : 8 - i.toNat = 0 := by omega
    rw [this] at hy
    simp only [ups] at hy
    subst hy; exact hQ
def more (c : R) (z : ByteArray) : R := ~~~ goes (~~~c) z.data.toList
def crc (z : ByteArray) : R := more 0#32 z
theorem size_data (z : ByteArray) : z.data.toList.length = z.size := by rw [Array.length_toList]; rfl
theorem drop_cons {z : ByteArray} {i : Nat} (h : i < z.size) : ∃ b, z.data.toList[i]? = some b ∧ z.data.toList.drop i = b :: z.data.toList.drop (i + 1) := by
  have h2 : i < z.data.toList.length := by rw [size_data]; exact h
  exact ⟨z.data.toList[i], by rw [List.getElem?_eq_getElem h2], List.drop_eq_getElem_cons h2⟩
theorem More_spec {c : R} {z : ByteArray} {h : H} {Q : Int → HProp} (hz : z.size ≤ 140737488355328) (hQ : Q (N (more c z)) h) : sums_More (N c, z) Q h := by
  unfold sums_More
  simp only [ltI_eq, not_N]
  refine loop_i (fun (s : Int × Int) h2 => 0 ≤ s.2 ∧ s.2 ≤ z.size ∧ h2 = h ∧ ∃ y, s.1 = N y ∧ goes y (z.data.toList.drop s.2.toNat) = goes (~~~c) z.data.toList) (fun s => (z.size - s.2).toNat) ⟨Int.le_refl _, by show (0 : Int) ≤ z.size; omega, rfl, _, rfl, rfl⟩ ?_
  rintro ⟨r, i⟩ h2 ⟨i0, i1, rfl, y, rfl, hy⟩ k hk
  simp only at i0 i1 hy
  refine ite_i (fun e => ?_) (fun e => ?_)
  · have e := of_decide_eq_true e
    simp only at e
    obtain ⟨b, hb, hd⟩ := drop_cons (z := z) (i := i.toNat) (by omega)
    refine byte_i i0 hb (in_spec ?_)
    rw [add_i64 (by omega) (by omega)]
    refine hk _ _ ⟨by show 0 ≤ i + 1; omega, by show i + 1 ≤ _; omega, rfl, _, rfl, ?_⟩ (by show (z.size - (i + 1)).toNat < (z.size - i).toNat; omega)
    rw [← hy, hd]
    show goes _ (z.data.toList.drop (i + 1).toNat) = _
    rw [show (i + 1).toNat = i.toNat + 1 by omega]; rfl
  · have e := of_decide_eq_false e
    simp only at e
    rw [List.drop_eq_nil_of_le (by rw [size_data]; omega)] at hy
    simp only [goes] at hy
    rw [not_N, hy]; exact hQ
theorem Sum_spec {z : ByteArray} {h : H} {Q : Int → HProp} (hz : z.size ≤ 140737488355328) (hQ : Q (N (crc z)) h) : sums_Sum z Q h := by
  unfold sums_Sum
  exact More_spec (c := 0#32) hz hQ

theorem one_and (a : R) : (a &&& Crc.one = 0#32) ↔ a.msb = false := by
  rw [BitVec.msb_eq_getLsbD_last]
  constructor
  · intro h
    have h2 : (a &&& Crc.one).getLsbD 31 = false := by rw [h]; rfl
    rw [BitVec.getLsbD_and, one_bit, show decide (31 = 31) = true from rfl, Bool.and_true] at h2
    exact h2
  · intro h
    apply BitVec.eq_of_getLsbD_eq
    intro i hi
    rw [BitVec.getLsbD_and, one_bit]
    by_cases h31 : i = 31
    · subst h31; simpa using h
    · simp [h31]
theorem times_spec {a b : R} {h : H} {Q : Int → HProp} (hQ : Q (N (pe 32 a b)) h) : sums_register_times (N a, N b) Q h := by
  unfold sums_register_times
  refine loop_n (fun n (s : Int × Int × Int) h2 => h2 = h ∧ ∃ x y o, s = (N x, N y, N o) ∧ x <<< n = 0#32 ∧ o ^^^ pe n x y = pe 32 a b) 32
    ⟨rfl, a, b, 0#32, rfl, ?_, by simp⟩ ?_
  · apply BitVec.eq_of_getLsbD_eq
    intro i hi
    rw [BitVec.getLsbD_shiftLeft]; simp [hi]
  rintro n s h2 ⟨rfl, x, y, o, rfl, hx, ho⟩ k hk
  simp only
  have e0 : eqI (N x) 0 = decide (x = 0#32) := eqN x 0#32
  rw [e0]
  refine ite_i (fun e => ?_) (fun e => ?_)
  · have e : x ≠ 0#32 := by simpa using e
    cases n with
    | zero => exact absurd (by simpa using hx) e
    | succ n =>
      refine with_b (N (if x.msb then o ^^^ y else o)) (fun k2 hk2 => ?_) ?_
      · have e1 : andI .u32 (N x) 2147483648 = N (x &&& Crc.one) := and_N x Crc.one
        rw [e1, show (0 : Int) = N 0#32 from rfl, eqN]
        refine ite_i (fun e2 => ?_) (fun e2 => ?_)
        · have e2 : ¬ (x &&& Crc.one = 0#32) := by simpa using e2
          rw [one_and] at e2
          rw [if_pos (by simpa using e2)] at hk2
          rw [xor_N]; exact hk2
        · have e2 : x &&& Crc.one = 0#32 := by simpa using e2
          rw [one_and] at e2
          rw [if_neg (by simp [e2])] at hk2
          exact hk2
      refine must_i (by decide) (up_spec ?_)
      rw [shl_N]
      refine hk n _ _ (Nat.lt_succ_self _) ⟨rfl, _, _, _, rfl, ?_, ?_⟩
      · rw [← BitVec.shiftLeft_add, Nat.add_comm]; exact hx
      · rw [← ho]
        simp only [pe]
        cases x.msb
        · simp
        · simp [BitVec.xor_assoc]
  · have e : x = 0#32 := by simpa using e
    subst e
    rw [pe_r0] at ho
    simp at ho
    subst ho; exact hQ

theorem and1_i64 {m : Nat} (h : (m : Int) ≤ 9223372036854775807) : andI .i64 (m : Int) 1 = ((m % 2 : Nat) : Int) := by
  unfold andI
  show IntKind.i64.wrap ((BitVec.ofInt 64 (m : Int) &&& BitVec.ofInt 64 1).toNat : Int) = _
  have e : (BitVec.ofInt 64 (m : Int) &&& BitVec.ofInt 64 1).toNat = m % 2 := by
    rw [BitVec.toNat_and]
    have h1 : (BitVec.ofInt 64 (m : Int)).toNat = m := by
      rw [BitVec.toNat_ofInt]; simp; omega
    have h2 : (BitVec.ofInt 64 1).toNat = 1 := by decide
    rw [h1, h2, Nat.and_one_is_mod]
  rw [e]
  exact wrap64 (by omega) (by omega)
theorem shr1_i64 (m : Nat) : shr .i64 (m : Int) 1 = ((m / 2 : Nat) : Int) := by
  unfold shr
  have : min ((1 : Int)).toNat IntKind.i64.bits = 1 := by decide
  rw [this]; simp
theorem zeros_spec {n : Int} {h : H} {Q : Int → HProp} (h0 : 0 ≤ n) (h1 : n ≤ 9223372036854775807) (hQ : Q (N (ups (8 * n.toNat) Crc.one)) h) : sums_zeros n Q h := by
  unfold sums_zeros
  simp only [ltI_eq]
  refine loop_n (fun m (s : Int × Int × Int) h2 => h2 = h ∧ (m : Int) ≤ 9223372036854775807 ∧ ∃ a b : Nat, s = ((m : Int), N (ups (8 * a) Crc.one), N (ups (8 * b) Crc.one)) ∧ a + m * b = n.toNat) n.toNat
    ⟨rfl, by omega, 0, 1, ?_, by omega⟩ ?_
  · have : N (ups (8 * 1) Crc.one) = 8388608 := by decide
    rw [this, show ((n.toNat : Nat) : Int) = n by omega]; rfl
  rintro m s h2 ⟨rfl, hm, a, b, rfl, hab⟩ k hk
  simp only
  refine ite_i (fun e => ?_) (fun e => ?_)
  · have e := of_decide_eq_true e
    rw [and1_i64 hm, shr1_i64]
    refine with_b (N (ups (8 * (a + m % 2 * b)) Crc.one)) (fun k2 hk2 => ?_) ?_
    · refine ite_i (fun e2 => ?_) (fun e2 => ?_)
      · have e2 := of_decide_eq_true e2
        refine times_spec ?_
        rw [pe_upsone, ← ups_add]
        rw [show m % 2 = 1 by omega, Nat.one_mul] at hk2
        rw [show 8 * b + 8 * a = 8 * (a + b) by omega]; exact hk2
      · have e2 := of_decide_eq_false e2
        rw [show m % 2 = 0 by omega, Nat.zero_mul, Nat.add_zero] at hk2
        exact hk2
    refine must_i (by decide) (times_spec ?_)
    rw [pe_upsone, ← ups_add]
    refine hk (m / 2) _ _ (by omega) ⟨rfl, by omega, a + m % 2 * b, 2 * b, ?_, ?_⟩
    · rw [show 8 * b + 8 * b = 8 * (2 * b) by omega]
    · rw [← hab]
      have : m * b = (m / 2 * 2 + m % 2) * b := by rw [Nat.div_add_mod']
      rw [this, Nat.add_mul, Nat.mul_assoc]; omega
  · have e := of_decide_eq_false e
    have : m = 0 := by omega
    subst this
    simp at hab
    subst hab; exact hQ
def joinR (a b : R) (n : Int) : R := if n < 0 then 0#32 else ups (8 * n.toNat) a ^^^ b
theorem Join_spec {a b : R} {n : Int} {h : H} {Q : Int → HProp} (h1 : n ≤ 9223372036854775807) (hQ : Q (N (joinR a b n)) h) : sums_Join (N a, N b, n) Q h := by
  unfold sums_Join
  simp only [ltI_eq]
  refine ite_i (fun e => ?_) (fun e => ?_)
  · have e := of_decide_eq_true e
    rw [show joinR a b n = 0#32 from if_pos e] at hQ; exact hQ
  · have e := of_decide_eq_false e
    refine zeros_spec (by omega) h1 (times_spec ?_)
    rw [pe_by, xor_N]
    rw [show joinR a b n = _ from if_neg e] at hQ; exact hQ

theorem Goes_spec {r : R} {z : ByteArray} {h : H} {Q : Int → HProp} (hz : z.size ≤ 140737488355328) (hQ : Q (N (goes r z.data.toList)) h) : ref03_Goes (N r, z) Q h := by
  unfold ref03_Goes
  simp only [ltI_eq]
  refine loop_i (fun (s : Int × Int) h2 => 0 ≤ s.2 ∧ s.2 ≤ z.size ∧ h2 = h ∧ ∃ y, s.1 = N y ∧ goes y (z.data.toList.drop s.2.toNat) = goes r z.data.toList) (fun s => (z.size - s.2).toNat) ⟨Int.le_refl _, by show (0 : Int) ≤ z.size; omega, rfl, _, rfl, rfl⟩ ?_
  rintro ⟨r', i⟩ h2 ⟨i0, i1, rfl, y, rfl, hy⟩ k hk
  simp only at i0 i1 hy
  refine ite_i (fun e => ?_) (fun e => ?_)
  · have e := of_decide_eq_true e
    simp only at e
    obtain ⟨b, hb, hd⟩ := drop_cons (z := z) (i := i.toNat) (by omega)
    refine byte_i i0 hb ?_
    have ec : cnv .u32 (b.toNat : Int) = N (BitVec.ofNat 32 b.toNat) := by
      rw [byte_N]; unfold cnv; exact wrapu (N_bd _).1 (N_bd _).2
    rw [ec, xor_N]
    refine loop_i (fun (s : Int × Int) h3 => 0 ≤ s.2 ∧ s.2 ≤ 8 ∧ h3 = h2 ∧ ∃ x, s.1 = N x ∧ ups (8 - s.2.toNat) x = inb y b) (fun s => (8 - s.2).toNat) ⟨Int.le_refl _, by show (0 : Int) ≤ 8; decide, rfl, _, rfl, rfl⟩ ?_
    rintro ⟨q, j⟩ h3 ⟨j0, j1, rfl, x, rfl, hx⟩ k3 hk3
    simp only at j0 j1 hx
    refine ite_i (fun e => ?_) (fun e => ?_)
    · have e := of_decide_eq_true e
      simp only at e
      refine with_b (N (up x)) (fun k2 hk2 => ?_) ?_
      · refine must_i (by decide) ?_
        have h1 : shr .u32 (N x) 1 = N (x >>> 1) := shr_N x 1 (by decide)
        have h2 : andI .u32 (N x) 1 = N (x &&& 1#32) := and_N x 1#32
        simp only [h1, h2]
        rw [show (1 : Int) = N 1#32 from rfl, eqN]
        refine ite_i (fun e4 => ?_) (fun e4 => ?_)
        · have e4 : x.getLsbD 0 = true := by
            have := of_decide_eq_true e4
            rw [and1] at this
            cases hl : x.getLsbD 0
            · rw [hl] at this; simp at this
            · rfl
          rw [show (3988292384 : Int) = N poly from rfl, xor_N]
          unfold up at hk2; rw [if_pos e4] at hk2; exact hk2
        · have e4 : x.getLsbD 0 = false := by
            have := of_decide_eq_false e4
            rw [and1] at this
            cases hl : x.getLsbD 0
            · rfl
            · rw [hl] at this; simp at this
          unfold up at hk2; rw [if_neg (by rw [e4]; decide)] at hk2; simpa using hk2
      rw [add_i64 (by omega) (by omega)]
      refine hk3 _ _ ⟨by show 0 ≤ j + 1; omega, by show j + 1 ≤ 8; omega, rfl, _, rfl, ?_⟩ (by show (8 - (j + 1)).toNat < (8 - j).toNat; omega)
      rw [← hx]
      show ups (8 - (j + 1).toNat) (up x) = _
      rw [show 8 - j.toNat = (8 - (j + 1).toNat) + 1 by omega]; rfl
    · have e := of_decide_eq_false e
      simp only at e
      have : 8 - j.toNat = 0 := by omega
      rw [this] at hx
      simp only [ups] at hx
      subst hx
      rw [add_i64 (by omega) (by omega)]
      refine hk _ _ ⟨by show 0 ≤ i + 1; omega, by show i + 1 ≤ _; omega, rfl, _, rfl, ?_⟩ (by show (z.size - (i + 1)).toNat < (z.size - i).toNat; omega)
      rw [← hy, hd]
      show goes _ (z.data.toList.drop (i + 1).toNat) = _
      rw [show (i + 1).toNat = i.toNat + 1 by omega]; rfl
  · have e := of_decide_eq_false e
    simp only at e
    rw [List.drop_eq_nil_of_le (by rw [size_data]; omega)] at hy
    simp only [goes] at hy
    rw [hy]; exact hQ
theorem refMore_spec {c : R} {z : ByteArray} {h : H} {Q : Int → HProp} (hz : z.size ≤ 140737488355328) (hQ : Q (N (more c z)) h) : ref03_More (N c, z) Q h := by
  unfold ref03_More
  simp only [not_N]
  exact Goes_spec hz (by rw [not_N]; exact hQ)
theorem refSum_spec {z : ByteArray} {h : H} {Q : Int → HProp} (hz : z.size ≤ 140737488355328) (hQ : Q (N (crc z)) h) : ref03_Sum z Q h := by
  unfold ref03_Sum
  exact Goes_spec (r := ~~~0#32) hz (by rw [not_N]; exact hQ)
theorem refJoin_spec {a b : R} {n : Int} {h : H} {Q : Int → HProp} (h1 : n ≤ 12000) (hQ : ∀ h', Ext h h' → Q (N (joinR a b n)) h') : ref03_Join (N a, N b, n) Q h := by
  unfold ref03_Join
  simp only [ltI_eq]
  refine ite_i (fun e => ?_) (fun e => ?_)
  · have e := of_decide_eq_true e
    have := hQ h (Ext.refl h)
    rw [show joinR a b n = 0#32 from if_pos e] at this; exact this
  · have e := of_decide_eq_false e
    refine make_i (E := eI .u8) (x0 := 0) rfl (by omega) (Int.le_refl _) (by omega) (by omega) ?_
    intro v h1' V _ _ hx _
    refine V.arr.text ?_
    have ez : (textOf (List.replicate n.toNat 0)).data.toList = zeros n.toNat := by
      rw [textOf_data, List.map_replicate]; rfl
    have es : (textOf (List.replicate n.toNat 0)).size = n.toNat := by
      rw [← size_data, ez]; simp [zeros]
    refine Goes_spec (by rw [es]; omega) ?_
    rw [ez, goes_zeros, xor_N]
    have := hQ h1' hx
    rw [show joinR a b n = _ from if_neg e] at this; exact this

theorem check_spec {h : H} {Q : Bool → HProp} (hQ : Q true h) : law03_check () Q h := by
  unfold law03_check
  refine with_b true (fun k hk => ?_) hQ
  refine Sum_spec (by decide) (ite_t (by rw [eqI_eq]; decide +kernel) ?_)
  refine Sum_spec (by decide) (ite_t (by rw [eqI_eq]; decide +kernel) ?_)
  refine Sum_spec (by decide) (ite_t (by rw [eqI_eq]; decide +kernel) ?_)
  refine Sum_spec (by decide) (Sum_spec (by decide) (Join_spec (by decide) ?_))
  have : eqI (N (joinR (crc (ByteArray.mk #[49, 50, 51, 52])) (crc (ByteArray.mk #[53, 54, 55, 56, 57])) 5)) 3421780262 = true := by rw [eqI_eq]; decide +kernel
  rw [this]; exact hk

/-! ## the laws -/
theorem SumsGoes_holds (z : ByteArray) (c : R) (h : H) : law03_SumsGoes (z, N c) (fun r _ => r = true) h := by
  unfold law03_SumsGoes
  simp only [ltI_eq]
  refine ite_i (fun _ => check_spec rfl) (fun e => ?_)
  have e := of_decide_eq_false e
  refine with_b true (fun k hk => ?_) rfl
  refine More_spec (by omega) (refMore_spec (by omega) (ite_t (by rw [eqN]; simp) ?_))
  exact Sum_spec (by omega) (refSum_spec (by omega) (ite_t (by rw [eqN]; simp) (check_spec hk)))
theorem SumsApart_holds (a b : R) (n : Int) (h : H) : law03_SumsApart (N a, N b, n) (fun r _ => r = true) h := by
  unfold law03_SumsApart
  simp only [ltI_eq]
  refine ite_i (fun _ => check_spec rfl) (fun e => ?_)
  have e := of_decide_eq_false e
  refine with_i (fun r _ => r = true) (fun k hk => ?_) (fun _ _ e => e)
  refine Join_spec (by omega) (refJoin_spec (by omega) (fun h1 _ => ite_t (by rw [eqN]; simp) ?_))
  exact Join_spec (by omega) (refJoin_spec (by omega) (fun h2 _ => ite_t (by rw [eqN]; simp) (check_spec (hk _ _ rfl))))

theorem app_data (a b : ByteArray) : (a ++ b).data.toList = a.data.toList ++ b.data.toList := by
  rw [ByteArray.data_append, Array.toList_append]
theorem crc_app (a b : ByteArray) : crc (a ++ b) = ups (8 * b.size) (crc a) ^^^ crc b := by
  unfold crc more
  rw [app_data, goes_app]
  have e : goes (~~~0#32) a.data.toList = ~~~(goes (~~~0#32) a.data.toList) ^^^ ~~~0#32 := by
    generalize goes (~~~0#32) a.data.toList = g
    have : (~~~0#32 : R) = BitVec.allOnes 32 := by decide
    rw [this, BitVec.xor_allOnes, BitVec.not_not]
  conv => lhs; rw [e]
  rw [goes_split, size_data, BitVec.not_xor_right]
theorem byte_of (x : R) (n : Nat) : cnv .u8 (N (x >>> n)) = ((UInt8.ofNat (x >>> n).toNat).toNat : Int) := by
  unfold cnv N
  simp [IntKind.wrap, IntKind.bits, IntKind.signed]
theorem ofNat_toNat (b : UInt8) : UInt8.ofNat ((b.toNat : Int)).toNat = b := by simp
theorem seal_fact (g o : R) : (~~~ (ups 32 (g ^^^ (~~~g ^^^ o))) = 0x2144df1c#32) ↔ o = 0#32 := by
  have e : g ^^^ (~~~g ^^^ o) = BitVec.allOnes 32 ^^^ o := by
    rw [← BitVec.xor_assoc]
    congr 1
    apply BitVec.eq_of_getLsbD_eq
    intro i hi
    rw [BitVec.getLsbD_xor, BitVec.getLsbD_not, BitVec.getLsbD_allOnes]
    simp [hi]
  rw [e, ups_xor]
  have c : (0x2144df1c#32 : R) = ~~~ (ups 32 (BitVec.allOnes 32)) := by decide +kernel
  rw [c]
  constructor
  · intro h
    have h2 := congrArg (fun x => ~~~x) h
    simp only [BitVec.not_not] at h2
    have h3 := congrArg (fun x => ups 32 (BitVec.allOnes 32) ^^^ x) h2
    simp only [xself, BitVec.xor_self] at h3
    exact ups_inj h3
  · rintro rfl
    rw [ups_zero, BitVec.xor_zero]
theorem SumsSealed_holds (z : ByteArray) (o : R) (h : H) : law03_SumsSealed (z, N o) (fun r _ => r = true) h := by
  unfold law03_SumsSealed
  simp only [ltI_eq]
  refine ite_i (fun _ => check_spec rfl) (fun e => ?_)
  have e := of_decide_eq_false e
  refine Sum_spec (by omega) ?_
  refine with_i (fun r _ => r = true) (fun k hk => ?_) (fun _ _ e => e)
  refine must_i (by decide) (must_i (by decide) (must_i (by decide) ?_))
  rw [xor_N]
  have s8 : shr .u32 (N (crc z ^^^ o)) 8 = N ((crc z ^^^ o) >>> 8) := shr_N _ 8 (by decide)
  have s16 : shr .u32 (N (crc z ^^^ o)) 16 = N ((crc z ^^^ o) >>> 16) := shr_N _ 16 (by decide)
  have s24 : shr .u32 (N (crc z ^^^ o)) 24 = N ((crc z ^^^ o) >>> 24) := shr_N _ 24 (by decide)
  have s0 : cnv .u8 (N (crc z ^^^ o)) = ((UInt8.ofNat (crc z ^^^ o).toNat).toNat : Int) := by
    have := byte_of (crc z ^^^ o) 0
    simpa using this
  rw [s8, s16, s24, byte_of, byte_of, byte_of, s0]
  generalize hn : crc z ^^^ o = n
  refine new_i (E := eI .u8) (l := (word n).map fun b => (b.toNat : Int)) rfl rfl (fun b h1 V _ _ => ?_)
  refine V.arr.text ?_
  have ew : (textOf ((word n).map fun b => (b.toNat : Int))).data.toList = word n := by
    rw [textOf_data, List.map_map]
    have : ((fun n : Int => UInt8.ofNat n.toNat) ∘ fun b : UInt8 => (b.toNat : Int)) = id := by funext b; exact ofNat_toNat b
    rw [this, List.map_id]
  have es : (textOf ((word n).map fun b => (b.toNat : Int))).size = 4 := by rw [← size_data, ew]; rfl
  refine must_i (by omega) ?_
  refine Sum_spec (by rw [← size_data, app_data, List.length_append, size_data, size_data, es]; omega) ?_
  have ec : crc (z ++ textOf ((word n).map fun b => (b.toNat : Int))) = ~~~ (ups 32 (goes (~~~0#32) z.data.toList ^^^ (~~~ (goes (~~~0#32) z.data.toList) ^^^ o))) := by
    unfold crc more
    rw [app_data, goes_app, ew, goes_word, ← hn]
    rfl
  rw [ec, show (558161692 : Int) = N 0x2144df1c#32 from rfl, show (0 : Int) = N 0#32 from rfl, eqN, eqN]
  refine ite_t ?_ (check_spec (hk _ _ rfl))
  have := seal_fact (goes (~~~0#32) z.data.toList) o
  rw [beq_iff_eq, decide_eq_decide]
  exact this

theorem foldMin3 {a b c : Int} : foldI minI a [b, c] = min a (min b c) := by
  simp only [foldI, minI_eq]
  split <;> split <;> omega
theorem xor_byte (a b : UInt8) : xorI .u8 (a.toNat : Int) (b.toNat : Int) = ((a ^^^ b).toNat : Int) := by
  unfold xorI
  show IntKind.u8.wrap ((BitVec.ofInt 8 (a.toNat : Int) ^^^ BitVec.ofInt 8 (b.toNat : Int)).toNat : Int) = _
  have e : ∀ a : UInt8, BitVec.ofInt 8 (a.toNat : Int) = a.toBitVec := by
    intro a
    apply BitVec.eq_of_toNat_eq
    rw [BitVec.toNat_ofInt]
    have := a.toNat_lt
    show ((a.toNat : Int) % 256).toNat = a.toNat
    omega
  rw [e, e]
  have h2 : (a.toBitVec ^^^ b.toBitVec).toNat = (a ^^^ b).toNat := rfl
  rw [h2]
  have := (a ^^^ b).toNat_lt
  generalize (a ^^^ b).toNat = x at *
  simp [IntKind.wrap, IntKind.bits, IntKind.signed]; omega
def bints (l : List UInt8) : List Int := l.map fun b => (b.toNat : Int)
theorem bints_text (l : List UInt8) : (textOf (bints l)).data.toList = l := by
  unfold bints
  rw [textOf_data, List.map_map]
  have : ((fun n : Int => UInt8.ofNat n.toNat) ∘ fun b : UInt8 => (b.toNat : Int)) = id := by funext b; exact ofNat_toNat b
  rw [this, List.map_id]
theorem bints_get {l : List UInt8} {i : Nat} {b : UInt8} (h : l[i]? = some b) : (bints l)[i]? = some (b.toNat : Int) := by simp [bints, h]
theorem bints_set (l : List UInt8) (i : Nat) (b : UInt8) : (bints l).set i (b.toNat : Int) = bints (l.set i b) := by simp [bints, List.map_set]
theorem not_three (a b c : R) : ~~~(a ^^^ (b ^^^ c)) = (~~~a ^^^ ~~~b) ^^^ ~~~c := by
  apply BitVec.eq_of_getLsbD_eq
  intro i hi
  simp only [BitVec.getLsbD_xor, BitVec.getLsbD_not]
  cases a.getLsbD i <;> cases b.getLsbD i <;> cases c.getLsbD i <;> simp [hi]
theorem SumsThree_holds (a b c : ByteArray) (h : H) : law03_SumsThree (a, b, c) (fun r _ => r = true) h := by
  unfold law03_SumsThree
  simp only [ltI_eq, foldMin3]
  generalize hn : min (a.size : Int) (min (b.size : Int) (c.size : Int)) = n
  refine ite_i (fun _ => check_spec rfl) (fun e => ?_)
  have e := of_decide_eq_false e
  have n0 : 0 ≤ n := by omega
  refine make_i (E := eI .u8) (x0 := 0) rfl n0 (Int.le_refl _) (by omega) (by omega) ?_
  intro v h1 V _ _ _ _
  let D := List.zipWith (· ^^^ ·) (a.data.toList.take n.toNat) (List.zipWith (· ^^^ ·) (b.data.toList.take n.toNat) (c.data.toList.take n.toNat))
  have la : (a.data.toList.take n.toNat).length = n.toNat := by rw [List.length_take, size_data]; omega
  have lb : (b.data.toList.take n.toNat).length = n.toNat := by rw [List.length_take, size_data]; omega
  have lc : (c.data.toList.take n.toNat).length = n.toNat := by rw [List.length_take, size_data]; omega
  have lD : D.length = n.toNat := by simp only [D, List.length_zipWith, la, lb, lc]; omega
  refine loop_i (fun (i : Int) h2 => 0 ≤ i ∧ i ≤ n ∧ ∃ l : List UInt8, l.length = n.toNat ∧ Vec h2 v (eI .u8) (bints l) ∧ ∀ j, j < i.toNat → l[j]? = D[j]?) (fun i => (n - i).toNat)
    ⟨Int.le_refl _, n0, zeros n.toNat, by simp [zeros], by simpa [bints, zeros] using V, by simp⟩ ?_
  rintro i h2 ⟨i0, i1, l, hl, V2, hj⟩ k hk
  refine ite_i (fun e => ?_) (fun e => ?_)
  · have e := of_decide_eq_true e
    have hi : i.toNat < n.toNat := by omega
    have ga : a.data.toList[i.toNat]? = some (a.data.toList[i.toNat]'(by rw [size_data]; omega)) := List.getElem?_eq_getElem _
    have gb : b.data.toList[i.toNat]? = some (b.data.toList[i.toNat]'(by rw [size_data]; omega)) := List.getElem?_eq_getElem _
    have gc : c.data.toList[i.toNat]? = some (c.data.toList[i.toNat]'(by rw [size_data]; omega)) := List.getElem?_eq_getElem _
    refine byte_i i0 ga (byte_i i0 gb (byte_i i0 gc ?_))
    have ll : (bints l).length = n.toNat := by simp [bints, hl]
    refine V2.arr.index i0 (by omega) (fun q hq => ?_)
    rw [xor_byte, xor_byte]
    have hx : (bints l)[i.toNat]? = some (bints l)[i.toNat] := List.getElem?_eq_getElem (by omega)
    have := V2.store (K := k (add .i64 i 1)) (j := 0) hq hx Nat.one_pos (y := .int .u8 ((a.data.toList[i.toNat]'(by rw [size_data]; omega) ^^^ b.data.toList[i.toNat]'(by rw [size_data]; omega) ^^^ c.data.toList[i.toNat]'(by rw [size_data]; omega)).toNat : Int)) (x' := ((a.data.toList[i.toNat]'(by rw [size_data]; omega) ^^^ b.data.toList[i.toNat]'(by rw [size_data]; omega) ^^^ c.data.toList[i.toNat]'(by rw [size_data]; omega)).toNat : Int)) rfl
    rw [add0] at this
    refine this fun h3 V3 _ => ?_
    rw [add_i64 (by omega) (by omega)]
    rw [bints_set] at V3
    refine hk _ _ ⟨by omega, by omega, _, by simpa using hl, V3, fun j hj2 => ?_⟩ (by omega)
    by_cases e2 : j = i.toNat
    · subst e2
      rw [List.getElem?_set_self (by omega)]
      simp only [D, List.getElem?_zipWith, List.getElem?_take, if_pos hi, ga, gb, gc]
      rw [UInt8.xor_assoc]
    · rw [List.getElem?_set_ne (by omega)]
      exact hj j (by omega)
  · have e := of_decide_eq_false e
    have hD : l = D := by
      apply List.ext_getElem?
      intro j
      by_cases h3 : j < i.toNat
      · exact hj j h3
      · rw [List.getElem?_eq_none (by omega), List.getElem?_eq_none (by omega)]
    refine with_i (fun r _ => r = true) (fun k hk => ?_) (fun _ _ e => e)
    refine cut_i (Int.le_refl _) n0 (by omega) (cut_i (Int.le_refl _) n0 (by omega) (cut_i (Int.le_refl _) n0 (by omega) (V2.arr.text ?_)))
    have sz : ∀ z : ByteArray, n ≤ z.size → (z.extract (0 : Int).toNat n.toNat).size ≤ 140737488355328 := by
      intro z hz
      rw [← size_data, extract_data]
      simp; omega
    refine Sum_spec (by rw [← size_data, bints_text, hl]; omega) (Sum_spec (sz _ (by omega)) (Sum_spec (sz _ (by omega)) (Sum_spec (sz _ (by omega)) ?_)))
    rw [xor_N, xor_N, eqN]
    refine ite_t (decide_eq_true ?_) (check_spec (hk _ _ rfl))
    unfold crc more
    rw [bints_text, extract_data, extract_data, extract_data, hD]
    simp only [Int.toNat_zero, List.drop_zero]
    have e3 : (~~~0#32 : R) = ~~~0#32 ^^^ (~~~0#32 ^^^ ~~~0#32) := by decide
    conv => lhs; rw [e3]
    rw [goes_xor _ _ _ _ (by simp only [List.length_zipWith, la, lb, lc]; omega), goes_xor _ _ _ _ (by rw [lb, lc]), not_three]

/-! ### near -/
def near (l : List UInt8) (k : Nat) (w : List UInt8) (i : Nat) : List UInt8 := List.zipWith (· ^^^ ·) l (zeros k ++ w.take i ++ zeros (l.length - k - i))
theorem near_len {l w : List UInt8} {k i : Nat} (h : k + i ≤ l.length) (hw : i ≤ w.length) : (near l k w i).length = l.length := by
  simp [near, zeros, List.length_zipWith]; omega
theorem near_get {l w : List UInt8} {k i : Nat} (h : k + i ≤ l.length) (hw : i ≤ w.length) (j : Nat) : (near l k w i)[j]? = (l[j]?).map fun b => if k ≤ j ∧ j < k + i then b ^^^ (w[j - k]?).getD 0 else b := by
  unfold near
  rw [List.getElem?_zipWith]
  by_cases hj : j < l.length
  · have : l[j]? = some l[j] := List.getElem?_eq_getElem hj
    rw [this]
    simp only [List.append_assoc]
    by_cases h1 : j < k
    · rw [List.getElem?_append_left (by simpa [zeros] using h1)]
      simp [zeros, h1, show ¬ (k ≤ j ∧ j < k + i) by omega]
    · rw [List.getElem?_append_right (by simp [zeros]; omega)]
      simp only [zeros, List.length_replicate]
      by_cases h2 : j < k + i
      · rw [List.getElem?_append_left (by simp; omega), List.getElem?_take, if_pos (by omega)]
        have hw2 : w[j - k]? = some (w[j - k]'(by omega)) := List.getElem?_eq_getElem (by omega)
        simp [hw2, show k ≤ j ∧ j < k + i by omega]
      · rw [List.getElem?_append_right (by simp; omega)]
        simp only [List.length_take, List.getElem?_replicate]
        rw [if_pos (by omega)]
        simp [show ¬ (k ≤ j ∧ j < k + i) by omega]
  · rw [List.getElem?_eq_none (by omega)]; simp
theorem near_set {l w : List UInt8} {k i : Nat} {b c : UInt8} (h : k + i < l.length) (hw : i < w.length) (hb : l[k + i]? = some b) (hc : w[i]? = some c) : (near l k w i).set (k + i) (b ^^^ c) = near l k w (i + 1) := by
  apply List.ext_getElem?
  intro j
  rw [near_get (by omega) (by omega)]
  by_cases e : j = k + i
  · subst e
    rw [List.getElem?_set_self (by rw [near_len (by omega) (by omega)]; exact h), hb]
    simp [show k + i < k + (i + 1) by omega, hc]
  · rw [List.getElem?_set_ne (fun h => e h.symm), near_get (by omega) (by omega)]
    congr 1
    funext b
    congr 1
    simp only [eq_iff_iff]
    omega
theorem near_goes {l : List UInt8} {k : Nat} {bits r : R} (h : k + 4 ≤ l.length) : goes r (near l k (word bits) 4) = goes r l ^^^ ups (8 * (l.length - k - 4)) (ups 32 bits) := by
  unfold near
  have e : r = r ^^^ 0#32 := by simp
  conv => lhs; rw [e]
  rw [goes_xor _ _ _ _ (by simp [zeros, word]; omega)]
  congr 1
  have : (word bits).take 4 = word bits := rfl
  rw [this, List.append_assoc, goes_app, goes_zeros, ups_zero, goes_app, goes_word, goes_zeros]
  simp
theorem near_ne {l : List UInt8} {k : Nat} {bits r : R} (h : k + 4 ≤ l.length) : (~~~ goes r (near l k (word bits) 4) = ~~~ goes r l) ↔ bits = 0#32 := by
  rw [near_goes h]
  constructor
  · intro h2
    have h3 := congrArg (fun x => ~~~x) h2
    simp only [BitVec.not_not] at h3
    have h4 := congrArg (fun x => goes r l ^^^ x) h3
    simp only [xself, BitVec.xor_self] at h4
    exact ups_inj (ups_inj h4)
  · rintro rfl
    rw [ups_zero, ups_zero, BitVec.xor_zero]
theorem SumsNear_holds (z : ByteArray) (w : Int) (bits : R) (h : H) (w0 : 0 ≤ w) (w1 : w ≤ 65535) : law03_SumsNear (z, w, N bits) (fun r _ => r = true) h := by
  unfold law03_SumsNear
  simp only [ltI_eq]
  refine with_b (decide (12000 < z.size ∨ z.size < 4)) (fun k hk => ?_) ?_
  · refine ite_i (fun e => ?_) (fun e => ?_)
    · have e := of_decide_eq_true e
      rw [decide_eq_true (.inl (by omega))] at hk; exact hk
    · have e := of_decide_eq_false e
      rw [show decide ((z.size : Int) < 4) = decide (12000 < z.size ∨ z.size < 4) by rw [decide_eq_decide]; omega]; exact hk
  refine ite_i (fun _ => check_spec rfl) (fun e => ?_)
  have e := of_decide_eq_false e
  refine bytes_i fun v h1 V _ _ => ?_
  have hvl := V.len
  rw [byteInts_len] at hvl
  rw [hvl, cnv_i64 (by omega) (by omega), sub_i64 (by omega) (by omega), rem_nn w0]
  have kr : 0 ≤ w % ((z.size : Int) - 3) ∧ w % ((z.size : Int) - 3) < (z.size : Int) - 3 := ⟨Int.emod_nonneg _ (by omega), Int.emod_lt_of_pos _ (by omega)⟩
  generalize hq : w % ((z.size : Int) - 3) = q at *
  have hsd := size_data z
  have hL : (byteInts z) = bints z.data.toList := rfl
  rw [hL] at V
  refine must_i (by omega) ?_
  refine loop_i (fun (i : Int) h2 => 0 ≤ i ∧ i ≤ 4 ∧ Vec h2 v (eI .u8) (bints (near z.data.toList q.toNat (word bits) i.toNat))) (fun i => (4 - i).toNat) ⟨Int.le_refl _, by decide, ?_⟩ ?_
  · have : near z.data.toList q.toNat (word bits) (0 : Int).toNat = z.data.toList := by
      apply List.ext_getElem?
      intro j
      rw [near_get (by simp; omega) (by simp)]
      cases z.data.toList[j]? with
      | none => rfl
      | some b => simp; omega
    rw [this]; exact V
  rintro i h2 ⟨i0, i1, V2⟩ k hk
  refine ite_i (fun e => ?_) (fun e => ?_)
  · have e := of_decide_eq_true e
    have hwl : (word bits).length = 4 := rfl
    have hbl : (bints (near z.data.toList q.toNat (word bits) i.toNat)).length = z.size := by
      rw [bints, List.length_map, near_len (by omega) (by omega), hsd]
    have hlt : q.toNat + i.toNat < z.data.toList.length := by omega
    have gb : z.data.toList[q.toNat + i.toNat]? = some z.data.toList[q.toNat + i.toNat] := List.getElem?_eq_getElem hlt
    have gn : (near z.data.toList q.toNat (word bits) i.toNat)[q.toNat + i.toNat]? = some z.data.toList[q.toNat + i.toNat] := by
      rw [near_get (by omega) (by omega), gb]; simp
    have hqi : (q + i).toNat = q.toNat + i.toNat := by omega
    rw [add_i64 (a := q) (b := i) (by omega) (by omega)]
    refine V2.arr.index (by omega) (by omega) (fun p hp => ?_)
    rw [hqi] at hp
    have hc := V2.arr.cell (j := 0) hp (bints_get gn) rfl
    rw [add0] at hc
    refine loadI_i hc ?_
    rw [mul_i64 (by omega) (by omega)]
    refine must_i (by show (0 : Int) ≤ 8 * i; omega) ?_
    refine V2.arr.index (by omega) (by omega) (fun p hp => ?_)
    rw [hqi] at hp
    have es : shr .u32 (N bits) (8 * i) = N (bits >>> (8 * i.toNat)) := by
      rw [show 8 * i = ((8 * i.toNat : Nat) : Int) by omega]
      exact shr_N _ _ (by omega)
    have gw : (word bits)[i.toNat]? = some (UInt8.ofNat (bits >>> (8 * i.toNat)).toNat) := by
      have : i.toNat = 0 ∨ i.toNat = 1 ∨ i.toNat = 2 ∨ i.toNat = 3 := by omega
      rcases this with h | h | h | h <;> rw [h] <;> simp [word]
    rw [es, byte_of, xor_byte]
    have := V2.store (K := k (add .i64 i 1)) (j := 0) hp (bints_get gn) Nat.one_pos (y := .int .u8 ((z.data.toList[q.toNat + i.toNat] ^^^ UInt8.ofNat (bits >>> (8 * i.toNat)).toNat).toNat : Int)) (x' := ((z.data.toList[q.toNat + i.toNat] ^^^ UInt8.ofNat (bits >>> (8 * i.toNat)).toNat).toNat : Int)) rfl
    rw [add0] at this
    refine this fun h3 V3 _ => ?_
    rw [add_i64 (by omega) (by omega)]
    rw [bints_set, near_set hlt (by omega) gb gw] at V3
    refine hk _ _ ⟨by omega, by omega, ?_⟩ (by omega)
    rw [show (i + 1).toNat = i.toNat + 1 by omega]; exact V3
  · have e := of_decide_eq_false e
    have : i = 4 := by omega
    subst this
    refine with_i (fun r _ => r = true) (fun k hk => ?_) (fun _ _ e => e)
    refine V2.arr.text (Sum_spec ?_ (Sum_spec (by omega) ?_))
    · rw [← size_data, bints_text, near_len (by show q.toNat + 4 ≤ _; omega) (by show (4 : Int).toNat ≤ 4; decide)]; omega
    rw [show (0 : Int) = N 0#32 from rfl, eqN, eqN]
    refine ite_t ?_ (check_spec (hk _ _ rfl))
    rw [beq_iff_eq, decide_eq_decide]
    unfold crc more
    rw [bints_text]
    exact near_ne (by omega)

/-! ### pages -/
def cat : List ByteArray → ByteArray
  | [] => ⟨#[]⟩
  | x :: r => x ++ cat r
theorem ba_ext {a b : ByteArray} (h : a.data.toList = b.data.toList) : a = b := by
  cases a; cases b
  congr 1
  exact Array.ext' h
theorem app_assoc (a b c : ByteArray) : a ++ b ++ c = a ++ (b ++ c) := ba_ext (by simp only [app_data, List.append_assoc])
theorem app_nil (a : ByteArray) : a ++ ⟨#[]⟩ = a := ba_ext (by rw [app_data]; simp)
theorem nil_app (a : ByteArray) : ⟨#[]⟩ ++ a = a := ba_ext (by rw [app_data]; simp)
theorem cat_app : ∀ (l m : List ByteArray), cat (l ++ m) = cat l ++ cat m
  | [], m => (nil_app _).symm
  | x :: r, m => by simp only [List.cons_append, cat, cat_app r m, app_assoc]
theorem app_size (a b : ByteArray) : (a ++ b).size = a.size + b.size := by rw [← size_data, app_data, List.length_append, size_data, size_data]
theorem SumsPages_holds (v : Sl) (l : List ByteArray) (h : H) (A : Arr h v eS l) (hc : l.length ≤ 9223372036854775807) : law03_SumsPages v (fun r _ => r = true) h := by
  unfold law03_SumsPages
  simp only [ltI_eq, leI_eq]
  have la := A.len
  refine loop_i (fun (s : ByteArray × Int) h2 => 0 ≤ s.2 ∧ s.2 ≤ l.length ∧ s.2 ≤ 40 ∧ h2 = h ∧ s.1 = cat (l.take s.2.toNat) ∧ s.1.size ≤ 12000) (fun s => (l.length - s.2).toNat)
    ⟨Int.le_refl _, by show (0 : Int) ≤ l.length; omega, by show (0 : Int) ≤ 40; decide, rfl, rfl, by decide⟩ ?_
  rintro ⟨all, i⟩ h2 ⟨i0, i1, i2, rfl, ha, hs⟩ k hk
  simp only at i0 i1 i2 ha hs
  dsimp only
  refine ite_i (fun e => ?_) (fun e => ?_)
  · have e := of_decide_eq_true e
    have hi : i.toNat < l.length := by omega
    have hx : l[i.toNat]? = some l[i.toNat] := List.getElem?_eq_getElem hi
    refine with_b (decide (40 ≤ i ∨ 12000 - all.size < l[i.toNat].size)) (fun k2 hk2 => ?_) ?_
    · refine ite_i (fun e2 => ?_) (fun e2 => ?_)
      · rw [decide_eq_true (.inl (of_decide_eq_true e2))] at hk2; exact hk2
      · have e2 := of_decide_eq_false e2
        refine A.index i0 (by omega) (fun q hq => ?_)
        have hcell := A.cell (j := 0) hq hx rfl
        rw [add0] at hcell
        refine loadS_i hcell ?_
        rw [sub_i64 (by omega) (by omega)]
        rw [show decide (12000 - (all.size : Int) < (l[i.toNat].size : Int)) = decide (40 ≤ i ∨ 12000 - all.size < l[i.toNat].size) by rw [decide_eq_decide]; omega]
        exact hk2
    refine ite_i (fun _ => check_spec rfl) (fun e2 => ?_)
    have e2 := of_decide_eq_false e2
    refine A.index i0 (by omega) (fun q hq => ?_)
    have hcell := A.cell (j := 0) hq hx rfl
    rw [add0] at hcell
    refine loadS_i hcell (must_i (by show all.size + l[i.toNat].size ≤ _; omega) ?_)
    rw [add_i64 (by omega) (by omega)]
    refine hk _ _ ⟨by show 0 ≤ i + 1; omega, by show i + 1 ≤ _; omega, by show i + 1 ≤ 40; omega, rfl, ?_, by show (all ++ _).size ≤ _; rw [app_size]; omega⟩ (by show (l.length - (i + 1)).toNat < (l.length - i).toNat; omega)
    show all ++ l[i.toNat] = cat (l.take (i + 1).toNat)
    rw [show (i + 1).toNat = i.toNat + 1 by omega, List.take_add_one, hx, cat_app, ha]
    show _ = _ ++ cat [l[i.toNat]]
    simp only [cat, app_nil]
  · have e := of_decide_eq_false e
    have hil : i.toNat = l.length := by omega
    rw [hil, List.take_length] at ha
    rw [la, sub_i64 (by omega) (by omega)]
    refine loop_i (fun (s : Int × Int × Int) h3 => -1 ≤ s.2.2 ∧ s.2.2 < l.length ∧ h3 = h2 ∧ s.1 = N (crc (cat (l.drop (s.2.2 + 1).toNat))) ∧ s.2.1 = (cat (l.drop (s.2.2 + 1).toNat)).size) (fun s => (s.2.2 + 1).toNat)
      ⟨by show -1 ≤ (l.length : Int) - 1; omega, by show (l.length : Int) - 1 < _; omega, rfl, ?_, ?_⟩ ?_
    · show (0 : Int) = N (crc (cat (l.drop ((l.length : Int) - 1 + 1).toNat)))
      rw [List.drop_eq_nil_of_le (by omega)]
      decide +kernel
    · show (0 : Int) = _
      rw [List.drop_eq_nil_of_le (by show l.length ≤ ((l.length : Int) - 1 + 1).toNat; omega)]
      rfl
    rintro ⟨sum, behind, j⟩ h3 ⟨j0, j1, rfl, hsum, hbe⟩ k3 hk3
    simp only at j0 j1 hsum hbe
    dsimp only
    refine ite_i (fun e3 => ?_) (fun e3 => ?_)
    · have e3 := of_decide_eq_true e3
      have hj : j.toNat < l.length := by omega
      have hx : l[j.toNat]? = some l[j.toNat] := List.getElem?_eq_getElem hj
      have hdrop : l.drop j.toNat = l[j.toNat] :: l.drop (j + 1).toNat := by
        rw [show (j + 1).toNat = j.toNat + 1 by omega]; exact List.drop_eq_getElem_cons hj
      have htot : (cat (l.drop j.toNat)).size ≤ 12000 := by
        have h5 : all.size = (cat (l.take j.toNat)).size + (cat (l.drop j.toNat)).size := by
          rw [ha, ← app_size, ← cat_app, List.take_append_drop]
        omega
      rw [hdrop] at htot
      simp only [cat, app_size] at htot
      refine A.index e3 (by omega) (fun q hq => ?_)
      have hcell := A.cell (j := 0) hq hx rfl
      rw [add0] at hcell
      refine loadS_i hcell (Sum_spec (by omega) ?_)
      rw [hsum]
      refine Join_spec (by omega) ?_
      refine A.index e3 (by omega) (fun q hq => ?_)
      have hcell := A.cell (j := 0) hq hx rfl
      rw [add0] at hcell
      refine loadS_i hcell ?_
      rw [sub_i64 (by omega) (by omega), add_i64 (by omega) (by omega)]
      refine hk3 _ _ ⟨by show -1 ≤ j - 1; omega, by show j - 1 < _; omega, rfl, ?_, ?_⟩ (by show (j - 1 + 1).toNat < (j + 1).toNat; omega)
      · show N _ = N (crc (cat (l.drop (j - 1 + 1).toNat)))
        rw [show (j - 1 + 1).toNat = j.toNat by omega, hdrop]
        simp only [cat, crc_app, joinR]
        rw [if_neg (by omega), hbe]
        simp
      · show behind + _ = ((cat (l.drop (j - 1 + 1).toNat)).size : Int)
        rw [show (j - 1 + 1).toNat = j.toNat by omega, hdrop]
        simp only [cat, app_size]
        omega
    · have e3 := of_decide_eq_false e3
      have : (j + 1).toNat = 0 := by omega
      rw [this, List.drop_zero, ← ha] at hsum
      refine with_i (fun r _ => r = true) (fun k hk => ?_) (fun _ _ e => e)
      refine Sum_spec (by show all.size ≤ _; omega) ?_
      rw [hsum]
      exact ite_t (by rw [eqN]; simp) (check_spec (hk _ _ rfl))

theorem SumsZeros_holds (a : R) (n m : Int) (h : H) (n0 : 0 ≤ n) (m0 : 0 ≤ m) : law03_SumsZeros (N a, n, m) (fun r _ => r = true) h := by
  unfold law03_SumsZeros
  have hx : 0 ≤ n % 2305843009213693952 ∧ n % 2305843009213693952 < 2305843009213693952 := by omega
  have hy : 0 ≤ m % 2305843009213693952 ∧ m % 2305843009213693952 < 2305843009213693952 := by omega
  simp only [rem_nn n0, rem_nn m0]
  generalize n % 2305843009213693952 = x at *
  generalize m % 2305843009213693952 = y at *
  rw [cnv_i64 (a := x) (by omega) (by omega), cnv_i64 (a := y) (by omega) (by omega)]
  refine must_i (by decide) (must_i (by decide) ?_)
  refine with_b true (fun k hk => ?_) rfl
  refine Join_spec (a := a) (b := 0#32) (n := x) (by omega) (Join_spec (b := 0#32) (n := y) (by omega) ?_)
  rw [add_i64 (by omega) (by omega)]
  refine Join_spec (a := a) (b := 0#32) (n := x + y) (by omega) (ite_t ?_ ?_)
  · rw [eqN, decide_eq_true_iff]
    simp only [joinR]
    rw [if_neg (by omega), if_neg (by omega), if_neg (by omega)]
    simp only [BitVec.xor_zero]
    rw [← ups_add]
    congr 1; omega
  refine Join_spec (a := a) (b := 0#32) (n := 0) (by decide) (ite_t ?_ ?_)
  · rw [eqN, decide_eq_true_iff]
    simp only [joinR]
    rw [if_neg (by decide)]
    simp only [BitVec.xor_zero]
    rfl
  refine Join_spec (a := 0#32) (b := a) (n := x) (by omega) (ite_t ?_ ?_)
  · rw [eqN, decide_eq_true_iff]
    simp only [joinR]
    rw [if_neg (by omega), ups_zero, BitVec.zero_xor]
  refine Join_spec (a := a) (b := 0#32) (n := x) (by omega) (ite_t ?_ (check_spec hk))
  rw [show (0 : Int) = N 0#32 from rfl]
  rw [eqN, eqN, beq_iff_eq, decide_eq_decide]
  simp only [joinR]
  rw [if_neg (by omega), BitVec.xor_zero]
  constructor
  · exact ups_inj
  · rintro rfl; exact ups_zero _
end Go.Cz.S
