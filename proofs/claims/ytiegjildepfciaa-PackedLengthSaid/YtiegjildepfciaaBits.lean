/- Part of the proof of a law of 04: an engine that runs a function over an abstract heap, and what the functions compute; own work. -/
import Derived.Test.YtiegjildepfciaaSpec1
set_option linter.unusedVariables false
set_option linter.unusedSimpArgs false
set_option linter.unusedSectionVars false
/- Numbers and their bytes, the lowest first; how many bits a number asks for. -/
namespace Go.Cz.Bits
open Go.Cz

/-! ## bytes of a number -/
def val : List UInt8 → Nat
  | [] => 0
  | b :: l => b.toNat + 256 * val l
def bytes : Nat → Nat → List UInt8
  | 0, _ => []
  | n + 1, v => UInt8.ofNat v :: bytes n (v / 256)
theorem bytes_len : ∀ (n v : Nat), (bytes n v).length = n
  | 0, v => rfl
  | n + 1, v => by simp [bytes, bytes_len n]
theorem ofNat_mod (v : Nat) : (UInt8.ofNat v).toNat = v % 256 := by simp
theorem val_bytes : ∀ (n v : Nat), val (bytes n v) = v % 256 ^ n
  | 0, v => by simp [bytes, val, Nat.mod_one]
  | n + 1, v => by
    simp only [bytes, val]
    rw [val_bytes n, ofNat_mod, Nat.pow_succ, Nat.mul_comm (256 ^ n) 256, Nat.mod_mul]
theorem val_lt : ∀ l : List UInt8, val l < 256 ^ l.length
  | [] => by simp [val]
  | b :: l => by
    simp only [val, List.length_cons, Nat.pow_succ]
    have := val_lt l
    have := b.toNat_lt
    omega
theorem bytes_val : ∀ l : List UInt8, bytes l.length (val l) = l
  | [] => rfl
  | b :: l => by
    simp only [val, List.length_cons, bytes]
    have hb := b.toNat_lt
    rw [show (b.toNat + 256 * val l) / 256 = val l by omega, bytes_val l]
    congr 1
    apply UInt8.toNat_inj.1
    rw [ofNat_mod]; omega
theorem val_append : ∀ l m : List UInt8, val (l ++ m) = val l + 256 ^ l.length * val m
  | [], m => by simp [val]
  | b :: l, m => by
    simp only [List.cons_append, val, List.length_cons, Nat.pow_succ]
    rw [val_append l m, Nat.mul_add, Nat.mul_comm (256 ^ l.length) 256, Nat.mul_assoc]; omega
theorem val_drop (l : List UInt8) (k : Nat) : val (l.drop k) = val l / 256 ^ k := by
  by_cases h : k ≤ l.length
  · have e : val l = val (l.take k) + 256 ^ k * val (l.drop k) := by
      conv => lhs; rw [← List.take_append_drop k l]
      rw [val_append, List.length_take, Nat.min_eq_left h]
    have h2 := val_lt (l.take k)
    rw [List.length_take, Nat.min_eq_left h] at h2
    rw [e, Nat.add_mul_div_left _ _ (Nat.pow_pos (by decide)), Nat.div_eq_of_lt h2, Nat.zero_add]
  · rw [List.drop_eq_nil_of_le (by omega)]
    have h2 := val_lt l
    have : 256 ^ l.length ≤ 256 ^ k := Nat.pow_le_pow_right (by decide) (by omega)
    rw [Nat.div_eq_of_lt (by omega)]; rfl
theorem val_take (l : List UInt8) (k : Nat) : val (l.take k) = val l % 256 ^ k := by
  by_cases h : k ≤ l.length
  · have e : val l = val (l.take k) + 256 ^ k * val (l.drop k) := by
      conv => lhs; rw [← List.take_append_drop k l]
      rw [val_append, List.length_take, Nat.min_eq_left h]
    have h2 := val_lt (l.take k)
    rw [List.length_take, Nat.min_eq_left h] at h2
    rw [e, Nat.add_mul_mod_self_left, Nat.mod_eq_of_lt h2]
  · rw [List.take_of_length_le (by omega)]
    have h2 := val_lt l
    have : 256 ^ l.length ≤ 256 ^ k := Nat.pow_le_pow_right (by decide) (by omega)
    rw [Nat.mod_eq_of_lt (by omega)]
theorem val_get (l : List UInt8) (k : Nat) {b : UInt8} (h : l[k]? = some b) : b.toNat = val l / 256 ^ k % 256 := by
  have hk := (List.getElem?_eq_some_iff.1 h).1
  have e := List.drop_eq_getElem_cons hk
  rw [(List.getElem?_eq_some_iff.1 h).2] at e
  rw [← val_drop, e]
  simp only [val]
  have := b.toNat_lt
  omega
theorem bytes_get : ∀ (n v k : Nat), k < n → (bytes n v)[k]? = some (UInt8.ofNat (v / 256 ^ k))
  | 0, v, k, h => by omega
  | n + 1, v, 0, h => by simp [bytes]
  | n + 1, v, k + 1, h => by
    simp only [bytes, List.getElem?_cons_succ]
    rw [bytes_get n (v / 256) k (by omega), Nat.div_div_eq_div_mul, Nat.pow_succ, Nat.mul_comm]
theorem pow256 (k : Nat) : 256 ^ k = 2 ^ (8 * k) := by rw [Nat.pow_mul]
theorem bytes_app (n k v : Nat) : bytes (n + k) v = bytes n v ++ bytes k (v / 256 ^ n) := by
  induction n generalizing v with
  | zero => simp [bytes]
  | succ n ih =>
    rw [show n + 1 + k = (n + k) + 1 by omega]
    simp only [bytes, List.cons_append, ih]
    rw [Nat.div_div_eq_div_mul, Nat.pow_succ, Nat.mul_comm 256]
/-- one bit more -/
theorem bytes_bit {n v m : Nat} (hv : v < 2 ^ m) (hm : m < 8 * n) : bytes n (v + 2 ^ m) = (bytes n v).set (m / 8) (UInt8.ofNat (v / 256 ^ (m / 8) % 256 + 2 ^ (m % 8))) := by
  apply List.ext_getElem?
  intro j
  by_cases hj : j < n
  · rw [bytes_get _ _ _ hj]
    have e2 : 2 ^ m = 256 ^ (m / 8) * 2 ^ (m % 8) := by rw [pow256, ← Nat.pow_add]; congr 1; omega
    by_cases e : j = m / 8
    · subst e
      rw [List.getElem?_set_self (by rw [bytes_len]; exact hj)]
      congr 1
      apply UInt8.toNat_inj.1
      rw [ofNat_mod, ofNat_mod, e2, Nat.add_mul_div_left _ _ (Nat.pow_pos (by decide))]
      omega
    · rw [List.getElem?_set_ne (fun h => e h.symm), bytes_get _ _ _ hj]
      congr 1
      apply UInt8.toNat_inj.1
      rw [ofNat_mod, ofNat_mod]
      by_cases h : j < m / 8
      · have e3 : 2 ^ m = 256 ^ j * (256 * (256 ^ (m / 8 - j - 1) * 2 ^ (m % 8))) := by
          rw [e2]
          have : m / 8 = j + (1 + (m / 8 - j - 1)) := by omega
          conv => lhs; rw [this, Nat.pow_add, Nat.pow_add, Nat.pow_one]
          simp only [Nat.mul_assoc]
        rw [e3, Nat.add_mul_div_left _ _ (Nat.pow_pos (by decide)), Nat.add_mul_mod_self_left]
      · have h1 : v + 2 ^ m < 256 ^ j := by
          have : 2 ^ (m + 1) ≤ 256 ^ j := by rw [pow256]; exact Nat.pow_le_pow_right (by decide) (by omega)
          rw [Nat.pow_succ] at this; omega
        rw [Nat.div_eq_of_lt h1, Nat.div_eq_of_lt (by omega : v < 256 ^ j)]
  · rw [List.getElem?_eq_none (by rw [bytes_len]; omega), List.getElem?_eq_none (by rw [List.length_set, bytes_len]; omega)]

/-! ## numbers side by side -/
def cat (w : Nat) : List Nat → Nat
  | [] => 0
  | n :: l => n + 2 ^ w * cat w l
theorem cat_app (w : Nat) : ∀ l m : List Nat, cat w (l ++ m) = cat w l + 2 ^ (l.length * w) * cat w m
  | [], m => by simp [cat]
  | n :: l, m => by
    simp only [List.cons_append, cat, List.length_cons]
    rw [cat_app w l m, Nat.mul_add, ← Nat.mul_assoc, ← Nat.pow_add, Nat.succ_mul, Nat.add_comm w]; omega
theorem cat_lt (w : Nat) : ∀ l : List Nat, (∀ n ∈ l, n < 2 ^ w) → cat w l < 2 ^ (l.length * w)
  | [], _ => by simp [cat]
  | n :: l, h => by
    have h1 := h n (by simp)
    have h2 := cat_lt w l (fun n hn => h n (by simp [hn]))
    simp only [cat, List.length_cons, Nat.succ_mul, Nat.pow_add]
    have : 2 ^ w * (cat w l + 1) ≤ 2 ^ w * 2 ^ (l.length * w) := Nat.mul_le_mul_left _ h2
    rw [Nat.mul_add, Nat.mul_one] at this
    rw [Nat.mul_comm (2 ^ (l.length * w))]; omega
theorem cat_get (w : Nat) : ∀ (l : List Nat) (i n : Nat), (∀ n ∈ l, n < 2 ^ w) → l[i]? = some n → cat w l / 2 ^ (i * w) % 2 ^ w = n
  | [], i, n, h, hi => by simp at hi
  | m :: l, 0, n, h, hi => by
    simp at hi; subst hi
    simp only [cat, Nat.zero_mul, Nat.pow_zero, Nat.div_one]
    rw [Nat.add_mul_mod_self_left, Nat.mod_eq_of_lt (h m (by simp))]
  | m :: l, i + 1, n, h, hi => by
    have hm := h m (by simp)
    simp only [cat]
    rw [Nat.succ_mul, Nat.add_comm (i * w), Nat.pow_add, ← Nat.div_div_eq_div_mul, Nat.add_mul_div_left _ _ (Nat.pow_pos (by decide)), Nat.div_eq_of_lt hm, Nat.zero_add]
    exact cat_get w l i n (fun n hn => h n (by simp [hn])) (by simpa using hi)
/-- the numbers of so many bits -/
def nums (w v many : Nat) : List Nat := (List.range many).map fun i => v / 2 ^ (i * w) % 2 ^ w
theorem nums_len (w v many : Nat) : (nums w v many).length = many := by simp [nums]
theorem nums_lt (w v many : Nat) : ∀ n ∈ nums w v many, n < 2 ^ w := by
  intro n hn
  simp only [nums, List.mem_map] at hn
  obtain ⟨i, _, rfl⟩ := hn
  exact Nat.mod_lt _ (Nat.pow_pos (by decide))
theorem nums_get {w v many i : Nat} (h : i < many) : (nums w v many)[i]? = some (v / 2 ^ (i * w) % 2 ^ w) := by simp [nums, List.getElem?_range h]
theorem cat_nums (w v : Nat) : ∀ many, cat w (nums w v many) = v % 2 ^ (many * w)
  | 0 => by simp [nums, cat, Nat.mod_one]
  | n + 1 => by
    have e : nums w v (n + 1) = nums w v n ++ [v / 2 ^ (n * w) % 2 ^ w] := by simp [nums, List.range_succ]
    rw [e, cat_app, cat_nums w v n, nums_len]
    simp only [cat, Nat.mul_zero, Nat.add_zero]
    rw [Nat.succ_mul, Nat.pow_add, Nat.mod_mul]

/-! ## how many bits -/
def blen (n : Nat) : Nat := if n = 0 then 0 else n.log2 + 1
theorem blen_le {n w : Nat} : blen n ≤ w ↔ n < 2 ^ w := by
  unfold blen
  by_cases h : n = 0
  · subst h; simp [Nat.pow_pos]
  · rw [if_neg h]
    rw [← Nat.log2_lt h]
    omega
theorem blen_shift {n k : Nat} (h : 2 ^ k ≤ n) : blen n = k + blen (n / 2 ^ k) := by
  apply Nat.le_antisymm
  · rw [blen_le, Nat.pow_add]
    have := blen_le.1 (Nat.le_refl (blen (n / 2 ^ k)))
    rw [Nat.mul_comm]
    exact (Nat.div_lt_iff_lt_mul (Nat.pow_pos (by decide))).1 this
  · have hk : k ≤ blen n := by
      by_cases h2 : k ≤ blen n
      · exact h2
      · have := blen_le.1 (show blen n ≤ k by omega)
        omega
    have : blen (n / 2 ^ k) ≤ blen n - k := by
      rw [blen_le]
      have h3 := blen_le.1 (Nat.le_refl (blen n))
      rw [Nat.div_lt_iff_lt_mul (Nat.pow_pos (by decide)), ← Nat.pow_add, show blen n - k + k = blen n by omega]
      exact h3
    omega
end Go.Cz.Bits
