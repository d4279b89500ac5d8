/- Part of the proof of a law of 04: an engine that runs a function over an abstract heap, and what the functions compute; own work. -/
import Derived.Test.YtiegjildepfciaaBits
set_option linter.unusedVariables false
set_option linter.unusedSimpArgs false
set_option linter.unusedSectionVars false
/- Whole numbers of 64 and of 8 bits, without sign. -/
namespace Go.Cz.S
open Go Go.Cz Go.Cz.Bits
theorem wrap_u64 {n : Nat} (h : n < 18446744073709551616) : IntKind.u64.wrap (n : Int) = n := by simp [IntKind.wrap, IntKind.bits, IntKind.signed]; omega
theorem ofInt64 {n : Nat} (h : n < 18446744073709551616) : (BitVec.ofInt 64 (n : Int)).toNat = n := by
  rw [BitVec.toNat_ofInt]; simp; omega
theorem or64 {a c k : Nat} (ha : a < 2 ^ k) (h : a + c * 2 ^ k < 18446744073709551616) : orI .u64 (a : Int) ((c * 2 ^ k : Nat) : Int) = ((a + c * 2 ^ k : Nat) : Int) := by
  unfold orI
  show IntKind.u64.wrap ((BitVec.ofInt 64 (a : Int) ||| BitVec.ofInt 64 ((c * 2 ^ k : Nat) : Int)).toNat : Int) = _
  rw [BitVec.toNat_or, ofInt64 (by omega), ofInt64 (by omega)]
  have e : a ||| c * 2 ^ k = a + c * 2 ^ k := by
    have := Nat.two_pow_add_eq_or_of_lt ha c
    rw [Nat.or_comm, Nat.mul_comm c, ← this]; omega
  rw [e, wrap_u64 h]
theorem shl64 {a k : Nat} (hk : k ≤ 64) (h : a * 2 ^ k < 18446744073709551616) : shl .u64 (a : Int) (k : Int) = ((a * 2 ^ k : Nat) : Int) := by
  unfold shl
  have : min ((k : Int)).toNat IntKind.u64.bits = k := by
    have : IntKind.u64.bits = 64 := rfl
    omega
  rw [this, ← wrap_u64 h]
  congr 1
theorem shr64 {a k : Nat} (hk : k ≤ 64) : shr .u64 (a : Int) (k : Int) = ((a / 2 ^ k : Nat) : Int) := by
  unfold shr
  have : min ((k : Int)).toNat IntKind.u64.bits = k := by
    have : IntKind.u64.bits = 64 := rfl
    omega
  rw [this]; simp
theorem shr_i64 {a k : Nat} (hk : k ≤ 64) : shr .i64 (a : Int) (k : Int) = ((a / 2 ^ k : Nat) : Int) := by
  unfold shr
  have : min ((k : Int)).toNat IntKind.i64.bits = k := by
    have : IntKind.i64.bits = 64 := rfl
    omega
  rw [this]; simp
theorem shr_u8 {a k : Nat} (hk : k ≤ 8) : shr .u8 (a : Int) (k : Int) = ((a / 2 ^ k : Nat) : Int) := by
  unfold shr
  have : min ((k : Int)).toNat IntKind.u8.bits = k := by
    have : IntKind.u8.bits = 8 := rfl
    omega
  rw [this]; simp
theorem shr_u32 {a k : Nat} (hk : k ≤ 32) : shr .u32 (a : Int) (k : Int) = ((a / 2 ^ k : Nat) : Int) := by
  unfold shr
  have : min ((k : Int)).toNat IntKind.u32.bits = k := by
    have : IntKind.u32.bits = 32 := rfl
    omega
  rw [this]; simp
theorem pow_lt64 {k : Nat} (h : k ≤ 62) : (2 : Nat) ^ k ≤ 4611686018427387904 := by
  have : (2 : Nat) ^ k ≤ 2 ^ 62 := Nat.pow_le_pow_right (by decide) h
  omega
theorem shl_i64 {k : Nat} (hk : k ≤ 62) : shl .i64 1 (k : Int) = ((2 ^ k : Nat) : Int) := by
  unfold shl
  have : min ((k : Int)).toNat IntKind.i64.bits = k := by
    have : IntKind.i64.bits = 64 := rfl
    omega
  rw [this]
  have h2 := pow_lt64 hk
  rw [Int.one_mul]
  have e : (2 : Int) ^ k = ((2 ^ k : Nat) : Int) := by simp
  rw [e]
  have h0 : (0 : Int) ≤ ((2 ^ k : Nat) : Int) := Int.natCast_nonneg _
  generalize (2 ^ k : Nat) = x at *
  exact wrap64 (by omega) (by omega)
theorem and64 {x w : Nat} (hx : x < 18446744073709551616) (hw : w ≤ 62) : andI .u64 (x : Int) ((2 ^ w - 1 : Nat) : Int) = ((x % 2 ^ w : Nat) : Int) := by
  unfold andI
  show IntKind.u64.wrap ((BitVec.ofInt 64 (x : Int) &&& BitVec.ofInt 64 ((2 ^ w - 1 : Nat) : Int)).toNat : Int) = _
  have h2 := pow_lt64 hw
  rw [BitVec.toNat_and, ofInt64 hx, ofInt64 (by omega), Nat.and_two_pow_sub_one_eq_mod, wrap_u64]
  have := Nat.mod_le x (2 ^ w)
  omega
theorem sub_u64 {a b : Nat} (h : b ≤ a) (ha : a < 18446744073709551616) : sub .u64 (a : Int) (b : Int) = ((a - b : Nat) : Int) := by
  unfold sub
  rw [show (a : Int) - b = ((a - b : Nat) : Int) by omega, wrap_u64 (by omega)]
theorem cnv_u64 {n : Int} (h0 : 0 ≤ n) (h1 : n < 18446744073709551616) : cnv .u64 n = n := by
  unfold cnv
  have := wrap_u64 (n := n.toNat) (by omega)
  rw [show ((n.toNat : Nat) : Int) = n by omega] at this; exact this
theorem cnv_u8 (n : Nat) : cnv .u8 (n : Int) = ((UInt8.ofNat n).toNat : Int) := by
  unfold cnv
  simp [IntKind.wrap, IntKind.bits, IntKind.signed]
theorem wrap_u8 (n : Nat) : IntKind.u8.wrap (n : Int) = ((UInt8.ofNat n).toNat : Int) := by have := cnv_u8 n; unfold cnv at this; exact this
theorem rem_n {a b : Nat} : rem (a : Int) (b : Int) = ((a % b : Nat) : Int) := by rw [rem_nn (Int.natCast_nonneg a)]; simp
theorem quo_n {a b : Nat} (hb : 0 < b) (h : a ≤ 9223372036854775807) : quo .i64 (a : Int) (b : Int) = ((a / b : Nat) : Int) := by
  rw [quo_i64 (by omega) (by omega) (by omega)]; simp
theorem add_n {a b : Nat} (h : a + b ≤ 9223372036854775807) : add .i64 (a : Int) (b : Int) = ((a + b : Nat) : Int) := by rw [add_i64 (by omega) (by omega)]; simp
theorem mul_n {a b : Nat} (h : a * b ≤ 9223372036854775807) : mul .i64 (a : Int) (b : Int) = ((a * b : Nat) : Int) := by
  rw [mul_i64 (by have := Int.mul_nonneg (Int.natCast_nonneg a) (Int.natCast_nonneg b); omega) (by rw [← Int.natCast_mul]; omega)]; simp
theorem sub_n {a b : Nat} (h : b ≤ a) (h2 : a ≤ 9223372036854775807) : sub .i64 (a : Int) (b : Int) = ((a - b : Nat) : Int) := by rw [sub_i64 (by omega) (by omega)]; omega
end Go.Cz.S
