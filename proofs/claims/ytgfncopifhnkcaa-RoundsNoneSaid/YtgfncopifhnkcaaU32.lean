/- Part of the proof of a law of 22: an engine that runs a function over an abstract heap, and what the functions compute; own work. -/
import Derived.Test.YtgfncopifhnkcaaCrc
set_option linter.unusedVariables false
set_option linter.unusedSimpArgs false
set_option linter.unusedSectionVars false
/- Whole numbers of 32 bits as registers. -/
namespace Go.Cz.S
open Go Go.Cz Go.Cz.Crc
set_option maxRecDepth 10000

def N (x : R) : Int := (x.toNat : Int)
theorem N_inj {a b : R} : N a = N b ↔ a = b := by
  unfold N
  constructor
  · intro h; apply BitVec.eq_of_toNat_eq; omega
  · rintro rfl; rfl
theorem N_bd (x : R) : 0 ≤ N x ∧ N x ≤ 4294967295 := by unfold N; have := x.isLt; omega
theorem N_of {a : Int} (h0 : 0 ≤ a) (h1 : a ≤ 4294967295) : ∃ x : R, a = N x := ⟨BitVec.ofNat 32 a.toNat, by unfold N; rw [BitVec.toNat_ofNat]; omega⟩
theorem wrapu {n : Int} (h0 : 0 ≤ n) (h1 : n ≤ 4294967295) : IntKind.u32.wrap n = n := by simp [IntKind.wrap, IntKind.bits, IntKind.signed]; omega
theorem ofN (x : R) : BitVec.ofInt 32 (N x) = x := by
  apply BitVec.eq_of_toNat_eq
  unfold N
  rw [BitVec.toNat_ofInt]
  have := x.isLt
  simp; omega
theorem xor_N (a b : R) : xorI .u32 (N a) (N b) = N (a ^^^ b) := by
  unfold xorI
  show IntKind.u32.wrap ((BitVec.ofInt 32 (N a) ^^^ BitVec.ofInt 32 (N b)).toNat : Int) = _
  rw [ofN, ofN]
  exact wrapu (N_bd _).1 (N_bd _).2
theorem and_N (a b : R) : andI .u32 (N a) (N b) = N (a &&& b) := by
  unfold andI
  show IntKind.u32.wrap ((BitVec.ofInt 32 (N a) &&& BitVec.ofInt 32 (N b)).toNat : Int) = _
  rw [ofN, ofN]
  exact wrapu (N_bd _).1 (N_bd _).2
theorem not_N (a : R) : notI .u32 (N a) = N (~~~a) := by
  unfold notI
  have : (if IntKind.u32.signed then (-1 : Int) else IntKind.u32.max) = N (BitVec.allOnes 32) := by decide
  rw [this, xor_N]
  rw [BitVec.allOnes_xor]
theorem shr_N (a : R) (n : Nat) (hn : n ≤ 32) : shr .u32 (N a) (n : Int) = N (a >>> n) := by
  unfold shr N
  rw [BitVec.toNat_ushiftRight, Nat.shiftRight_eq_div_pow]
  have : min ((n : Int)).toNat IntKind.u32.bits = n := by
    have : IntKind.u32.bits = 32 := rfl
    omega
  rw [this]
  simp
theorem shl_N (a : R) : shl .u32 (N a) 1 = N (a <<< 1) := by
  unfold shl N
  have : min ((1 : Int)).toNat IntKind.u32.bits = 1 := by decide
  rw [this, BitVec.toNat_shiftLeft, Nat.shiftLeft_eq]
  simp [IntKind.wrap, IntKind.bits, IntKind.signed]
theorem and1 (a : R) : a &&& 1#32 = if a.getLsbD 0 then 1#32 else 0#32 := by
  apply BitVec.eq_of_getLsbD_eq
  intro i hi
  rw [BitVec.getLsbD_and, BitVec.getLsbD_one]
  by_cases h : i = 0
  · subst h; cases a.getLsbD 0 <;> simp
  · cases a.getLsbD 0 <;> simp [h]
theorem byte_N (b : UInt8) : (b.toNat : Int) = N (BitVec.ofNat 32 b.toNat) := by
  unfold N
  rw [BitVec.toNat_ofNat]
  have := b.toNat_lt
  omega
theorem eqN (a b : R) : eqI (N a) (N b) = decide (a = b) := by rw [eqI_eq, decide_eq_decide]; exact N_inj


theorem or_N (a b : R) : orI .u32 (N a) (N b) = N (a ||| b) := by
  unfold orI
  show IntKind.u32.wrap ((BitVec.ofInt 32 (N a) ||| BitVec.ofInt 32 (N b)).toNat : Int) = _
  rw [ofN, ofN]
  exact wrapu (N_bd _).1 (N_bd _).2
theorem shln_N (a : R) (n : Nat) (hn : n ≤ 32) : shl .u32 (N a) (n : Int) = N (a <<< n) := by
  unfold shl N
  have : min ((n : Int)).toNat IntKind.u32.bits = n := by
    have : IntKind.u32.bits = 32 := rfl
    omega
  rw [this, BitVec.toNat_shiftLeft, Nat.shiftLeft_eq]
  simp [IntKind.wrap, IntKind.bits, IntKind.signed]
end Go.Cz.S
