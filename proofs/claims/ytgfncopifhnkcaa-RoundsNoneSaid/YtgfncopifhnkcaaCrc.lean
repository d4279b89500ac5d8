/- Part of the proof of a law of 22: an engine that runs a function over an abstract heap, and what the functions compute; own work. -/
import Derived.Test.YtgfncopifhnkcaaSpec1
set_option linter.unusedVariables false
set_option linter.unusedSimpArgs false
set_option linter.unusedSectionVars false
/- Registers of 32 bits: multiplication by x, and what bytes make of one. -/
namespace Go.Cz.Crc
abbrev R := BitVec 32
def one : R := 0x80000000#32
def poly : R := 0xedb88320#32
def up (r : R) : R := (r >>> 1) ^^^ (if r.getLsbD 0 then poly else 0#32)
def ups : Nat → R → R
  | 0, r => r
  | n + 1, r => ups n (up r)
theorem xlc (a b c : R) : a ^^^ (b ^^^ c) = b ^^^ (a ^^^ c) := by rw [← BitVec.xor_assoc, BitVec.xor_comm a b, BitVec.xor_assoc]
theorem xself (a b : R) : a ^^^ (a ^^^ b) = b := by rw [← BitVec.xor_assoc, BitVec.xor_self, BitVec.zero_xor]
theorem up_xor (a b : R) : up (a ^^^ b) = up a ^^^ up b := by
  unfold up
  rw [BitVec.getLsbD_xor, BitVec.ushiftRight_xor_distrib]
  generalize a >>> 1 = x
  generalize b >>> 1 = y
  cases a.getLsbD 0 <;> cases b.getLsbD 0
  · simp
  · simp [BitVec.xor_assoc]
  · simp [BitVec.xor_assoc, BitVec.xor_comm poly y]
  · simp [BitVec.xor_assoc, xlc poly y, BitVec.xor_self]
theorem up_zero : up 0#32 = 0#32 := by decide
theorem ups_xor : ∀ (n : Nat) (a b : R), ups n (a ^^^ b) = ups n a ^^^ ups n b
  | 0, a, b => rfl
  | n + 1, a, b => by simp only [ups, up_xor, ups_xor n]
theorem ups_zero : ∀ n : Nat, ups n 0#32 = 0#32
  | 0 => rfl
  | n + 1 => by simp only [ups, up_zero, ups_zero n]
theorem ups_add : ∀ (n m : Nat) (a : R), ups (n + m) a = ups m (ups n a)
  | 0, m, a => by simp [ups]
  | n + 1, m, a => by rw [show n + 1 + m = (n + m) + 1 by omega]; simp only [ups, ups_add n m]
theorem ups_up (n : Nat) (a : R) : ups n (up a) = up (ups n a) := by
  rw [← show ups (1 + n) a = ups n (up a) by rw [ups_add]; rfl, Nat.add_comm, ups_add]; rfl
theorem up_inj {a : R} (h : up a = 0#32) : a = 0#32 := by
  have h31 : (up a).getLsbD 31 = false := by rw [h]; rfl
  unfold up at h h31
  cases ha : a.getLsbD 0 with
  | true =>
    rw [ha] at h31
    simp [BitVec.getLsbD_xor, BitVec.getLsbD_ushiftRight, poly] at h31
  | false =>
    rw [ha] at h
    simp at h
    apply BitVec.eq_of_getLsbD_eq
    intro i hi
    cases i with
    | zero => rw [ha]; rfl
    | succ i =>
      have : (a >>> 1).getLsbD i = false := by rw [h]; simp
      rw [BitVec.getLsbD_ushiftRight] at this
      rw [show i + 1 = 1 + i by omega, this]; simp
theorem ups_inj : ∀ {n : Nat} {a : R}, ups n a = 0#32 → a = 0#32
  | 0, a, h => h
  | n + 1, a, h => up_inj (ups_inj (n := n) h)

/-! ## products -/
def pe : Nat → R → R → R
  | 0, _, _ => 0#32
  | n + 1, r, y => (if r.msb then y else 0#32) ^^^ pe n (r <<< 1) (up y)
theorem xor4 (a b c d : R) : (a ^^^ b) ^^^ (c ^^^ d) = (a ^^^ c) ^^^ (b ^^^ d) := by
  simp only [BitVec.xor_assoc, xlc b c d]
theorem ifx (c : Bool) (a b : R) : (if c then a ^^^ b else 0#32) = (if c then a else 0#32) ^^^ (if c then b else 0#32) := by cases c <;> simp
theorem ifs (c d : Bool) (a : R) : (if (c ^^ d) then a else 0#32) = (if c then a else 0#32) ^^^ (if d then a else 0#32) := by cases c <;> cases d <;> simp
theorem shl_xor (a b : R) : (a ^^^ b) <<< 1 = (a <<< 1) ^^^ (b <<< 1) := by
  rw [BitVec.shiftLeft_xor_distrib]
theorem pe_xr : ∀ (n : Nat) (r s y : R), pe n (r ^^^ s) y = pe n r y ^^^ pe n s y
  | 0, r, s, y => by simp [pe]
  | n + 1, r, s, y => by
    simp only [pe]
    rw [BitVec.msb_xor, shl_xor, pe_xr n, ifs, xor4]
theorem pe_xy : ∀ (n : Nat) (r y z : R), pe n r (y ^^^ z) = pe n r y ^^^ pe n r z
  | 0, r, y, z => by simp [pe]
  | n + 1, r, y, z => by
    simp only [pe]
    rw [up_xor, pe_xy n, ifx, xor4]
theorem pe_up : ∀ (n : Nat) (r y : R), pe n r (up y) = up (pe n r y)
  | 0, r, y => by simp [pe, up_zero]
  | n + 1, r, y => by
    simp only [pe]
    rw [up_xor, pe_up n]
    congr 1
    cases r.msb <;> simp [up_zero]
theorem pe_ups : ∀ (m n : Nat) (r y : R), pe n r (ups m y) = ups m (pe n r y)
  | 0, n, r, y => rfl
  | m + 1, n, r, y => by simp only [ups]; rw [pe_ups m, pe_up]
theorem pe_zero : ∀ (n : Nat) (r : R), pe n r 0#32 = 0#32
  | 0, r => rfl
  | n + 1, r => by simp [pe, up_zero, pe_zero n]
theorem pe_pe : ∀ (n m : Nat) (r s y : R), pe n r (pe m s y) = pe m s (pe n r y)
  | n, 0, r, s, y => by simp [pe, pe_zero]
  | n, m + 1, r, s, y => by
    simp only [pe]
    rw [pe_xy, pe_pe n m, pe_up]
    congr 1
    cases s.msb <;> simp [pe_zero]
theorem pe_r0 : ∀ (n : Nat) (y : R), pe n 0#32 y = 0#32
  | 0, y => rfl
  | n + 1, y => by
    simp only [pe]
    rw [show (0#32 <<< 1 : R) = 0#32 by decide, pe_r0 n]
    simp
theorem one_bit (i : Nat) : one.getLsbD i = decide (i = 31) := by
  by_cases h : i < 32
  · have : ∀ i : Fin 32, one.getLsbD i.val = decide (i.val = 31) := by decide
    exact this ⟨i, h⟩
  · rw [BitVec.getLsbD_of_ge _ _ (by omega)]
    simp; omega
theorem up_one (j : Nat) (h : j < 31) : up (one >>> j) = one >>> (j + 1) := by
  unfold up
  have : (one >>> j).getLsbD 0 = false := by
    rw [BitVec.getLsbD_ushiftRight, one_bit]
    simp; omega
  rw [this]
  simp [BitVec.shiftRight_add]
theorem pe_one_aux : ∀ (n : Nat) (r : R), n ≤ 32 → pe n r (one >>> (32 - n)) = r >>> (32 - n)
  | 0, r, _ => by
    simp only [pe]
    apply BitVec.eq_of_getLsbD_eq
    intro i hi
    rw [BitVec.getLsbD_ushiftRight]
    rw [BitVec.getLsbD_of_ge r _ (by omega)]
    simp
  | n + 1, r, h => by
    simp only [pe]
    have ih := pe_one_aux n (r <<< 1) (by omega)
    have e : pe n (r <<< 1) (up (one >>> (32 - (n + 1)))) = (r <<< 1) >>> (32 - n) := by
      cases n with
      | zero =>
        simp only [pe]
        apply BitVec.eq_of_getLsbD_eq
        intro i hi
        rw [BitVec.getLsbD_ushiftRight, BitVec.getLsbD_of_ge (r <<< 1) _ (by omega)]
        simp
      | succ n =>
        rw [up_one _ (by omega), show 32 - (n + 1 + 1) + 1 = 32 - (n + 1) by omega]
        exact ih
    rw [e]
    apply BitVec.eq_of_getLsbD_eq
    intro i hi
    rw [BitVec.getLsbD_xor, BitVec.getLsbD_ushiftRight, BitVec.getLsbD_ushiftRight, BitVec.getLsbD_shiftLeft]
    have hm : r.msb = r.getLsbD 31 := by rw [BitVec.msb_eq_getLsbD_last]
    have h1 : (if r.msb then one >>> (32 - (n + 1)) else 0#32).getLsbD i = (r.getLsbD 31 && decide (i = n)) := by
      rw [hm]
      cases r.getLsbD 31
      · simp
      · simp only [if_true, BitVec.getLsbD_ushiftRight, one_bit, Bool.true_and, decide_eq_decide]
        omega
    rw [h1]
    by_cases hn : i = n
    · subst hn
      simp [show 32 - i + i = 32 by omega, show 32 - (i + 1) + i = 31 by omega, show 31 - i + i = 31 by omega]
    · by_cases hlt : i < n
      · simp [hn, show 32 - n + i < 32 by omega, show ¬ (32 - n + i < 1) by omega, show 32 - n + i - 1 = 32 - (n + 1) + i by omega]
      · simp [hn, show ¬ (32 - n + i < 32) by omega]
        rw [BitVec.getLsbD_of_ge r _ (by omega)]
theorem pe_one (y : R) : pe 32 y one = y := by
  have := pe_one_aux 32 y (Nat.le_refl _)
  simpa using this
theorem ups32_one : ups 32 one = pe 32 poly one := by decide +kernel
theorem ups32 (y : R) : ups 32 y = pe 32 poly y := by
  have h1 : pe 32 y (ups 32 one) = ups 32 y := by rw [pe_ups, pe_one]
  rw [← h1, ups32_one, pe_pe, pe_one]
theorem pe_last : ∀ (n : Nat) (r y : R), pe (n + 1) r y = pe n r y ^^^ (if r.getMsbD n then ups n y else 0#32)
  | 0, r, y => by
    simp only [pe, ups]
    rw [← BitVec.msb_eq_getMsbD_zero]
    simp
  | n + 1, r, y => by
    have ih := pe_last n (r <<< 1) (up y)
    have e : pe (n + 1 + 1) r y = (if r.msb then y else 0#32) ^^^ pe (n + 1) (r <<< 1) (up y) := rfl
    have e2 : pe (n + 1) r y = (if r.msb then y else 0#32) ^^^ pe n (r <<< 1) (up y) := rfl
    rw [e, e2, ih, BitVec.xor_assoc]
    congr 2
    simp only [ups]
    have : (r <<< 1).getMsbD n = r.getMsbD (n + 1) := by
      rw [BitVec.getMsbD_shiftLeft]
    rw [this]
theorem pe_low : ∀ (n j : Nat) (y : R), n + j ≤ 31 → pe n (1#32 <<< j) y = 0#32
  | 0, j, y, _ => rfl
  | n + 1, j, y, h => by
    simp only [pe]
    have hm : (1#32 <<< j).msb = false := by
      rw [BitVec.msb_eq_getLsbD_last, BitVec.getLsbD_shiftLeft]
      have : (1#32).getLsbD (31 - j) = false := by
        have hj : 31 - j = (31 - j - 1) + 1 := by omega
        rw [hj, BitVec.getLsbD_one]
        simp
      simp [this]
    rw [hm, ← BitVec.shiftLeft_add, pe_low n (j + 1) (up y) (by omega)]
    simp
theorem shr_split (r : R) : r = (r >>> 1) <<< 1 ^^^ (if r.getLsbD 0 then 1#32 else 0#32) := by
  apply BitVec.eq_of_getLsbD_eq
  intro i hi
  rw [BitVec.getLsbD_xor, BitVec.getLsbD_shiftLeft, BitVec.getLsbD_ushiftRight]
  cases i with
  | zero => cases r.getLsbD 0 <;> simp
  | succ i =>
    cases r.getLsbD 0 <;> simp [show 1 + i = i + 1 by omega, hi]
theorem pe_up_r (r y : R) : pe 32 (up r) y = up (pe 32 r y) := by
  unfold up
  have h1 : pe 32 (r >>> 1) y = pe 31 r (up y) := by
    have e : pe 32 (r >>> 1) y = (if (r >>> 1).msb then y else 0#32) ^^^ pe 31 ((r >>> 1) <<< 1) (up y) := rfl
    have hm : (r >>> 1).msb = false := by
      rw [BitVec.msb_eq_getLsbD_last, BitVec.getLsbD_ushiftRight]
      exact BitVec.getLsbD_of_ge _ _ (by decide)
    rw [e, hm]
    have h3 : pe 31 r (up y) = pe 31 ((r >>> 1) <<< 1) (up y) ^^^ pe 31 (if r.getLsbD 0 then 1#32 else 0#32) (up y) := by
      rw [← pe_xr, ← shr_split]
    have h4 : pe 31 (if r.getLsbD 0 then 1#32 else 0#32) (up y) = 0#32 := by
      cases r.getLsbD 0
      · exact pe_r0 _ _
      · have := pe_low 31 0 (up y) (by decide)
        simpa using this
    rw [h3, h4]
    simp
  have h2 : pe 32 r y = pe 31 r y ^^^ (if r.getMsbD 31 then ups 31 y else 0#32) := pe_last 31 r y
  have hl : r.getMsbD 31 = r.getLsbD 0 := by simp [BitVec.getMsbD]
  rw [pe_xr, h1, pe_up]
  show up (pe 31 r y) ^^^ pe 32 (if r.getLsbD 0 then poly else 0#32) y = up (pe 32 r y)
  rw [h2, up_xor, hl]
  congr 1
  cases r.getLsbD 0
  · simp [pe_r0, up_zero]
  · simp only [if_true]
    rw [← ups32 y, ← ups_up]; rfl
theorem pe_ups_r : ∀ (i : Nat) (r y : R), pe 32 (ups i r) y = ups i (pe 32 r y)
  | 0, r, y => rfl
  | i + 1, r, y => by
    simp only [ups]
    rw [pe_ups_r i, pe_up_r]
theorem pe_one_r (y : R) : pe 32 one y = y := by
  have e : pe 32 one y = (if one.msb then y else 0#32) ^^^ pe 31 (one <<< 1) (up y) := rfl
  rw [e, show (one <<< 1 : R) = 0#32 by decide, pe_r0]
  simp [show one.msb = true by decide]
theorem pe_upsone (i : Nat) (y : R) : pe 32 (ups i one) y = ups i y := by rw [pe_ups_r, pe_one_r]
theorem pe_by (a : R) (i : Nat) : pe 32 a (ups i one) = ups i a := by rw [pe_ups, pe_one]

/-! ## bytes -/
def inb (r : R) (b : UInt8) : R := ups 8 (r ^^^ BitVec.ofNat 32 b.toNat)
def goes : R → List UInt8 → R
  | r, [] => r
  | r, b :: l => goes (inb r b) l
theorem goes_app : ∀ (l m : List UInt8) (r : R), goes r (l ++ m) = goes (goes r l) m
  | [], m, r => rfl
  | b :: l, m, r => by simp only [List.cons_append, goes, goes_app l m]
theorem goes_split : ∀ (l : List UInt8) (r s : R), goes (r ^^^ s) l = ups (8 * l.length) r ^^^ goes s l
  | [], r, s => by simp [goes, ups]
  | b :: l, r, s => by
    simp only [goes, inb, List.length_cons]
    rw [BitVec.xor_assoc, ups_xor, goes_split l, ← ups_add]
    congr 2; omega
theorem goes_from (l : List UInt8) (r : R) : goes r l = ups (8 * l.length) r ^^^ goes 0#32 l := by
  have := goes_split l r 0#32
  simpa using this
def zeros (n : Nat) : List UInt8 := List.replicate n 0
theorem goes_zeros : ∀ (n : Nat) (r : R), goes r (zeros n) = ups (8 * n) r
  | 0, r => rfl
  | n + 1, r => by
    have e : zeros (n + 1) = 0 :: zeros n := rfl
    rw [e]
    simp only [goes, inb]
    rw [goes_zeros n]
    have : (BitVec.ofNat 32 (0 : UInt8).toNat) = 0#32 := by decide
    rw [this, BitVec.xor_zero, ← ups_add]
    congr 1; omega
theorem byte_xor (a b : UInt8) : BitVec.ofNat 32 (a ^^^ b).toNat = BitVec.ofNat 32 a.toNat ^^^ BitVec.ofNat 32 b.toNat := by
  rw [UInt8.toNat_xor]
  apply BitVec.eq_of_getLsbD_eq
  intro i hi
  simp [BitVec.getLsbD_ofNat, Nat.testBit_xor, hi]
theorem goes_xor : ∀ (l m : List UInt8) (r s : R), l.length = m.length → goes (r ^^^ s) (List.zipWith (· ^^^ ·) l m) = goes r l ^^^ goes s m
  | [], [], r, s, _ => rfl
  | a :: l, b :: m, r, s, h => by
    simp only [List.zipWith_cons_cons, goes]
    rw [← goes_xor l m _ _ (by simpa using h)]
    congr 1
    simp only [inb]
    rw [byte_xor, ← ups_xor, xor4]
  | [], _ :: _, _, _, h => by simp at h
  | _ :: _, [], _, _, h => by simp at h
/-- a word's bytes, the lowest first -/
def word (w : R) : List UInt8 := [UInt8.ofNat w.toNat, UInt8.ofNat (w >>> 8).toNat, UInt8.ofNat (w >>> 16).toNat, UInt8.ofNat (w >>> 24).toNat]
theorem up_even (z : R) (h : z.getLsbD 0 = false) : up z = z >>> 1 := by unfold up; rw [h]; simp
theorem ups_low : ∀ (n : Nat) (z : R), (∀ i, i < n → z.getLsbD i = false) → ups n z = z >>> n
  | 0, z, _ => by simp [ups]
  | n + 1, z, h => by
    simp only [ups]
    rw [up_even z (h 0 (by omega)), ups_low n (z >>> 1) (fun i hi => by rw [BitVec.getLsbD_ushiftRight]; exact h (1 + i) (by omega))]
    rw [← BitVec.shiftRight_add]; congr 1; omega
theorem ups8_word (w : R) : ups 8 w = ups 8 (BitVec.ofNat 32 (UInt8.ofNat w.toNat).toNat) ^^^ (w >>> 8) := by
  have e : w = BitVec.ofNat 32 (UInt8.ofNat w.toNat).toNat ^^^ ((w >>> 8) <<< 8) := by
    apply BitVec.eq_of_getLsbD_eq
    intro i hi
    rw [BitVec.getLsbD_xor, BitVec.getLsbD_shiftLeft, BitVec.getLsbD_ushiftRight, BitVec.getLsbD_ofNat]
    have : (UInt8.ofNat w.toNat).toNat = w.toNat % 256 := by simp
    rw [this, show (256 : Nat) = 2 ^ 8 by rfl, Nat.testBit_mod_two_pow]
    by_cases h8 : i < 8
    · simp [h8, hi, BitVec.getLsbD]
    · simp [h8, hi, show 8 + (i - 8) = i by omega]
  have h2 : ups 8 ((w >>> 8) <<< 8) = w >>> 8 := by
    rw [ups_low 8 _ (fun i hi => by simp [BitVec.getLsbD_shiftLeft, hi])]
    apply BitVec.eq_of_getLsbD_eq
    intro i hi
    simp only [BitVec.getLsbD_ushiftRight, BitVec.getLsbD_shiftLeft]
    by_cases h : 8 + i < 32
    · simp [h]
    · simp [h]
      rw [BitVec.getLsbD_of_ge w _ (by omega)]
  conv => lhs; rw [e]
  rw [ups_xor, h2]
theorem goes_word (r w : R) : goes r (word w) = ups 32 (r ^^^ w) := by
  rw [goes_from]
  show ups 32 r ^^^ goes 0#32 (word w) = _
  rw [ups_xor]
  congr 1
  have a1 := ups8_word w
  have a2 := ups8_word (w >>> 8)
  have a3 := ups8_word (w >>> 16)
  have a4 := ups8_word (w >>> 24)
  have s1 : w >>> 8 >>> 8 = w >>> 16 := by rw [← BitVec.shiftRight_add]
  have s2 : w >>> 16 >>> 8 = w >>> 24 := by rw [← BitVec.shiftRight_add]
  have s3 : w >>> 24 >>> 8 = 0#32 := by
    rw [← BitVec.shiftRight_add]
    apply BitVec.eq_of_getLsbD_eq
    intro i hi
    rw [BitVec.getLsbD_ushiftRight, BitVec.getLsbD_of_ge w _ (by omega)]; simp
  rw [s1] at a2; rw [s2] at a3; rw [s3] at a4
  have h32 : ups 32 w = ups 8 (ups 8 (ups 8 (ups 8 w))) := by rw [← ups_add, ← ups_add, ← ups_add]
  have e2 := congrArg (ups 8) a1
  rw [ups_xor, a2, ← BitVec.xor_assoc, ← ups_xor] at e2
  have e3 := congrArg (ups 8) e2
  rw [ups_xor, a3, ← BitVec.xor_assoc, ← ups_xor] at e3
  have e4 := congrArg (ups 8) e3
  rw [ups_xor, a4, ← BitVec.xor_assoc, ← ups_xor, BitVec.xor_zero] at e4
  rw [h32, e4]
  simp only [word, goes, inb, BitVec.zero_xor]
end Go.Cz.Crc
