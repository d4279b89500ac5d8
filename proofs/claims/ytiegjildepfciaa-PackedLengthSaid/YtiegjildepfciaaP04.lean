/- Part of the proof of a law of 04: an engine that runs a function over an abstract heap, and what the functions compute; own work. -/
import Derived.Test.YtiegjildepfciaaD04
import Derived.Test.YtiegjildepfciaaU64
import Derived.Test.YtiegjildepfciaaBytes
set_option linter.unusedVariables false
set_option linter.unusedSimpArgs false
set_option linter.unusedSectionVars false
/- Chapter 4: what the functions of the packed tables compute, and the laws. -/
namespace Go.Cz.S
open Go Go.Cz Go.Cz.Bits
set_option maxRecDepth 10000

/-! ## lists of whole numbers -/
theorem Same_spec {a b : Sl} {l m : List Int} {h : H} {Q : Bool → HProp} (A : Arr h a (eI .i64) l) (B : Arr h b (eI .i64) m) (hl : l.length ≤ 140737488355328) (hQ : Q (decide (l = m)) h) : law02_Same (a, b) Q h := by
  unfold law02_Same
  have la := A.len
  have lb := B.len
  simp only [eqI_eq, ltI_eq]
  refine ite_i (fun e => ?_) (fun e => ?_)
  · have : l ≠ m := by rintro rfl; simp [la, lb] at e
    rw [decide_eq_false this] at hQ; exact hQ
  · have hlm : l.length = m.length := by simp at e; omega
    refine loop_i (fun i h2 => 0 ≤ i ∧ i ≤ l.length ∧ h2 = h ∧ l.take i.toNat = m.take i.toNat) (fun i => (l.length - i).toNat) ⟨Int.le_refl _, by omega, rfl, by simp⟩ ?_
    rintro i h2 ⟨i0, i1, rfl, hj⟩ k hk
    refine ite_i (fun e => ?_) (fun e => ?_)
    · have hi : i.toNat < l.length := by simp at e; omega
      have hx : l[i.toNat]? = some l[i.toNat] := by simp [hi]
      have hy : m[i.toNat]? = some m[i.toNat] := by simp [hlm ▸ hi]
      refine A.index i0 (by omega) (fun p hp => ?_)
      have c1 := A.cell (j := 0) hp hx rfl
      rw [add0] at c1
      refine loadI_i c1 (B.index i0 (by omega) (fun q hq => ?_))
      have c2 := B.cell (j := 0) hq hy rfl
      rw [add0] at c2
      refine loadI_i c2 (ite_i (fun e2 => ?_) (fun e2 => ?_))
      · have : l ≠ m := by rintro rfl; simp at e2
        rw [decide_eq_false this] at hQ; exact hQ
      · rw [add_i64 (by omega) (by omega)]
        refine hk _ _ ⟨by omega, by omega, rfl, ?_⟩ (by omega)
        rw [show (i + 1).toNat = i.toNat + 1 by omega, List.take_add_one, List.take_add_one, hj, hx, hy]
        simp at e2
        rw [e2]
    · have hi : l.length ≤ i.toNat := by simp at e; omega
      have : l = m := by
        rw [List.take_of_length_le hi, List.take_of_length_le (by omega)] at hj; exact hj
      rw [decide_eq_true this] at hQ; exact hQ
/-- a copy with room for one more, that has a mark behind its end -/
def Twin (h : H) (r : Sl) (l : List Int) : Prop := Arr h r (eI .i64) l ∧ l.length < r.cap ∧ Arr h ⟨r.a, l.length + 1, r.cap⟩ (eI .i64) (l ++ [-77])
theorem Twin_spec {a : Sl} {l : List Int} {h : H} {Q : Sl → HProp} (A : Arr h a (eI .i64) l) (hl : l.length ≤ 1000000) (hQ : ∀ r h', Twin h' r l → Ext h h' → New h r → Q r h') : law02_Twin a Q h := by
  unfold law02_Twin
  have la := A.len
  rw [add_i64 (by omega) (by omega), la]
  refine make_i (E := eI .i64) (x0 := 0) rfl (Int.le_refl _) (by omega) (by omega) (by omega) ?_
  intro v h1 V _ nv x1 _
  refine (A.ext x1).row rfl ?_
  have V0 : Vec h1 v (eI .i64) [] := by simpa using V
  refine V0.append_new x1 nv (m := l) rfl rfl rfl (by simp; omega) ?_
  intro u h2 U x2 nu _ _
  simp only [List.nil_append] at U
  refine U.append_new x2 nu (m := [-77]) rfl rfl rfl (by omega) ?_
  intro w h3 W x3 nw _ _
  have hw := W.len
  have hc := W.le
  simp only [List.length_append, List.length_cons, List.length_nil] at hw
  refine slice0 (by omega) (by omega) (by omega) ?_
  have A1 := W.arr.take (n := l.length) (by simp)
  rw [List.take_left] at A1
  have A2 := W.arr.take (n := l.length + 1) (by simp)
  rw [List.take_of_length_le (by simp)] at A2
  refine hQ _ h3 ⟨A1, by show l.length < w.cap; omega, A2⟩ x3 ?_
  rintro b ⟨p, hp, rfl⟩
  exact nw _ ⟨p, hp, rfl⟩
theorem Left_spec' {r b : Sl} {l : List Int} {h : H} {Q : Bool → HProp} (T : Twin h r l) (B : Arr h b (eI .i64) l) (hl : l.length ≤ 1000000) (hQ : Q true h) : law02_Left (r, b) Q h := by
  unfold law02_Left
  obtain ⟨A, hc, X⟩ := T
  have lb := B.len
  refine with_b true (fun k hk => ?_) hQ
  refine Same_spec A B (by omega) (ite_t (by simp) ?_)
  simp only [ltI_eq, eqI_eq, lb]
  refine ite_t (by simp; omega) ?_
  rw [add_i64 (by omega) (by omega)]
  refine slice0 (by omega) (by omega) (by omega) ?_
  have e : ((l.length : Int) + 1).toNat = l.length + 1 := by omega
  rw [e]
  refine X.index (by omega) (by simp; omega) (fun p hp => ?_)
  have hx : (l ++ [-77])[((l.length : Int)).toNat]? = some (-77) := by simp
  have hcell := X.cell (j := 0) hp hx rfl
  rw [add0] at hcell
  exact loadI_i hcell (by simpa using hk)

/-! ## widths -/
def tabL : ByteArray := ByteArray.mk
              (([0, 1, 2, 2, 3, 3, 3, 3, 4, 4, 4, 4, 4, 4, 4, 4, 5, 5, 5, 5, 5, 5, 5, 5, 5, 5, 5, 5, 5, 5, 5, 5, 6, 6,
                          6, 6, 6, 6, 6, 6, 6, 6, 6, 6, 6, 6, 6, 6, 6, 6, 6, 6, 6, 6, 6, 6, 6, 6, 6, 6, 6, 6, 6,
                          6].append
                      [7, 7, 7, 7, 7, 7, 7, 7, 7, 7, 7, 7, 7, 7, 7, 7, 7, 7, 7, 7, 7, 7, 7, 7, 7, 7, 7, 7, 7, 7, 7, 7,
                        7, 7, 7, 7, 7, 7, 7, 7, 7, 7, 7, 7, 7, 7, 7, 7, 7, 7, 7, 7, 7, 7, 7, 7, 7, 7, 7, 7, 7, 7, 7,
                        7]).append
                  ([8, 8, 8, 8, 8, 8, 8, 8, 8, 8, 8, 8, 8, 8, 8, 8, 8, 8, 8, 8, 8, 8, 8, 8, 8, 8, 8, 8, 8, 8, 8, 8, 8,
                        8, 8, 8, 8, 8, 8, 8, 8, 8, 8, 8, 8, 8, 8, 8, 8, 8, 8, 8, 8, 8, 8, 8, 8, 8, 8, 8, 8, 8, 8,
                        8].append
                    [8, 8, 8, 8, 8, 8, 8, 8, 8, 8, 8, 8, 8, 8, 8, 8, 8, 8, 8, 8, 8, 8, 8, 8, 8, 8, 8, 8, 8, 8, 8, 8, 8,
                      8, 8, 8, 8, 8, 8, 8, 8, 8, 8, 8, 8, 8, 8, 8, 8, 8, 8, 8, 8, 8, 8, 8, 8, 8, 8, 8, 8, 8, 8,
                      8])).toArray
theorem tabL_at : ∀ x : Fin 256, ((tabL.data.toList[x.val]?).map UInt8.toNat) = some (blen x.val) := by decide +kernel
theorem tabL_byte {x : Nat} (hx : x < 256) : ∃ c : UInt8, tabL.data.toList[((x : Int)).toNat]? = some c ∧ c.toNat = blen x := by
  have h := tabL_at ⟨x, hx⟩
  simp only at h
  rw [Int.toNat_natCast]
  cases hc : tabL.data.toList[x]? with
  | none => rw [hc] at h; cases h
  | some c => rw [hc] at h; exact ⟨c, rfl, Option.some.inj h⟩
theorem Len_tail {x s : Nat} {h : H} {Q : Int → HProp} (hx : x < 256) (hs : s ≤ 64) (hQ : Q ((s + blen x : Nat) : Int) h) :
    byteW (cnv .u8 (x : Int)) tabL (fun (c : Int) => Q (add .i64 (s : Int) (cnv .i64 c))) h := by
  obtain ⟨c, e, p⟩ := tabL_byte hx
  have e0 : cnv .u8 (x : Int) = (x : Int) := by
    unfold cnv; simp [IntKind.wrap, IntKind.bits, IntKind.signed]; omega
  rw [e0]
  refine byte_i (by omega) e ?_
  have hb : blen x ≤ 8 := blen_le.2 (by omega)
  rw [p, cnv_i64 (by omega) (by omega), add_n (by omega)]
  exact hQ
theorem Len64_spec {x : Nat} {h : H} {Q : Int → HProp} (hx : x < 18446744073709551616) (hQ : Q (blen x : Int) h) : math_bits_Len64 (x : Int) Q h := by
  unfold math_bits_Len64
  simp only [leI_eq]
  have s32 : shr .u64 (x : Int) 32 = ((x / 2 ^ 32 : Nat) : Int) := shr64 (k := 32) (by decide)
  have sh16 : ∀ y : Nat, shr .u64 (y : Int) 16 = ((y / 2 ^ 16 : Nat) : Int) := fun y => shr64 (k := 16) (by decide)
  have sh8 : ∀ y : Nat, shr .u64 (y : Int) 8 = ((y / 2 ^ 8 : Nat) : Int) := fun y => shr64 (k := 8) (by decide)
  refine with_i (fun (t : Int × Int) h2 => h2 = h ∧ ∃ y s : Nat, t = ((y : Int), (s : Int)) ∧ y < 2 ^ 32 ∧ s ≤ 32 ∧ s + blen y = blen x) (fun k hk => ?_) ?_
  · refine ite_i (fun e => ?_) (fun e => ?_)
    · have e : (4294967296 : Int) ≤ x := of_decide_eq_true e
      refine must_i (by decide) ?_
      rw [s32]
      exact hk _ _ ⟨rfl, x / 2 ^ 32, 32, rfl, by omega, by omega, (blen_shift (k := 32) (by omega)).symm⟩
    · have e := of_decide_eq_false e
      exact hk _ _ ⟨rfl, x, 0, rfl, by omega, by omega, by omega⟩
  rintro ⟨t1, t2⟩ h2 ⟨rfl, y, s, et, hy, hs, hb⟩
  simp only [Prod.mk.injEq] at et
  obtain ⟨rfl, rfl⟩ := et
  dsimp only
  refine with_i (fun (t : Int × Int) h3 => h3 = h2 ∧ ∃ y s : Nat, t = ((y : Int), (s : Int)) ∧ y < 2 ^ 16 ∧ s ≤ 48 ∧ s + blen y = blen x) (fun k hk => ?_) ?_
  · refine ite_i (fun e => ?_) (fun e => ?_)
    · have e : (65536 : Int) ≤ y := of_decide_eq_true e
      refine must_i (by decide) ?_
      rw [sh16, show (16 : Int) = ((16 : Nat) : Int) from rfl, add_n (by omega)]
      refine hk _ _ ⟨rfl, y / 2 ^ 16, s + 16, rfl, by omega, by omega, ?_⟩
      have := blen_shift (n := y) (k := 16) (by omega)
      omega
    · have e := of_decide_eq_false e
      exact hk _ _ ⟨rfl, y, s, rfl, by omega, by omega, hb⟩
  rintro ⟨t1, t2⟩ h3 ⟨rfl, y2, s2, et, hy2, hs2, hb2⟩
  simp only [Prod.mk.injEq] at et
  obtain ⟨rfl, rfl⟩ := et
  dsimp only
  refine with_i (fun (t : Int × Int) h4 => h4 = h3 ∧ ∃ y s : Nat, t = ((y : Int), (s : Int)) ∧ y < 256 ∧ s ≤ 56 ∧ s + blen y = blen x) (fun k hk => ?_) ?_
  · refine ite_i (fun e => ?_) (fun e => ?_)
    · have e : (256 : Int) ≤ y2 := of_decide_eq_true e
      refine must_i (by decide) ?_
      rw [sh8, show (8 : Int) = ((8 : Nat) : Int) from rfl, add_n (by omega)]
      refine hk _ _ ⟨rfl, y2 / 2 ^ 8, s2 + 8, rfl, by omega, by omega, ?_⟩
      have := blen_shift (n := y2) (k := 8) (by omega)
      omega
    · have e := of_decide_eq_false e
      exact hk _ _ ⟨rfl, y2, s2, rfl, by omega, by omega, hb2⟩
  rintro ⟨t1, t2⟩ h4 ⟨rfl, y3, s3, et, hy3, hs3, hb3⟩
  simp only [Prod.mk.injEq] at et
  obtain ⟨rfl, rfl⟩ := et
  refine Len_tail hy3 (by omega) ?_
  rw [hb3]; exact hQ
def widthN (n : Int) : Nat := if n < 0 then 33 else min (blen n.toNat) 33
theorem width_le {n : Int} {w : Nat} (hw : w ≤ 32) : widthN n ≤ w ↔ 0 ≤ n ∧ n < 2 ^ w := by
  unfold widthN
  split
  · omega
  · have := blen_le (n := n.toNat) (w := w)
    have e : ((2 : Int) ^ w) = ((2 ^ w : Nat) : Int) := by simp
    rw [e]
    omega
theorem width_33 (n : Int) : widthN n ≤ 33 := by unfold widthN; split <;> omega
theorem width_spec {n : Int} {h : H} {Q : Int → HProp} (h0 : -9223372036854775808 ≤ n) (h1 : n ≤ 9223372036854775807) (hQ : Q (widthN n : Int) h) : packed_width n Q h := by
  unfold packed_width
  simp only [ltI_eq]
  refine ite_i (fun e => ?_) (fun e => ?_)
  · have e := of_decide_eq_true e
    unfold widthN at hQ; rw [if_pos e] at hQ; exact hQ
  · have e := of_decide_eq_false e
    unfold widthN at hQ; rw [if_neg e] at hQ
    rw [cnv_u64 (by omega) (by omega)]
    unfold math_bits_Len
    conv => arg 1; rw [show n = ((n.toNat : Nat) : Int) by omega]
    refine Len64_spec (by omega) ?_
    rw [minI_eq]
    split
    · rw [Nat.min_eq_right (by omega)] at hQ; exact hQ
    · rw [Nat.min_eq_left (by omega)] at hQ; exact hQ
def wl (l : List Int) : Nat := l.foldl (fun o n => max o (widthN n)) 0
theorem wl_app (l : List Int) (n : Int) : wl (l ++ [n]) = max (wl l) (widthN n) := by simp [wl]
theorem wl_le {l : List Int} {w : Nat} : wl l ≤ w ↔ ∀ n ∈ l, widthN n ≤ w := by
  have : ∀ (l : List Int) (a : Nat), l.foldl (fun o n => max o (widthN n)) a ≤ w ↔ a ≤ w ∧ ∀ n ∈ l, widthN n ≤ w := by
    intro l
    induction l with
    | nil => intro a; simp
    | cons n l ih =>
      intro a
      simp only [List.foldl_cons, ih, List.mem_cons, forall_eq_or_imp]
      rw [Nat.max_le, and_assoc]
  rw [wl, this]; simp
theorem wl_33 (l : List Int) : wl l ≤ 33 := wl_le.2 fun n _ => width_33 n
def I64 (l : List Int) : Prop := ∀ n ∈ l, -9223372036854775808 ≤ n ∧ n ≤ 9223372036854775807
theorem Width_spec {a : Sl} {l : List Int} {h : H} {Q : Int → HProp} (A : Arr h a (eI .i64) l) (hl : l.length ≤ 1000000) (hi : I64 l) (hQ : Q (wl l : Int) h) : packed_Width a Q h := by
  unfold packed_Width
  have la := A.len
  simp only [ltI_eq]
  refine loop_i (fun (t : Int × Int) h2 => 0 ≤ t.2 ∧ t.2 ≤ l.length ∧ h2 = h ∧ t.1 = (wl (l.take t.2.toNat) : Int)) (fun t => (l.length - t.2).toNat) ⟨Int.le_refl _, by show (0 : Int) ≤ l.length; omega, rfl, rfl⟩ ?_
  rintro ⟨o, i⟩ h2 ⟨i0, i1, rfl, ho⟩ k hk
  simp only at i0 i1 ho
  subst ho
  dsimp only
  refine ite_i (fun e => ?_) (fun e => ?_)
  · have e := of_decide_eq_true e
    have hlt : i.toNat < l.length := by omega
    have hx : l[i.toNat]? = some l[i.toNat] := List.getElem?_eq_getElem hlt
    have hb := hi _ (List.getElem_mem hlt)
    refine A.index i0 (by omega) (fun p hp => ?_)
    have hc := A.cell (j := 0) hp hx rfl
    rw [add0] at hc
    refine loadI_i hc (width_spec hb.1 hb.2 ?_)
    rw [add_i64 (by omega) (by omega)]
    refine hk _ _ ⟨by show 0 ≤ i + 1; omega, by show i + 1 ≤ _; omega, rfl, ?_⟩ (by show (l.length - (i + 1)).toNat < (l.length - i).toNat; omega)
    show maxI _ _ = (wl (l.take (i + 1).toNat) : Int)
    rw [show (i + 1).toNat = i.toNat + 1 by omega, List.take_add_one, hx]
    show _ = (wl (l.take i.toNat ++ [l[i.toNat]]) : Int)
    rw [wl_app, maxI_eq]
    split <;> omega
  · have e := of_decide_eq_false e
    rw [List.take_of_length_le (by omega)]; exact hQ
def may (n w : Int) : Bool := decide (0 ≤ n ∧ n < 2 ^ w.toNat)
theorem may_spec {n w : Int} {h : H} {Q : Bool → HProp} (w0 : 0 ≤ w) (w1 : w ≤ 32) (hQ : Q (may n w) h) : ref04_may (n, w) Q h := by
  unfold ref04_may
  refine with_b (may n w) (fun k hk => ?_) hQ
  simp only [leI_eq, ltI_eq]
  refine ite_i (fun e => ?_) (fun e => ?_)
  · have e := of_decide_eq_true e
    refine must_i w0 ?_
    have es : shl .i64 1 w = ((2 ^ w.toNat : Nat) : Int) := by
      conv => lhs; rw [show w = ((w.toNat : Nat) : Int) by omega]
      exact shl_i64 (by omega)
    rw [es]
    have : may n w = decide (n < ((2 ^ w.toNat : Nat) : Int)) := by
      unfold may
      rw [decide_eq_decide]
      simp [e]
    rw [← this]; exact hk
  · have e := of_decide_eq_false e
    unfold may at hk; rw [decide_eq_false (fun h => e h.1)] at hk; exact hk
theorem may_iff {n : Int} {w : Nat} (hw : w ≤ 32) : may n (w : Int) = decide (widthN n ≤ w) := by
  unfold may
  rw [decide_eq_decide, width_le hw, Int.toNat_natCast]
theorem refWidth_spec {a : Sl} {l : List Int} {h : H} {Q : Int → HProp} (A : Arr h a (eI .i64) l) (hl : l.length ≤ 1000000) (hQ : Q (wl l : Int) h) : ref04_Width a Q h := by
  unfold ref04_Width
  have la := A.len
  have h33 := wl_33 l
  simp only [ltI_eq, leI_eq]
  refine loop_i (fun (w : Int) h2 => 0 ≤ w ∧ w ≤ 33 ∧ h2 = h ∧ w ≤ wl l) (fun w => (33 - w).toNat) ⟨Int.le_refl _, by decide, rfl, by omega⟩ ?_
  rintro w h2 ⟨w0, w1, rfl, hw⟩ k hk
  refine ite_i (fun e => ?_) (fun e => ?_)
  · have e := of_decide_eq_true e
    refine loop_i (fun (t : Bool × Int) h3 => 0 ≤ t.2 ∧ t.2 ≤ l.length ∧ h3 = h2 ∧ t.1 = decide (wl (l.take t.2.toNat) ≤ w.toNat)) (fun t => (l.length - t.2).toNat) ⟨Int.le_refl _, by show (0 : Int) ≤ l.length; omega, rfl, by simp [wl]⟩ ?_
    rintro ⟨ok, i⟩ h3 ⟨i0, i1, rfl, ho⟩ k2 hk2
    simp only at i0 i1 ho
    dsimp only
    refine ite_i (fun e2 => ?_) (fun e2 => ?_)
    · have e2 := of_decide_eq_true e2
      have hlt : i.toNat < l.length := by omega
      have hx : l[i.toNat]? = some l[i.toNat] := List.getElem?_eq_getElem hlt
      have et : l.take (i + 1).toNat = l.take i.toNat ++ [l[i.toNat]] := by
        rw [show (i + 1).toNat = i.toNat + 1 by omega, List.take_add_one, hx]; rfl
      refine with_b (decide (wl (l.take (i + 1).toNat) ≤ w.toNat)) (fun k3 hk3 => ?_) ?_
      · rw [et, wl_app] at hk3
        refine ite_i (fun e3 => ?_) (fun e3 => ?_)
        · refine A.index i0 (by omega) (fun p hp => ?_)
          have hc := A.cell (j := 0) hp hx rfl
          rw [add0] at hc
          refine loadI_i hc (may_spec w0 (by omega) ?_)
          have em : may l[i.toNat] w = decide (widthN l[i.toNat] ≤ w.toNat) := by
            conv => lhs; rw [show w = ((w.toNat : Nat) : Int) by omega]
            exact may_iff (by omega)
          rw [em]
          have e4 : decide (max (wl (l.take i.toNat)) (widthN l[i.toNat]) ≤ w.toNat) = decide (widthN l[i.toNat] ≤ w.toNat) := by
            rw [e3] at ho
            have := of_decide_eq_true ho.symm
            rw [decide_eq_decide]
            omega
          rw [e4] at hk3; exact hk3
        · rw [e3] at ho
          have := of_decide_eq_false ho.symm
          rw [decide_eq_false (by omega)] at hk3
          exact hk3
      rw [add_i64 (by omega) (by omega)]
      exact hk2 _ _ ⟨by show 0 ≤ i + 1; omega, by show i + 1 ≤ _; omega, rfl, rfl⟩ (by show (l.length - (i + 1)).toNat < (l.length - i).toNat; omega)
    · have e2 := of_decide_eq_false e2
      rw [List.take_of_length_le (by omega)] at ho
      refine ite_i (fun e3 => ?_) (fun e3 => ?_)
      · rw [e3] at ho
        have := of_decide_eq_true ho.symm
        have : (wl l : Int) = w := by omega
        rw [this] at hQ; exact hQ
      · rw [e3] at ho
        have h5 := of_decide_eq_false ho.symm
        rw [add_i64 (by omega) (by omega)]
        exact hk _ _ ⟨by omega, by omega, rfl, by omega⟩ (by omega)
  · have e := of_decide_eq_false e
    have : (wl l : Int) = 33 := by omega
    rw [this] at hQ; exact hQ

/-! ## packing -/
def catI (w : Nat) (l : List Int) : Nat := cat w (l.map Int.toNat)
structure PS (h0 h : H) (bo bm bh : Nat) (v : Sl) (O : List UInt8) (H : Nat) (m : Int) : Prop where
  om : Obj h bm [.int .i64 m]
  oo : Obj h bo [.slice v.a v.len v.cap]
  oh : Obj h bh [.int .u64 (H : Int)]
  V : Vec h v (eI .u8) (bints O)
  n1 : bo ≠ bm
  n2 : bo ≠ bh
  n3 : bm ≠ bh
  v1 : ¬ v.on bo
  v2 : ¬ v.on bm
  v3 : ¬ v.on bh
  nv : New h0 v
  b1 : h0 bo = none
  b2 : h0 bm = none
  b3 : h0 bh = none
  x : Ext h0 h
theorem PS.setM {h0 h h' : H} {bo bm bh : Nat} {v : Sl} {O : List UInt8} {H : Nat} {m m' : Int} (p : PS h0 h bo bm bh v O H m) (o : Obj h' bm [.int .i64 m']) (f : Fr (fun k => k = bm) h h') : PS h0 h' bo bm bh v O H m' :=
  { p with om := o, oo := p.oo.fr f p.n1, oh := p.oh.fr f (fun e => p.n3 e.symm), V := p.V.fr f (fun b hb e => by subst e; exact p.v2 hb), x := p.x.of_new f (fun b e => by subst e; exact p.b2) }
theorem PS.setH {h0 h h' : H} {bo bm bh : Nat} {v : Sl} {O : List UInt8} {H H' : Nat} {m : Int} (p : PS h0 h bo bm bh v O H m) (o : Obj h' bh [.int .u64 (H' : Int)]) (f : Fr (fun k => k = bh) h h') : PS h0 h' bo bm bh v O H' m :=
  { p with oh := o, oo := p.oo.fr f p.n2, om := p.om.fr f p.n3, V := p.V.fr f (fun b hb e => by subst e; exact p.v3 hb), x := p.x.of_new f (fun b e => by subst e; exact p.b3) }
theorem put_spec {w' : Int} {h0 h : H} {bo bm bh : Nat} {v : Sl} {O : List UInt8} {H : Nat} {m : Int} {Q : Unit → HProp} (p : PS h0 h bo bm bh v O H m) (hw : 1 ≤ w') (hH : H < 2 ^ m.toNat) (m0 : -8 < m) (m1 : m ≤ 60) (hO : O.length ≤ 1000000)
    (hQ : ∀ h' v' O' H' m', PS h0 h' bo bm bh v' O' H' m' → val O' + 256 ^ O'.length * H' = val O + 256 ^ O.length * H → 8 * (O'.length : Int) + m' = 8 * (O.length : Int) + m → H' < 2 ^ m'.toNat → ¬ (w' ≤ m' ∧ 0 < m') → -8 < m' → (8 ≤ w' → 0 ≤ m → 0 ≤ m') → Q () h') :
    packed_Pack_c1 (w', some (at0 bm), some (at0 bo), some (at0 bh)) Q h := by
  unfold packed_Pack_c1
  refine loop_n (fun n (_ : PUnit) h2 => ∃ v2 O2 H2 m2, PS h0 h2 bo bm bh v2 O2 H2 m2 ∧ n = (m2 + 8).toNat ∧ (8 ≤ w' → 0 ≤ m → 0 ≤ m2) ∧ -8 < m2 ∧ m2 ≤ m ∧ H2 < 2 ^ m2.toNat ∧ val O2 + 256 ^ O2.length * H2 = val O + 256 ^ O.length * H ∧ 8 * (O2.length : Int) + m2 = 8 * (O.length : Int) + m) _
    ⟨v, O, H, m, p, rfl, fun _ h => h, m0, Int.le_refl _, hH, rfl, rfl⟩ ?_
  rintro n s h2 ⟨v2, O2, H2, m2, p2, rfl, m22, m20, m21, hH2, hv, hl⟩ k hk
  simp only [leI_eq, ltI_eq]
  refine with_b (decide (w' ≤ m2 ∧ 0 < m2)) (fun k2 hk2 => ?_) ?_
  · refine deref_i (loadI_i (p2.om.ld0 rfl) (ite_i (fun e => ?_) (fun e => ?_)))
    · have e := of_decide_eq_true e
      refine deref_i (loadI_i (p2.om.ld0 rfl) ?_)
      rw [show decide (0 < m2) = decide (w' ≤ m2 ∧ 0 < m2) by rw [decide_eq_decide]; omega]; exact hk2
    · have e := of_decide_eq_false e
      rw [decide_eq_false (fun h => e h.1)] at hk2; exact hk2
  refine ite_i (fun e => ?_) (fun e => hQ h2 v2 O2 H2 m2 p2 hv hl hH2 (of_decide_eq_false e) m20 m22)
  have e := of_decide_eq_true e
  have hH64 : H2 < 18446744073709551616 := by
    have : 2 ^ m2.toNat ≤ 2 ^ 60 := Nat.pow_le_pow_right (by decide) (by omega)
    omega
  refine deref_i (loadL_i (p2.oo.ld0 rfl) (deref_i (loadI_i (p2.oh.ld0 rfl) ?_)))
  rw [cnv_u8]
  refine p2.V.append_new p2.x p2.nv (m := [((UInt8.ofNat H2).toNat : Int)]) rfl rfl rfl (by rw [bints_len]; omega) ?_
  intro u h3 U x3 nu f3 hu
  have o3 : ∀ {b : Nat} {cs : List Value}, Obj h2 b cs → ¬ v2.on b → Obj h3 b cs := fun o hn => o.fr f3 hn
  have ub : ∀ {b : Nat} {cs : List Value}, Obj h2 b cs → ¬ v2.on b → ¬ u.on b := by
    intro b cs o hn h
    rcases hu b h with h | h
    · exact hn h
    · unfold Obj at o; rw [h] at o; cases o
  refine deref_i ((o3 p2.oo p2.v1).st0 (by show 0 < 1; decide) fun h4 o4 f4 => ?_)
  have p4 : PS h0 h4 bo bm bh u (O2 ++ [UInt8.ofNat H2]) H2 m2 :=
    { om := (o3 p2.om p2.v2).fr f4 (fun e => p2.n1 e.symm), oo := o4, oh := (o3 p2.oh p2.v3).fr f4 (fun e => p2.n2 e.symm), V := by
        rw [bints_app]
        exact U.fr f4 (fun b hb e => by subst e; exact ub p2.oo p2.v1 hb)
      n1 := p2.n1, n2 := p2.n2, n3 := p2.n3, v1 := ub p2.oo p2.v1, v2 := ub p2.om p2.v2, v3 := ub p2.oh p2.v3, nv := nu, b1 := p2.b1, b2 := p2.b2, b3 := p2.b3
      x := x3.of_new f4 (fun b e => by subst e; exact p2.b1) }
  refine deref_i (loadI_i (p4.oh.ld0 rfl) (must_i (by decide) (deref_i ?_)))
  rw [show (8 : Int) = ((8 : Nat) : Int) from rfl, shr64 (by decide)]
  refine p4.oh.st0 (by show 0 < 1; decide) fun h5 o5 f5 => ?_
  have p5 := p4.setH (H' := H2 / 2 ^ 8) o5 f5
  refine deref_i (loadI_i (p5.om.ld0 rfl) (deref_i ?_))
  rw [show ((8 : Nat) : Int) = 8 from rfl, sub_i64 (by omega) (by omega)]
  refine p5.om.st0 (by show 0 < 1; decide) fun h6 o6 f6 => ?_
  have p6 := p5.setM o6 f6
  refine hk _ _ _ ?_ ⟨u, _, _, _, p6, rfl, by omega, by omega, by omega, ?_, ?_, ?_⟩
  · omega
  · by_cases h8 : 8 ≤ m2
    · have e8 : 2 ^ m2.toNat = 2 ^ (m2 - 8).toNat * 2 ^ 8 := by rw [← Nat.pow_add]; congr 1; omega
      rw [e8] at hH2
      exact (Nat.div_lt_iff_lt_mul (by decide)).2 hH2
    · have : 2 ^ m2.toNat ≤ 2 ^ 8 := Nat.pow_le_pow_right (by decide) (by omega)
      rw [Nat.div_eq_of_lt (by omega)]
      exact Nat.pow_pos (by decide)
  · rw [val_append, ← hv]
    simp only [List.length_append, List.length_cons, List.length_nil, val, Nat.mul_zero, Nat.add_zero]
    rw [ofNat_mod, Nat.zero_add, Nat.pow_succ, Nat.mul_assoc, Nat.add_assoc, ← Nat.mul_add]
    congr 2
    omega
  · simp only [List.length_append, List.length_cons, List.length_nil]
    omega

def packB (w : Nat) (l : List Int) : ByteArray := mkB (Bits.bytes ((l.length * w + 7) / 8) (catI w l))
def packR (l : List Int) (w : Int) : ByteArray × Int := if w < 0 ∨ 32 < w ∨ w < wl l then (⟨#[]⟩, 2) else (packB w.toNat l, 0)
theorem catI_take {w : Nat} {l : List Int} {i : Nat} {n : Int} (h : l[i]? = some n) : catI w (l.take (i + 1)) = catI w (l.take i) + 2 ^ (i * w) * n.toNat := by
  have hi := (List.getElem?_eq_some_iff.1 h).1
  rw [List.take_add_one, h]
  unfold catI
  rw [List.map_append, cat_app]
  simp only [List.length_map, List.length_take, Nat.min_eq_left (Nat.le_of_lt hi), Option.toList_some, List.map_cons, List.map_nil, cat, Nat.mul_zero, Nat.add_zero]
theorem Pack_spec {a : Sl} {l : List Int} {w : Int} {h : H} {Q : ByteArray × Int → HProp} (A : Arr h a (eI .i64) l) (hl : l.length ≤ 65536) (hi : I64 l) (hQ : ∀ h', Ext h h' → Q (packR l w) h') : packed_Pack (a, w) Q h := by
  unfold packed_Pack
  have la := A.len
  simp only [ltI_eq]
  refine with_b (decide (w < 0 ∨ 32 < w ∨ w < wl l)) (fun k hk => ?_) ?_
  · refine ite_i (fun e => ?_) (fun e1 => ite_i (fun e => ?_) (fun e2 => Width_spec A (by omega) hi ?_))
    · rw [decide_eq_true (.inl (of_decide_eq_true e))] at hk; exact hk
    · rw [decide_eq_true (.inr (.inl (of_decide_eq_true e)))] at hk; exact hk
    · have e1 := of_decide_eq_false e1
      have e2 := of_decide_eq_false e2
      rw [show decide (w < (wl l : Int)) = decide (w < 0 ∨ 32 < w ∨ w < wl l) by rw [decide_eq_decide]; omega]; exact hk
  refine ite_i (fun e => ?_) (fun e => ?_)
  · have := hQ h (Ext.refl h)
    unfold packR at this; rw [if_pos (of_decide_eq_true e)] at this; exact this
  have e := of_decide_eq_false e
  refine ite_f (decide_eq_false (by omega)) ?_
  have hwl : wl l ≤ w.toNat := by omega
  refine Obj.new fun bo h1 o1 n1 x1 => Obj.new fun bh h2 o2 n2 x2 => Obj.new fun bm h3 o3 n3 x3 => ?_
  have d1 : bo ≠ bh := by rintro rfl; unfold Obj at o1; rw [n2] at o1; cases o1
  have d2 : bh ≠ bm := by rintro rfl; unfold Obj at o2; rw [n3] at o2; cases o2
  have d3 : bo ≠ bm := by rintro rfl; have := o1.ext x2; unfold Obj at this; rw [n3] at this; cases this
  have p3 : PS h h3 bo bm bh ⟨none, 0, 0⟩ [] 0 0 := { om := o3, oo := (o1.ext x2).ext x3, oh := o2.ext x3, V := Vec.nil0, n1 := d3, n2 := d1, n3 := fun e => d2 e.symm, v1 := by (rintro ⟨_, h, _⟩; cases h), v2 := by (rintro ⟨_, h, _⟩; cases h), v3 := by (rintro ⟨_, h, _⟩; cases h), nv := New.nil0, b1 := n1, b2 := x1.none (x2.none n3), b3 := x1.none n2, x := (x1.trans x2).trans x3 }
  refine p3.oh.st0 (v := .int .u64 0) (by show 0 < 1; decide) fun h4 o4 f4 => ?_
  have p4 := p3.setH (H' := 0) o4 f4
  refine p4.om.st0 (v := .int .i64 0) (by show 0 < 1; decide) fun h5 o5 f5 => ?_
  have p5 := p4.setM (m' := 0) o5 f5
  refine loop_i (fun (i : Int) h6 => 0 ≤ i ∧ i ≤ l.length ∧ ∃ v O H m, PS h h6 bo bm bh v O H m ∧ 0 ≤ m ∧ m < 8 ∧ H < 2 ^ m.toNat ∧ val O + 256 ^ O.length * H = catI w.toNat (l.take i.toNat) ∧ 8 * (O.length : Int) + m = i.toNat * w.toNat) (fun i => (l.length - i).toNat)
    ⟨Int.le_refl _, by omega, _, [], 0, 0, p5, Int.le_refl _, by decide, by decide, by simp [val, catI, cat], by simp⟩ ?_
  rintro i h6 ⟨i0, i1, v, O, H, m, p6, m0, m1, hH, hv, hm⟩ k hk
  have hOl : ∀ j : Nat, (j : Int) ≤ l.length → (j : Int) * w.toNat ≤ 65536 * 32 := by
    intro j hj
    have := Int.mul_le_mul (show (j : Int) ≤ 65536 by omega) (show (w.toNat : Int) ≤ 32 by omega) (by omega) (by omega)
    omega
  have hO1 := hOl i.toNat (by omega)
  refine ite_i (fun e2 => ?_) (fun e2 => ?_)
  · have e2 := of_decide_eq_true e2
    have hlt : i.toNat < l.length := by omega
    have hx : l[i.toNat]? = some l[i.toNat] := List.getElem?_eq_getElem hlt
    have hb := (width_le (by omega)).1 (wl_le.1 hwl _ (List.getElem_mem hlt))
    have htk := catI_take (w := w.toNat) hx
    generalize hn : l[i.toNat] = n at hx hb htk
    have hn2 : n.toNat < 2 ^ w.toNat := by
      have e : ((2 : Int) ^ w.toNat) = ((2 ^ w.toNat : Nat) : Int) := by simp
      rw [e] at hb; omega
    refine (A.ext p6.x).index i0 (by omega) (fun q hq => ?_)
    have hc := (A.ext p6.x).cell (j := 0) hq hx rfl
    rw [add0] at hc
    refine loadI_i hc (loadI_i (p6.oh.ld0 rfl) (loadI_i (p6.om.ld0 rfl) (must_i m0 ?_)))
    have b1 : n.toNat * 2 ^ m.toNat < 2 ^ (w.toNat + m.toNat) := by
      rw [Nat.pow_add]; exact Nat.mul_lt_mul_of_pos_right hn2 (Nat.pow_pos (by decide))
    have b2 : 2 ^ (w.toNat + m.toNat) ≤ 2 ^ 40 := Nat.pow_le_pow_right (by decide) (by omega)
    have b3 : 2 ^ m.toNat ≤ 2 ^ 8 := Nat.pow_le_pow_right (by decide) (by omega)
    have es : orI .u64 (H : Int) (shl .u64 (cnv .u64 n) m) = ((H + n.toNat * 2 ^ m.toNat : Nat) : Int) := by
      have b4 : n < 18446744073709551616 := by
        have : 2 ^ w.toNat ≤ 2 ^ 32 := Nat.pow_le_pow_right (by decide) (by omega)
        omega
      rw [cnv_u64 hb.1 b4]
      conv => lhs; arg 3; rw [show n = ((n.toNat : Nat) : Int) by omega, show m = ((m.toNat : Nat) : Int) by omega]
      rw [shl64 (by omega) (by omega), or64 hH (by omega)]
    rw [es]
    refine p6.oh.st0 (by show 0 < 1; decide) fun h7 o7 f7 => ?_
    have p7 := p6.setH o7 f7
    refine loadI_i (p7.om.ld0 rfl) ?_
    rw [add_i64 (by omega) (by omega)]
    refine p7.om.st0 (by show 0 < 1; decide) fun h8 o8 f8 => ?_
    have p8 := p7.setM o8 f8
    have hH8 : H + n.toNat * 2 ^ m.toNat < 2 ^ (m + w).toNat := by
      rw [show (m + w).toNat = w.toNat + m.toNat by omega, Nat.pow_add]
      have : (n.toNat + 1) * 2 ^ m.toNat ≤ 2 ^ w.toNat * 2 ^ m.toNat := Nat.mul_le_mul_right _ hn2
      rw [Nat.add_mul] at this; omega
    refine put_spec p8 (by decide) hH8 (by omega) (by omega) (by omega) fun h9 v9 O9 H9 m9 p9 hv9 hm9 hH9 hx9 hg9 hn9 => ?_
    rw [add_i64 (by omega) (by omega)]
    have h9' : 0 ≤ m9 := hn9 (by decide) (by omega)
    refine hk _ _ ⟨by omega, by omega, v9, O9, H9, m9, p9, h9', by omega, hH9, ?_, ?_⟩ (by omega)
    · rw [hv9, show (i + 1).toNat = i.toNat + 1 by omega, htk, ← hv, Nat.mul_add, ← Nat.add_assoc]
      congr 1
      have e8 : i.toNat * w.toNat = 8 * O.length + m.toNat := by
        have : ((i.toNat * w.toNat : Nat) : Int) = 8 * (O.length : Int) + m := by rw [hm]; simp
        omega
      rw [e8, Nat.pow_add, pow256, Nat.mul_comm n.toNat, Nat.mul_assoc]
    · rw [hm9, show (i + 1).toNat = i.toNat + 1 by omega]
      have : ((i.toNat + 1 : Nat) : Int) * (w.toNat : Int) = (i.toNat : Int) * w.toNat + w.toNat := by rw [Int.natCast_add, Int.add_mul]; simp
      rw [this, ← hm]; omega
  · have e2 := of_decide_eq_false e2
    have hil : i.toNat = l.length := by omega
    rw [hil] at hm hv
    rw [List.take_length] at hv
    refine put_spec p6 (by decide) hH (by omega) (by omega) (by rw [hil] at hO1; omega) fun h9 v9 O9 H9 m9 p9 hv9 hm9 hH9 hx9 hg9 _ => ?_
    refine loadL_i (p9.oo.ld0 rfl) (p9.V.arr.text ?_)
    have hz : H9 = 0 := by
      have : m9.toNat = 0 := by omega
      rw [this] at hH9; omega
    subst hz
    have hlen : O9.length = (l.length * w.toNat + 7) / 8 := by
      have : ((l.length * w.toNat : Nat) : Int) = 8 * (O9.length : Int) + m9 := by rw [hm9, hm]; simp
      omega
    have hO9 : O9 = Bits.bytes ((l.length * w.toNat + 7) / 8) (catI w.toNat l) := by
      rw [← hlen, ← hv, ← hv9, Nat.mul_zero, Nat.add_zero, bytes_val]
    have := hQ h9 p9.x
    unfold packR packB at this
    rw [if_neg e, ← hO9] at this
    rw [text_mkB]; exact this

/-! ## the document's packing -/
theorem catI_lt {w : Nat} {l : List Int} (hl : ∀ n ∈ l, 0 ≤ n ∧ n < 2 ^ w) : catI w l < 2 ^ (l.length * w) := by
  have := cat_lt w (l.map Int.toNat) (by
    intro n hn
    obtain ⟨x, hx, rfl⟩ := List.mem_map.1 hn
    have := hl x hx
    have e : ((2 : Int) ^ w) = ((2 ^ w : Nat) : Int) := by simp
    rw [e] at this; omega)
  simpa [catI] using this
theorem mod_step (n k : Nat) : n % 2 ^ (k + 1) = n % 2 ^ k + 2 ^ k * (n / 2 ^ k % 2) := by rw [Nat.pow_succ, Nat.mod_mul]
theorem rep_zero : ∀ nb : Nat, List.replicate nb (0 : Int) = bints (Bits.bytes nb 0)
  | 0 => rfl
  | n + 1 => by
    rw [List.replicate_succ, rep_zero n]
    show _ = ((UInt8.ofNat 0).toNat : Int) :: bints (Bits.bytes n (0 / 256))
    rfl
theorem refPack_spec {a : Sl} {l : List Int} {w : Int} {h : H} {Q : ByteArray × Int → HProp} (A : Arr h a (eI .i64) l) (hl : l.length ≤ 65536) (hQ : ∀ h', Ext h h' → Q (packR l w) h') : ref04_Pack (a, w) Q h := by
  unfold ref04_Pack
  have la := A.len
  simp only [ltI_eq, eqI_eq]
  refine with_b (decide (w < 0 ∨ 32 < w)) (fun k hk => ?_) ?_
  · refine ite_i (fun e => ?_) (fun e1 => ?_)
    · rw [decide_eq_true (.inl (of_decide_eq_true e))] at hk; exact hk
    · have e1 := of_decide_eq_false e1
      rw [show decide (32 < w) = decide (w < 0 ∨ 32 < w) by rw [decide_eq_decide]; omega]; exact hk
  refine ite_i (fun e => ?_) (fun e => ?_)
  · have e := of_decide_eq_true e
    have := hQ h (Ext.refl h)
    unfold packR at this; rw [if_pos (by omega)] at this; exact this
  have e := of_decide_eq_false e
  have hwi : w = ((w.toNat : Nat) : Int) := by omega
  generalize hW : w.toNat = W at *
  subst hwi
  have hW32 : W ≤ 32 := by omega
  refine loop_i (fun (i : Int) h2 => 0 ≤ i ∧ i ≤ l.length ∧ h2 = h ∧ ∀ n ∈ l.take i.toNat, widthN n ≤ W) (fun i => (l.length - i).toNat) ⟨Int.le_refl _, by omega, rfl, by simp⟩ ?_
  rintro i h2 ⟨i0, i1, rfl, hj⟩ k hk
  refine ite_i (fun e2 => ?_) (fun e2 => ?_)
  · have e2 := of_decide_eq_true e2
    have hlt : i.toNat < l.length := by omega
    have hx : l[i.toNat]? = some l[i.toNat] := List.getElem?_eq_getElem hlt
    refine A.index i0 (by omega) (fun p hp => ?_)
    have hc := A.cell (j := 0) hp hx rfl
    rw [add0] at hc
    refine loadI_i hc (may_spec (by omega) (by omega) ?_)
    rw [may_iff hW32]
    refine ite_i (fun e3 => ?_) (fun e3 => ?_)
    · have e3 : ¬ widthN l[i.toNat] ≤ W := by simpa using e3
      have := hQ h2 (Ext.refl h2)
      unfold packR at this
      have h5 : ¬ wl l ≤ W := fun h => e3 (wl_le.1 h _ (List.getElem_mem hlt))
      rw [if_pos (by omega)] at this; exact this
    · have e3 : widthN l[i.toNat] ≤ W := by simpa using e3
      rw [add_i64 (by omega) (by omega)]
      refine hk _ _ ⟨by omega, by omega, rfl, ?_⟩ (by omega)
      rw [show (i + 1).toNat = i.toNat + 1 by omega, List.take_add_one, hx]
      intro n hn
      rcases List.mem_append.1 hn with hn | hn
      · exact hj n hn
      · simp at hn; subst hn; exact e3
  have e2 := of_decide_eq_false e2
  rw [List.take_of_length_le (by omega)] at hj
  have hwl : wl l ≤ W := wl_le.2 hj
  have hb : ∀ n ∈ l, 0 ≤ n ∧ n < 2 ^ W := fun n hn => (width_le hW32).1 (hj n hn)
  refine ite_f (decide_eq_false (by omega)) (must_i (by decide) ?_)
  rw [la]
  have hlw : l.length * W ≤ 65536 * 32 := Nat.mul_le_mul hl hW32
  have enb : quo .i64 (add .i64 (mul .i64 (l.length : Int) (W : Int)) 7) 8 = (((l.length * W + 7) / 8 : Nat) : Int) := by
    rw [mul_n (by omega), show (7 : Int) = ((7 : Nat) : Int) from rfl, add_n (by omega), show (8 : Int) = ((8 : Nat) : Int) from rfl, quo_n (by decide) (by omega)]
  rw [enb]
  generalize hnb : (l.length * W + 7) / 8 = nb
  refine make_i (E := eI .u8) (x0 := 0) rfl (by omega) (Int.le_refl _) (by omega) (by omega) ?_
  intro v h3 V _ nv x3 _
  have V0 : Vec h3 v (eI .u8) (bints (Bits.bytes nb 0)) := by
    have : List.replicate ((nb : Int)).toNat (0 : Int) = bints (Bits.bytes nb 0) := by
      rw [Int.toNat_natCast]; exact rep_zero nb
    rw [this] at V; exact V
  refine loop_i (fun (i : Int) h4 => 0 ≤ i ∧ i ≤ l.length ∧ Vec h4 v (eI .u8) (bints (Bits.bytes nb (catI W (l.take i.toNat)))) ∧ Ext h2 h4) (fun i => (l.length - i).toNat)
    ⟨Int.le_refl _, by omega, by simpa [catI, cat] using V0, x3⟩ ?_
  rintro i h4 ⟨i0, i1, V4, x4⟩ k4 hk4
  refine ite_i (fun e3 => ?_) (fun e3 => ?_)
  · have e3 := of_decide_eq_true e3
    have hlt : i.toNat < l.length := by omega
    have hx : l[i.toNat]? = some l[i.toNat] := List.getElem?_eq_getElem hlt
    have hn := hb _ (List.getElem_mem hlt)
    have htk := catI_take (w := W) hx
    have hct : catI W (l.take i.toNat) < 2 ^ (i.toNat * W) := by
      have := catI_lt (w := W) (l := l.take i.toNat) (fun n hn => hb n (List.mem_of_mem_take hn))
      rwa [List.length_take, Nat.min_eq_left (by omega)] at this
    generalize l[i.toNat] = n at hx hn htk
    have hiW : i.toNat * W + W ≤ l.length * W := by
      have : (i.toNat + 1) * W ≤ l.length * W := Nat.mul_le_mul_right _ hlt
      rw [Nat.add_mul, Nat.one_mul] at this; exact this
    refine loop_i (fun (j : Int) h5 => 0 ≤ j ∧ j ≤ W ∧ Vec h5 v (eI .u8) (bints (Bits.bytes nb (catI W (l.take i.toNat) + 2 ^ (i.toNat * W) * (n.toNat % 2 ^ j.toNat)))) ∧ Ext h2 h5) (fun j => (W - j).toNat)
      ⟨Int.le_refl _, by omega, by simpa [Nat.mod_one] using V4, x4⟩ ?_
    rintro j h5 ⟨j0, j1, V5, x5⟩ k5 hk5
    refine ite_i (fun e4 => ?_) (fun e4 => ?_)
    · have e4 := of_decide_eq_true e4
      have hj : j.toNat < W := by omega
      refine with_i (fun _ h6 => Vec h6 v (eI .u8) (bints (Bits.bytes nb (catI W (l.take i.toNat) + 2 ^ (i.toNat * W) * (n.toNat % 2 ^ (j.toNat + 1))))) ∧ Ext h2 h6) (fun k6 hk6 => ?_) ?_
      · refine (A.ext x5).index i0 (by omega) (fun p hp => ?_)
        have hc := (A.ext x5).cell (j := 0) hp hx rfl
        rw [add0] at hc
        refine loadI_i hc (must_i j0 (must_i (by decide) ?_))
        have eb : rem (shr .i64 n j) 2 = ((n.toNat / 2 ^ j.toNat % 2 : Nat) : Int) := by
          conv => lhs; rw [show n = ((n.toNat : Nat) : Int) by omega, show j = ((j.toNat : Nat) : Int) by omega]
          rw [shr_i64 (by omega), show (2 : Int) = ((2 : Nat) : Int) from rfl, rem_n]
        rw [eb]
        have hm := mod_step n.toNat j.toNat
        generalize hV : catI W (l.take i.toNat) + 2 ^ (i.toNat * W) * (n.toNat % 2 ^ j.toNat) = V' at *
        have hVlt : V' < 2 ^ (i.toNat * W + j.toNat) := by
          rw [← hV, Nat.pow_add]
          have h6 : n.toNat % 2 ^ j.toNat + 1 ≤ 2 ^ j.toNat := Nat.mod_lt _ (Nat.pow_pos (by decide))
          have := Nat.mul_le_mul_left (2 ^ (i.toNat * W)) h6
          rw [Nat.mul_add] at this; omega
        refine ite_i (fun e5 => ?_) (fun e5 => ?_)
        · have e5 := of_decide_eq_true e5
          have hone : n.toNat / 2 ^ j.toNat % 2 = 1 := by omega
          have em : add .i64 (mul .i64 i (W : Int)) j = ((i.toNat * W + j.toNat : Nat) : Int) := by
            conv => lhs; rw [show i = ((i.toNat : Nat) : Int) by omega, show j = ((j.toNat : Nat) : Int) by omega]
            rw [mul_n (by omega), add_n (by omega)]
          rw [em]
          generalize hM : i.toNat * W + j.toNat = M at *
          have eq8 : quo .i64 (M : Int) 8 = ((M / 8 : Nat) : Int) := quo_n (b := 8) (by decide) (by omega)
          have er8 : rem (M : Int) 8 = ((M % 8 : Nat) : Int) := rem_n (b := 8)
          rw [eq8, er8]
          have hM8 : M / 8 < nb := by omega
          have hg := bytes_get nb V' (M / 8) hM8
          refine must_i (by decide) (must_i (by decide) ?_)
          refine V5.arr.index (by omega) (by rw [bints_len, bytes_len]; omega) (fun p hp => ?_)
          rw [Int.toNat_natCast] at hp
          have hc := V5.arr.cell (j := 0) hp (bints_get hg) rfl
          rw [add0] at hc
          refine loadI_i hc (must_i (by decide) (must_i (by omega) ?_))
          refine V5.arr.index (by omega) (by rw [bints_len, bytes_len]; omega) (fun p hp => ?_)
          rw [Int.toNat_natCast] at hp
          have ev : add .u8 ((UInt8.ofNat (V' / 256 ^ (M / 8))).toNat : Int) (shl .u8 1 ((M % 8 : Nat) : Int)) = ((UInt8.ofNat (V' / 256 ^ (M / 8) % 256 + 2 ^ (M % 8))).toNat : Int) := by
            have e2p : shl .u8 1 ((M % 8 : Nat) : Int) = ((2 ^ (M % 8) : Nat) : Int) := by
              unfold shl
              have : min (((M % 8 : Nat) : Int)).toNat IntKind.u8.bits = M % 8 := by
                have : IntKind.u8.bits = 8 := rfl
                omega
              rw [this, Int.one_mul]
              have e : (2 : Int) ^ (M % 8) = ((2 ^ (M % 8) : Nat) : Int) := by simp
              rw [e, wrap_u8, ofNat_mod]
              have : 2 ^ (M % 8) ≤ 2 ^ 7 := Nat.pow_le_pow_right (by decide) (by omega)
              rw [Nat.mod_eq_of_lt (by omega)]
            rw [e2p]
            unfold add
            rw [ofNat_mod, show ((V' / 256 ^ (M / 8) % 256 : Nat) : Int) + ((2 ^ (M % 8) : Nat) : Int) = ((V' / 256 ^ (M / 8) % 256 + 2 ^ (M % 8) : Nat) : Int) by omega, wrap_u8]
          rw [ev]
          have := V5.store (K := k6 ()) (j := 0) hp (bints_get hg) Nat.one_pos (y := .int .u8 ((UInt8.ofNat (V' / 256 ^ (M / 8) % 256 + 2 ^ (M % 8))).toNat : Int)) (x' := ((UInt8.ofNat (V' / 256 ^ (M / 8) % 256 + 2 ^ (M % 8))).toNat : Int)) rfl
          rw [add0] at this
          refine this fun h6 V6 f6 => ?_
          rw [bints_set, ← bytes_bit hVlt (by omega)] at V6
          refine hk6 _ _ ⟨?_, x5.of_new f6 nv⟩
          have e7 : catI W (l.take i.toNat) + 2 ^ (i.toNat * W) * (n.toNat % 2 ^ (j.toNat + 1)) = V' + 2 ^ M := by
            rw [hm, hone, Nat.mul_one, Nat.mul_add, ← Nat.add_assoc, hV, ← Nat.pow_add, hM]
          rw [e7]; exact V6
        · have e5 := of_decide_eq_false e5
          have hz : n.toNat / 2 ^ j.toNat % 2 = 0 := by omega
          refine hk6 _ _ ⟨?_, x5⟩
          have e7 : catI W (l.take i.toNat) + 2 ^ (i.toNat * W) * (n.toNat % 2 ^ (j.toNat + 1)) = V' := by
            rw [hm, hz, Nat.mul_zero, Nat.add_zero, hV]
          rw [e7]; exact V5
      rintro _ h6 ⟨V6, x6⟩
      rw [add_i64 (by omega) (by omega)]
      refine hk5 _ _ ⟨by omega, by omega, ?_, x6⟩ (by omega)
      rw [show (j + 1).toNat = j.toNat + 1 by omega]; exact V6
    · have e4 := of_decide_eq_false e4
      have hjw : j.toNat = W := by omega
      have hnw : n.toNat < 2 ^ W := by
        have e : ((2 : Int) ^ W) = ((2 ^ W : Nat) : Int) := by simp
        rw [e] at hn; omega
      rw [hjw, Nat.mod_eq_of_lt hnw, ← htk] at V5
      rw [add_i64 (by omega) (by omega)]
      refine hk4 _ _ ⟨by omega, by omega, ?_, x5⟩ (by omega)
      rw [show (i + 1).toNat = i.toNat + 1 by omega]; exact V5
  · have e3 := of_decide_eq_false e3
    rw [List.take_of_length_le (by omega)] at V4
    refine V4.arr.text ?_
    rw [text_mkB]
    have := hQ h4 x4
    unfold packR packB at this
    rw [if_neg (by omega), Int.toNat_natCast, hnb] at this
    exact this

/-! ## one number -/
theorem part_mod {x a f w : Nat} (h : f + w ≤ a) : x % 2 ^ a / 2 ^ f % 2 ^ w = x / 2 ^ f % 2 ^ w := by
  apply Nat.eq_of_testBit_eq
  intro i
  rw [Nat.testBit_mod_two_pow, Nat.testBit_mod_two_pow, Nat.testBit_div_two_pow, Nat.testBit_div_two_pow, Nat.testBit_mod_two_pow]
  by_cases hi : i < w
  · simp [hi, show f + i < a by omega, show i + f < a by omega]
  · simp [hi]
def numN (z : ByteArray) (f w : Nat) : Nat := val z.data.toList / 2 ^ f % 2 ^ w
theorem numN_lt (z : ByteArray) (f w : Nat) : numN z f w < 2 ^ w := Nat.mod_lt _ (Nat.pow_pos (by decide))
theorem number_spec {z : ByteArray} {f w : Nat} {h : H} {Q : Int → HProp} (hz : z.size ≤ 1000000) (hf : f / 8 ≤ z.size) (hw : w ≤ 32) (hQ : ∀ h', Ext h h' → Q (numN z f w : Int) h') : packed_number (z, (f : Int), (w : Int)) Q h := by
  unfold packed_number
  simp only [ltI_eq]
  have e8 : quo .i64 (f : Int) 8 = ((f / 8 : Nat) : Int) := quo_n (b := 8) (by decide) (by omega)
  have r8 : rem (f : Int) 8 = ((f % 8 : Nat) : Int) := rem_n (b := 8)
  have h8 : quo .i64 (add .i64 (add .i64 (f : Int) (w : Int)) 7) 8 = (((f + w + 7) / 8 : Nat) : Int) := by
    rw [add_n (by omega), show (7 : Int) = ((7 : Nat) : Int) from rfl, add_n (by omega)]
    exact quo_n (b := 8) (by decide) (by omega)
  have hmin : minI (((f + w + 7) / 8 : Nat) : Int) (z.size : Int) = ((min ((f + w + 7) / 8) z.size : Nat) : Int) := by
    rw [minI_eq]; split <;> omega
  rw [e8, r8, h8, hmin]
  generalize hlo : f / 8 = lo
  generalize hhi : min ((f + w + 7) / 8) z.size = hi
  refine must_i (by decide) (must_i (by decide) (cut_i (by omega) (by omega) (by omega) (bytes_i fun v h1 V nv x1 => ?_)))
  rw [Int.toNat_natCast, Int.toNat_natCast] at V
  have hU : (z.extract lo hi).data.toList = (z.data.toList.take hi).drop lo := extract_data z lo hi
  rw [bints_of, hU] at V
  generalize hu : (z.data.toList.take hi).drop lo = U at V
  have hUl : U.length = hi - lo := by rw [← hu, List.length_drop, List.length_take, size_data]; omega
  have hUv : val U = val z.data.toList % 256 ^ hi / 256 ^ lo := by rw [← hu, val_drop, val_take]
  have hvl := V.len
  rw [bints_len] at hvl
  refine loop_i (fun (t : Int × Int) h2 => 0 ≤ t.2 ∧ t.2 ≤ U.length ∧ h2 = h1 ∧ t.1 = (val (U.take t.2.toNat) : Int)) (fun t => (U.length - t.2).toNat) ⟨Int.le_refl _, by show (0 : Int) ≤ U.length; omega, rfl, rfl⟩ ?_
  rintro ⟨o, i⟩ h2 ⟨i0, i1, rfl, ho⟩ k hk
  simp only at i0 i1 ho
  subst ho
  dsimp only
  have hvt := val_lt (U.take i.toNat)
  rw [List.length_take, Nat.min_eq_left (by omega)] at hvt
  refine ite_i (fun e => ?_) (fun e => ?_)
  · have e := of_decide_eq_true e
    have hlt : i.toNat < U.length := by omega
    have hx : U[i.toNat]? = some U[i.toNat] := List.getElem?_eq_getElem hlt
    have h5 : i.toNat ≤ 4 := by omega
    refine V.arr.index i0 (by rw [bints_len]; omega) (fun p hp => ?_)
    have hc := V.arr.cell (j := 0) hp (bints_get hx) rfl
    rw [add0] at hc
    refine loadI_i hc ?_
    rw [mul_i64 (by omega) (by omega)]
    refine must_i (by show (0 : Int) ≤ 8 * i; omega) ?_
    have hb := U[i.toNat].toNat_lt
    have p40 : 2 ^ (8 * i.toNat) ≤ 2 ^ 32 := Nat.pow_le_pow_right (by decide) (by omega)
    have hmul : U[i.toNat].toNat * 2 ^ (8 * i.toNat) ≤ 256 * 2 ^ 32 := Nat.mul_le_mul (by omega) p40
    rw [pow256] at hvt
    have es : orI .u64 (val (U.take i.toNat) : Int) (shl .u64 (cnv .u64 (U[i.toNat].toNat : Int)) (8 * i)) = ((val (U.take i.toNat) + U[i.toNat].toNat * 2 ^ (8 * i.toNat) : Nat) : Int) := by
      rw [cnv_u64 (by omega) (by omega), show 8 * i = ((8 * i.toNat : Nat) : Int) by omega, shl64 (by omega) (by omega), or64 hvt (by omega)]
    rw [es, add_i64 (by omega) (by omega)]
    refine hk _ _ ⟨by show 0 ≤ i + 1; omega, by show i + 1 ≤ _; omega, rfl, ?_⟩ (by show (U.length - (i + 1)).toNat < (U.length - i).toNat; omega)
    show _ = (val (U.take (i + 1).toNat) : Int)
    rw [show (i + 1).toNat = i.toNat + 1 by omega, List.take_add_one, hx]
    show _ = (val (U.take i.toNat ++ [U[i.toNat]]) : Int)
    rw [val_append, List.length_take, Nat.min_eq_left (by omega), pow256]
    simp only [val, Nat.mul_zero, Nat.add_zero]
    rw [Nat.mul_comm]
  · have e := of_decide_eq_false e
    have hil : i.toNat = U.length := by omega
    rw [List.take_of_length_le (by omega)]
    rw [hil, pow256] at hvt
    rw [List.take_of_length_le (by omega)] at hvt
    have p40 : 2 ^ (8 * U.length) ≤ 2 ^ 40 := Nat.pow_le_pow_right (by decide) (by omega)
    have p32 : 2 ^ w ≤ 2 ^ 32 := Nat.pow_le_pow_right (by decide) hw
    have p1 : 1 ≤ 2 ^ w := Nat.pow_pos (by decide)
    refine must_i (by decide) (must_i (by omega) (must_i (by show (0 : Int) ≤ w; omega) ?_))
    have e1 : shl .u64 1 (w : Int) = ((2 ^ w : Nat) : Int) := by
      have := shl64 (a := 1) (k := w) (by omega) (by omega)
      rw [Nat.one_mul] at this; exact this
    have hdiv : val U / 2 ^ (f % 8) ≤ val U := Nat.div_le_self _ _
    rw [shr64 (by omega), e1, show (1 : Int) = ((1 : Nat) : Int) from rfl, sub_u64 p1 (by omega), and64 (by omega) (by omega)]
    have hm := Nat.mod_lt (val U / 2 ^ (f % 8)) p1
    rw [cnv_i64 (by omega) (by omega)]
    have hres : val U / 2 ^ (f % 8) % 2 ^ w = numN z f w := by
      unfold numN
      rw [hUv, Nat.div_div_eq_div_mul, pow256 lo, ← Nat.pow_add, show 8 * lo + f % 8 = f by omega, pow256]
      by_cases hsz : (f + w + 7) / 8 ≤ z.size
      · rw [part_mod (by omega)]
      · have hv := val_lt z.data.toList
        rw [size_data, pow256] at hv
        rw [Nat.mod_eq_of_lt (a := val z.data.toList)]
        rw [show hi = z.size by omega]; exact hv
    rw [hres]
    exact hQ h2 x1

theorem bit_spec {z : ByteArray} {f : Nat} {h : H} {Q : Bool → HProp} (hz : z.size ≤ 1000000) (hf : f ≤ 9223372036854775807) (hQ : Q ((val z.data.toList).testBit f) h) : ref04_bit (z, (f : Int)) Q h := by
  unfold ref04_bit
  simp only [ltI_eq, eqI_eq]
  have e8 : quo .i64 (f : Int) 8 = ((f / 8 : Nat) : Int) := quo_n (b := 8) (by decide) (by omega)
  have r8 : rem (f : Int) 8 = ((f % 8 : Nat) : Int) := rem_n (b := 8)
  rw [e8, r8]
  refine with_b ((val z.data.toList).testBit f) (fun k hk => ?_) hQ
  refine must_i (by decide) (ite_i (fun e => ?_) (fun e => ?_))
  · have e := of_decide_eq_true e
    have hlt : f / 8 < z.data.toList.length := by rw [size_data]; omega
    have hx : z.data.toList[f / 8]? = some z.data.toList[f / 8] := List.getElem?_eq_getElem hlt
    have hb := val_get _ _ hx
    refine must_i (by decide) (byte_i (by omega) (by rw [Int.toNat_natCast]; exact hx) (must_i (by decide) (must_i (by omega) (must_i (by decide) ?_))))
    rw [shr_u8 (by omega), show (2 : Int) = ((2 : Nat) : Int) from rfl, rem_n]
    have : (val z.data.toList).testBit f = decide (((z.data.toList[f / 8].toNat / 2 ^ (f % 8) % 2 : Nat) : Int) = 1) := by
      have h1 : decide (((z.data.toList[f / 8].toNat / 2 ^ (f % 8) % 2 : Nat) : Int) = 1) = (z.data.toList[f / 8].toNat).testBit (f % 8) := by
        rw [Nat.testBit_eq_decide_div_mod_eq, decide_eq_decide]; omega
      rw [h1, hb, show (256 : Nat) = 2 ^ 8 from rfl, Nat.testBit_mod_two_pow, ← Nat.pow_mul, Nat.testBit_div_two_pow]
      simp [show f % 8 < 8 by omega, show 8 * (f / 8) + f % 8 = f by omega, show f % 8 + 8 * (f / 8) = f by omega]
    rw [← this]; exact hk
  · have e := of_decide_eq_false e
    have hv := val_lt z.data.toList
    rw [size_data, pow256] at hv
    have : (val z.data.toList).testBit f = false := by
      apply Nat.testBit_lt_two_pow
      exact Nat.lt_of_lt_of_le hv (Nat.pow_le_pow_right (by decide) (by omega))
    rw [this] at hk; exact hk
theorem refNumber_spec {z : ByteArray} {i w : Nat} {h : H} {Q : Int → HProp} (hz : z.size ≤ 1000000) (hw : w ≤ 32) (hi : i ≤ 10000000) (hQ : Q (numN z (i * w) w : Int) h) : ref04_number (z, (i : Int), (w : Int)) Q h := by
  unfold ref04_number
  simp only [leI_eq]
  have hiw : i * w ≤ 10000000 * 32 := Nat.mul_le_mul hi hw
  rw [sub_i64 (by omega) (by omega)]
  refine loop_i (fun (t : Int × Int) h2 => -1 ≤ t.2 ∧ t.2 ≤ (w : Int) - 1 ∧ h2 = h ∧ t.1 = ((val z.data.toList / 2 ^ (i * w) / 2 ^ (t.2 + 1).toNat % 2 ^ (w - (t.2 + 1).toNat) : Nat) : Int)) (fun t => (t.2 + 1).toNat)
    ⟨by show (-1 : Int) ≤ (w : Int) - 1; omega, Int.le_refl _, rfl, ?_⟩ ?_
  · show (0 : Int) = ((val z.data.toList / 2 ^ (i * w) / 2 ^ ((w : Int) - 1 + 1).toNat % 2 ^ (w - ((w : Int) - 1 + 1).toNat) : Nat) : Int)
    rw [show w - ((w : Int) - 1 + 1).toNat = 0 by omega]; simp [Nat.mod_one]
  rintro ⟨n, k⟩ h2 ⟨k0, k1, rfl, hn⟩ k2 hk2
  simp only at k0 k1 hn
  subst hn
  dsimp only
  refine ite_i (fun e => ?_) (fun e => ?_)
  · have e := of_decide_eq_true e
    have e1 : (k + 1).toNat = k.toNat + 1 := by omega
    rw [e1]
    generalize hX : val z.data.toList / 2 ^ (i * w) = X
    have hm : X / 2 ^ k.toNat % 2 ^ (w - k.toNat) = X / 2 ^ k.toNat % 2 + 2 * (X / 2 ^ (k.toNat + 1) % 2 ^ (w - (k.toNat + 1))) := by
      rw [show w - k.toNat = (w - (k.toNat + 1)) + 1 by omega, Nat.pow_succ 2 (w - (k.toNat + 1)), Nat.mul_comm (2 ^ (w - (k.toNat + 1))) 2, Nat.mod_mul, Nat.pow_succ 2 k.toNat, ← Nat.div_div_eq_div_mul]
    have hlt : X / 2 ^ (k.toNat + 1) % 2 ^ (w - (k.toNat + 1)) < 2 ^ 32 := Nat.lt_of_lt_of_le (Nat.mod_lt _ (Nat.pow_pos (by decide))) (Nat.pow_le_pow_right (by decide) (by omega))
    have ef : add .i64 (mul .i64 (i : Int) (w : Int)) k = ((i * w + k.toNat : Nat) : Int) := by
      rw [mul_n (by omega), add_i64 (by omega) (by omega)]; omega
    rw [ef]
    have hbit : (val z.data.toList).testBit (i * w + k.toNat) = decide (X / 2 ^ k.toNat % 2 = 1) := by
      rw [Nat.testBit_eq_decide_div_mod_eq, Nat.pow_add, ← Nat.div_div_eq_div_mul, hX]
    refine with_b ((X / 2 ^ k.toNat % 2 ^ (w - k.toNat) : Nat) : Int) (fun k3 hk3 => ?_) ?_
    · refine bit_spec hz (by omega) ?_
      rw [hbit, mul_i64 (by omega) (by omega)]
      rw [hm] at hk3
      refine ite_i (fun e2 => ?_) (fun e2 => ?_)
      · have e2 := of_decide_eq_true e2
        rw [add_i64 (by omega) (by omega)]
        rw [e2] at hk3
        rw [show (2 * ((X / 2 ^ (k.toNat + 1) % 2 ^ (w - (k.toNat + 1)) : Nat) : Int)) + 1 = ((1 + 2 * (X / 2 ^ (k.toNat + 1) % 2 ^ (w - (k.toNat + 1))) : Nat) : Int) by omega]; exact hk3
      · have e2 := of_decide_eq_false e2
        have h0 : X / 2 ^ k.toNat % 2 = 0 := by omega
        rw [h0] at hk3
        rw [show (2 * ((X / 2 ^ (k.toNat + 1) % 2 ^ (w - (k.toNat + 1)) : Nat) : Int)) = ((0 + 2 * (X / 2 ^ (k.toNat + 1) % 2 ^ (w - (k.toNat + 1))) : Nat) : Int) by omega]; exact hk3
    rw [sub_i64 (by omega) (by omega)]
    refine hk2 _ _ ⟨by show -1 ≤ k - 1; omega, by show k - 1 ≤ _; omega, rfl, ?_⟩ (by show (k - 1 + 1).toNat < (k + 1).toNat; omega)
    show _ = ((val z.data.toList / 2 ^ (i * w) / 2 ^ (k - 1 + 1).toNat % 2 ^ (w - (k - 1 + 1).toNat) : Nat) : Int)
    rw [hX, show (k - 1 + 1).toNat = k.toNat by omega]
  · have e := of_decide_eq_false e
    have : (k + 1).toNat = 0 := by omega
    rw [this]
    unfold numN at hQ
    simpa using hQ

/-! ## unpacking -/
def upCode (z : ByteArray) (many w : Int) : Int :=
  if w < 0 ∨ 32 < w ∨ many < 0 then 2 else if 65536 < many then 3
  else if z.size ≠ (many.toNat * w.toNat + 7) / 8 ∨ 2 ^ (many.toNat * w.toNat) ≤ val z.data.toList then 10 else 0
def numI (w v many : Nat) : List Int := (nums w v many).map fun n : Nat => (n : Int)
theorem numI_len (w v many : Nat) : (numI w v many).length = many := by simp [numI, nums_len]
theorem numI_get {w v many i : Nat} (h : i < many) : (numI w v many)[i]? = some ((v / 2 ^ (i * w) % 2 ^ w : Nat) : Int) := by
  unfold numI; rw [List.getElem?_map, nums_get h]; rfl
theorem numI_bd {w v many : Nat} : ∀ n ∈ numI w v many, 0 ≤ n ∧ n < 2 ^ w := by
  intro n hn
  simp only [numI, List.mem_map] at hn
  obtain ⟨x, hx, rfl⟩ := hn
  have := nums_lt w v many x hx
  have e : ((2 : Int) ^ w) = ((2 ^ w : Nat) : Int) := by simp
  rw [e]; omega
theorem last_byte {z : ByteArray} {n r : Nat} (hz : z.size = n + 1) (hr : r ≤ 8) {b : UInt8} (hb : z.data.toList[n]? = some b) : 0 < b.toNat / 2 ^ r ↔ 2 ^ (8 * n + r) ≤ val z.data.toList := by
  have h1 := val_get _ _ hb
  have hv := val_lt z.data.toList
  rw [size_data, hz, Nat.pow_succ, Nat.mul_comm] at hv
  have h2 : val z.data.toList / 256 ^ n < 256 := (Nat.div_lt_iff_lt_mul (Nat.pow_pos (by decide))).2 hv
  rw [Nat.mod_eq_of_lt h2] at h1
  rw [h1, Nat.div_div_eq_div_mul, pow256, ← Nat.pow_add]
  exact Nat.div_pos_iff.trans ⟨fun h => h.2, fun h => ⟨Nat.pow_pos (by decide), h⟩⟩
theorem Unpack_spec {z : ByteArray} {many w : Int} {h : H} {Q : Sl × Int → HProp} (hz : z.size ≤ 1000000)
    (hbad : upCode z many w ≠ 0 → Q (⟨none, 0, 0⟩, upCode z many w) h)
    (hok : upCode z many w = 0 → ∀ v h', Ext h h' → New h v → Vec h' v (eI .i64) (numI w.toNat (val z.data.toList) many.toNat) → Q (v, 0) h') : packed_Unpack (z, many, w) Q h := by
  unfold packed_Unpack
  simp only [ltI_eq, eqI_eq]
  refine with_b (decide (w < 0 ∨ 32 < w ∨ many < 0)) (fun k hk => ?_) ?_
  · refine ite_i (fun e => ?_) (fun e1 => ite_i (fun e => ?_) (fun e2 => ?_))
    · rw [decide_eq_true (.inl (of_decide_eq_true e))] at hk; exact hk
    · rw [decide_eq_true (.inr (.inl (of_decide_eq_true e)))] at hk; exact hk
    · have e1 := of_decide_eq_false e1
      have e2 := of_decide_eq_false e2
      rw [show decide (many < 0) = decide (w < 0 ∨ 32 < w ∨ many < 0) by rw [decide_eq_decide]; omega]; exact hk
  refine ite_i (fun e => ?_) (fun e => ?_)
  · have c : upCode z many w = 2 := if_pos (of_decide_eq_true e)
    rw [c] at hbad; exact hbad (by decide)
  have e := of_decide_eq_false e
  refine ite_i (fun e2 => ?_) (fun e2 => ?_)
  · have c : upCode z many w = 3 := by unfold upCode; rw [if_neg e, if_pos (of_decide_eq_true e2)]
    rw [c] at hbad; exact hbad (by decide)
  have e2 := of_decide_eq_false e2
  have hwi : w = ((w.toNat : Nat) : Int) := by omega
  have hmi : many = ((many.toNat : Nat) : Int) := by omega
  generalize hW : w.toNat = W at *
  generalize hM : many.toNat = M at *
  subst hwi; subst hmi
  have hMW : M * W ≤ 65536 * 32 := Nat.mul_le_mul (by omega) (by omega)
  have enb : quo .i64 (add .i64 (mul .i64 (M : Int) (W : Int)) 7) 8 = (((M * W + 7) / 8 : Nat) : Int) := by
    rw [mul_n (by omega), show (7 : Int) = ((7 : Nat) : Int) from rfl, add_n (by omega), show (8 : Int) = ((8 : Nat) : Int) from rfl, quo_n (by decide) (by omega)]
  have er : rem (mul .i64 (M : Int) (W : Int)) 8 = ((M * W % 8 : Nat) : Int) := by rw [mul_n (by omega)]; exact rem_n (b := 8)
  rw [enb, er]
  refine must_i (by decide) (ite_i (fun e3 => ?_) (fun e3 => ?_))
  · have e3 : z.size ≠ (M * W + 7) / 8 := by
      intro h; rw [h] at e3; simp at e3
    have c : upCode z (M : Int) (W : Int) = 10 := by
      unfold upCode; rw [if_neg e, if_neg e2, if_pos (by rw [Int.toNat_natCast, Int.toNat_natCast]; exact .inl e3)]
    rw [c] at hbad; exact hbad (by decide)
  have e3 : z.size = (M * W + 7) / 8 := by
    have : ((z.size : Int) = (((M * W + 7) / 8 : Nat) : Int)) := by simpa using e3
    omega
  refine with_b (decide (2 ^ (M * W) ≤ val z.data.toList)) (fun k hk => ?_) ?_
  · refine must_i (by decide) (ite_i (fun e4 => ?_) (fun e4 => ?_))
    · have e4 : 0 < M * W % 8 := by have := of_decide_eq_true e4; omega
      have hlt : z.size - 1 < z.data.toList.length := by rw [size_data]; omega
      have hx : z.data.toList[z.size - 1]? = some z.data.toList[z.size - 1] := List.getElem?_eq_getElem hlt
      rw [sub_i64 (by omega) (by omega)]
      have et : ((z.size : Int) - 1).toNat = z.size - 1 := by omega
      refine byte_i (by omega) (by rw [et]; exact hx) (must_i (by decide) (must_i (by omega) ?_))
      rw [shr_u8 (by omega)]
      have hlb := last_byte (z := z) (n := z.size - 1) (r := M * W % 8) (by omega) (by omega) hx
      rw [show 8 * (z.size - 1) + M * W % 8 = M * W by omega] at hlb
      rw [show decide (0 < ((z.data.toList[z.size - 1].toNat / 2 ^ (M * W % 8) : Nat) : Int)) = decide (2 ^ (M * W) ≤ val z.data.toList) by
        rw [decide_eq_decide, ← hlb]; omega]
      exact hk
    · have e4 : M * W % 8 = 0 := by have := of_decide_eq_false e4; omega
      have hv := val_lt z.data.toList
      rw [size_data, pow256, show 8 * z.size = M * W by omega] at hv
      rw [decide_eq_false (by omega)] at hk; exact hk
  refine ite_i (fun e4 => ?_) (fun e4 => ?_)
  · have c : upCode z (M : Int) (W : Int) = 10 := by
      unfold upCode; rw [if_neg e, if_neg e2, if_pos (by rw [Int.toNat_natCast, Int.toNat_natCast]; exact .inr (of_decide_eq_true e4))]
    rw [c] at hbad; exact hbad (by decide)
  have e4 := of_decide_eq_false e4
  have c : upCode z (M : Int) (W : Int) = 0 := by
    unfold upCode
    rw [if_neg e, if_neg e2, if_neg]
    rw [Int.toNat_natCast, Int.toNat_natCast]
    rintro (h | h)
    · exact h e3
    · exact e4 h
  refine make_i (E := eI .i64) (x0 := 0) rfl (by omega) (Int.le_refl _) (by omega) (by omega) ?_
  intro v h1 V _ nv x1 _
  rw [Int.toNat_natCast] at V
  refine loop_i (fun (i : Int) h2 => 0 ≤ i ∧ i ≤ M ∧ Ext h h2 ∧ ∃ l : List Int, l.length = M ∧ Vec h2 v (eI .i64) l ∧ ∀ j, j < i.toNat → l[j]? = (numI W (val z.data.toList) M)[j]?) (fun i => (M - i).toNat)
    ⟨Int.le_refl _, by omega, x1, _, by simp, V, by simp⟩ ?_
  rintro i h2 ⟨i0, i1, x2, l, hl, V2, hj⟩ k hk
  have hvl := V2.len
  refine ite_i (fun e5 => ?_) (fun e5 => ?_)
  · have e5 := of_decide_eq_true e5
    have hiW : i.toNat * W + W ≤ M * W := by
      have : (i.toNat + 1) * W ≤ M * W := Nat.mul_le_mul_right _ (by omega)
      rw [Nat.add_mul, Nat.one_mul] at this; exact this
    have em : mul .i64 i (W : Int) = ((i.toNat * W : Nat) : Int) := by
      conv => lhs; rw [show i = ((i.toNat : Nat) : Int) by omega]
      exact mul_n (by omega)
    rw [em]
    refine number_spec hz (by omega) (by omega) fun h3 x3 => ?_
    refine (V2.ext x3).arr.index i0 (by omega) (fun p hp => ?_)
    have hx : l[i.toNat]? = some (l[i.toNat]'(by omega)) := List.getElem?_eq_getElem _
    have := (V2.ext x3).store (K := k (add .i64 i 1)) (j := 0) hp hx Nat.one_pos (y := .int .i64 (numN z (i.toNat * W) W : Int)) (x' := (numN z (i.toNat * W) W : Int)) rfl
    rw [add0] at this
    refine this fun h4 V4 f4 => ?_
    rw [add_i64 (by omega) (by omega)]
    refine hk _ _ ⟨by omega, by omega, (x2.trans x3).of_new f4 nv, _, by simpa using hl, V4, fun j hj2 => ?_⟩ (by omega)
    by_cases e6 : j = i.toNat
    · subst e6
      rw [List.getElem?_set_self (by omega), numI_get (by omega)]
      rfl
    · rw [List.getElem?_set_ne (by omega)]; exact hj j (by omega)
  · have e5 := of_decide_eq_false e5
    have : l = numI W (val z.data.toList) M := by
      apply List.ext_getElem?
      intro j
      by_cases h3 : j < i.toNat
      · exact hj j h3
      · rw [List.getElem?_eq_none (by omega), List.getElem?_eq_none (by rw [numI_len]; omega)]
    subst this
    have := hok c v h2 x2 nv
    exact this V2

theorem packR_nums {w v many : Nat} (hw : w ≤ 32) : packR (numI w v many) (w : Int) = (mkB (Bits.bytes ((many * w + 7) / 8) (v % 2 ^ (many * w))), 0) := by
  unfold packR packB
  have hwl : wl (numI w v many) ≤ w := wl_le.2 fun n hn => (width_le hw).2 (numI_bd n hn)
  rw [if_neg (by omega), numI_len, Int.toNat_natCast]
  have : catI w (numI w v many) = v % 2 ^ (many * w) := by
    unfold catI numI
    rw [List.map_map]
    have e : Int.toNat ∘ (fun n : Nat => (n : Int)) = id := by funext n; simp
    rw [e, List.map_id, cat_nums]
  rw [this]
theorem pack_same {z : ByteArray} {w many : Nat} : mkB (Bits.bytes ((many * w + 7) / 8) (val z.data.toList % 2 ^ (many * w))) = z ↔ (z.size = (many * w + 7) / 8 ∧ val z.data.toList < 2 ^ (many * w)) := by
  constructor
  · intro h
    have h1 : (Bits.bytes ((many * w + 7) / 8) (val z.data.toList % 2 ^ (many * w))) = z.data.toList := by
      have := congrArg (fun z : ByteArray => z.data.toList) h
      simpa [mkB_data] using this
    have hs : z.size = (many * w + 7) / 8 := by rw [← size_data, ← h1, bytes_len]
    refine ⟨hs, ?_⟩
    have h2 := congrArg val h1
    rw [val_bytes] at h2
    have h3 := Nat.mod_le (val z.data.toList % 2 ^ (many * w)) (256 ^ ((many * w + 7) / 8))
    have h4 := Nat.mod_lt (val z.data.toList) (Nat.pow_pos (n := many * w) (show 0 < 2 by decide))
    omega
  · rintro ⟨h1, h2⟩
    rw [Nat.mod_eq_of_lt h2, ← h1]
    apply ba_ext
    rw [mkB_data, ← size_data, bytes_val]
theorem refUnpack_spec {z : ByteArray} {many w : Int} {h : H} {Q : Sl × Int → HProp} (hz : z.size ≤ 1000000)
    (hbad : upCode z many w ≠ 0 → ∀ h', Ext h h' → Q (⟨none, 0, 0⟩, upCode z many w) h')
    (hok : upCode z many w = 0 → ∀ v h', Ext h h' → New h v → Vec h' v (eI .i64) (numI w.toNat (val z.data.toList) many.toNat) → Q (v, 0) h') : ref04_Unpack (z, many, w) Q h := by
  unfold ref04_Unpack
  simp only [ltI_eq]
  refine with_b (decide (w < 0 ∨ 32 < w ∨ many < 0)) (fun k hk => ?_) ?_
  · refine ite_i (fun e => ?_) (fun e1 => ite_i (fun e => ?_) (fun e2 => ?_))
    · rw [decide_eq_true (.inl (of_decide_eq_true e))] at hk; exact hk
    · rw [decide_eq_true (.inr (.inl (of_decide_eq_true e)))] at hk; exact hk
    · have e1 := of_decide_eq_false e1
      have e2 := of_decide_eq_false e2
      rw [show decide (many < 0) = decide (w < 0 ∨ 32 < w ∨ many < 0) by rw [decide_eq_decide]; omega]; exact hk
  refine ite_i (fun e => ?_) (fun e => ?_)
  · have c : upCode z many w = 2 := if_pos (of_decide_eq_true e)
    rw [c] at hbad; exact hbad (by decide) h (Ext.refl h)
  have e := of_decide_eq_false e
  refine ite_i (fun e2 => ?_) (fun e2 => ?_)
  · have c : upCode z many w = 3 := by unfold upCode; rw [if_neg e, if_pos (of_decide_eq_true e2)]
    rw [c] at hbad; exact hbad (by decide) h (Ext.refl h)
  have e2 := of_decide_eq_false e2
  have hwi : w = ((w.toNat : Nat) : Int) := by omega
  have hmi : many = ((many.toNat : Nat) : Int) := by omega
  generalize hW : w.toNat = W at *
  generalize hM : many.toNat = M at *
  subst hwi; subst hmi
  have ext1 : ∀ i : Nat, numI W (val z.data.toList) (i + 1) = numI W (val z.data.toList) i ++ [(numN z (i * W) W : Int)] := by
    intro i; simp [numI, nums, List.range_succ, numN]
  refine loop_i (fun (t : Sl × Int) h2 => 0 ≤ t.2 ∧ t.2 ≤ M ∧ Ext h h2 ∧ New h t.1 ∧ Vec h2 t.1 (eI .i64) (numI W (val z.data.toList) t.2.toNat)) (fun t => (M - t.2).toNat)
    ⟨Int.le_refl _, by show (0 : Int) ≤ M; omega, Ext.refl h, New.nil0, Vec.nil0⟩ ?_
  rintro ⟨v, i⟩ h2 ⟨i0, i1, x2, nv, V2⟩ k hk
  simp only at i0 i1 nv V2
  dsimp only
  refine ite_i (fun e3 => ?_) (fun e3 => ?_)
  · have e3 := of_decide_eq_true e3
    conv => arg 1; rw [show i = ((i.toNat : Nat) : Int) by omega]
    refine refNumber_spec hz (by omega) (by omega) ?_
    refine V2.append_new x2 nv (m := [(numN z (i.toNat * W) W : Int)]) rfl rfl rfl (by rw [numI_len]; omega) ?_
    intro u h3 U x3 nu _ _
    rw [add_i64 (by omega) (by omega)]
    rw [← ext1] at U
    refine hk _ _ ⟨by show 0 ≤ i + 1; omega, by show i + 1 ≤ _; omega, x3, nu, ?_⟩ (by show (M - (i + 1)).toNat < (M - i).toNat; omega)
    show Vec h3 u (eI .i64) (numI W (val z.data.toList) (i + 1).toNat)
    rw [show (i + 1).toNat = i.toNat + 1 by omega]; exact U
  · have e3 := of_decide_eq_false e3
    have : i.toNat = M := by omega
    rw [this] at V2
    refine refPack_spec V2.arr (by rw [numI_len]; omega) fun h3 x3 => ?_
    rw [packR_nums (by omega), eqS_eq]
    refine ite_i (fun e4 => ?_) (fun e4 => ?_)
    · have e4 : ¬ mkB (Bits.bytes ((M * W + 7) / 8) (val z.data.toList % 2 ^ (M * W))) = z := by simpa using e4
      rw [pack_same] at e4
      have c : upCode z (M : Int) (W : Int) = 10 := by
        unfold upCode
        rw [if_neg e, if_neg e2, if_pos]
        rw [Int.toNat_natCast, Int.toNat_natCast]
        by_cases h5 : z.size = (M * W + 7) / 8
        · by_cases h6 : val z.data.toList < 2 ^ (M * W)
          · exact absurd ⟨h5, h6⟩ e4
          · exact .inr (by omega)
        · exact .inl h5
      rw [c] at hbad; exact hbad (by decide) h3 (x2.trans x3)
    · have e4 : mkB (Bits.bytes ((M * W + 7) / 8) (val z.data.toList % 2 ^ (M * W))) = z := by simpa using e4
      obtain ⟨h5, h6⟩ := pack_same.1 e4
      have c : upCode z (M : Int) (W : Int) = 0 := by
        unfold upCode
        rw [if_neg e, if_neg e2, if_neg]
        rw [Int.toNat_natCast, Int.toNat_natCast]
        rintro (h | h)
        · exact h h5
        · omega
      exact hok c v h3 (x2.trans x3) nv (V2.ext x3)

def atR (z : ByteArray) (i w : Int) : Int × Int :=
  if w < 0 ∨ 32 < w ∨ i < 0 then (0, 2) else if w = 0 then (0, 0) else if 8 * (z.size : Int) / w ≤ i then (0, 4) else ((numN z (i.toNat * w.toNat) w.toNat : Int), 0)
theorem At_spec {z : ByteArray} {i w : Int} {h : H} {Q : Int × Int → HProp} (hz : z.size ≤ 1000000) (hQ : ∀ h', Ext h h' → Q (atR z i w) h') : packed_At (z, i, w) Q h := by
  unfold packed_At
  simp only [ltI_eq, eqI_eq, leI_eq]
  refine with_b (decide (w < 0 ∨ 32 < w ∨ i < 0)) (fun k hk => ?_) ?_
  · refine ite_i (fun e => ?_) (fun e1 => ite_i (fun e => ?_) (fun e2 => ?_))
    · rw [decide_eq_true (.inl (of_decide_eq_true e))] at hk; exact hk
    · rw [decide_eq_true (.inr (.inl (of_decide_eq_true e)))] at hk; exact hk
    · have e1 := of_decide_eq_false e1
      have e2 := of_decide_eq_false e2
      rw [show decide (i < 0) = decide (w < 0 ∨ 32 < w ∨ i < 0) by rw [decide_eq_decide]; omega]; exact hk
  have hQ0 := hQ h (Ext.refl h)
  refine ite_i (fun e => ?_) (fun e => ?_)
  · rw [show atR z i w = (0, 2) from if_pos (of_decide_eq_true e)] at hQ0; exact hQ0
  have e := of_decide_eq_false e
  refine ite_i (fun e2 => ?_) (fun e2 => ?_)
  · rw [show atR z i w = (0, 0) by unfold atR; rw [if_neg e, if_pos (of_decide_eq_true e2)]] at hQ0; exact hQ0
  have e2 := of_decide_eq_false e2
  refine must_i e2 ?_
  rw [mul_i64 (by omega) (by omega), quo_i64 (by omega) (by omega) (by omega)]
  refine ite_i (fun e3 => ?_) (fun e3 => ?_)
  · rw [show atR z i w = (0, 4) by unfold atR; rw [if_neg e, if_neg e2, if_pos (of_decide_eq_true e3)]] at hQ0; exact hQ0
  have e3 := of_decide_eq_false e3
  have hq : (i + 1) * w ≤ 8 * (z.size : Int) := by
    have : i + 1 ≤ 8 * (z.size : Int) / w := by omega
    exact (Int.le_ediv_iff_mul_le (by omega)).1 this
  rw [Int.add_mul, Int.one_mul] at hq
  have hc : i * w = ((i.toNat * w.toNat : Nat) : Int) := by
    rw [Int.natCast_mul]
    rw [show ((i.toNat : Nat) : Int) = i by omega, show ((w.toNat : Nat) : Int) = w by omega]
  have em : mul .i64 i w = ((i.toNat * w.toNat : Nat) : Int) := by
    rw [mul_i64 (by rw [hc]; omega) (by omega), hc]
  rw [em]
  rw [hc] at hq
  have := number_spec (z := z) (f := i.toNat * w.toNat) (w := w.toNat) (h := h) (Q := fun r => Q (r, 0)) hz (by omega) (by omega) (fun h1 x1 => by
    have := hQ h1 x1
    rw [show atR z i w = ((numN z (i.toNat * w.toNat) w.toNat : Int), 0) by unfold atR; rw [if_neg e, if_neg e2, if_neg e3]] at this
    exact this)
  rw [show ((w.toNat : Nat) : Int) = w by omega] at this
  exact this
theorem refAt_spec {z : ByteArray} {i w : Int} {h : H} {Q : Int × Int → HProp} (hz : z.size ≤ 1000000) (hQ : Q (atR z i w) h) : ref04_At (z, i, w) Q h := by
  unfold ref04_At
  simp only [ltI_eq, eqI_eq, leI_eq]
  refine with_b (decide (w < 0 ∨ 32 < w ∨ i < 0)) (fun k hk => ?_) ?_
  · refine ite_i (fun e => ?_) (fun e1 => ite_i (fun e => ?_) (fun e2 => ?_))
    · rw [decide_eq_true (.inl (of_decide_eq_true e))] at hk; exact hk
    · rw [decide_eq_true (.inr (.inl (of_decide_eq_true e)))] at hk; exact hk
    · have e1 := of_decide_eq_false e1
      have e2 := of_decide_eq_false e2
      rw [show decide (i < 0) = decide (w < 0 ∨ 32 < w ∨ i < 0) by rw [decide_eq_decide]; omega]; exact hk
  refine ite_i (fun e => ?_) (fun e => ?_)
  · rw [show atR z i w = (0, 2) from if_pos (of_decide_eq_true e)] at hQ; exact hQ
  have e := of_decide_eq_false e
  refine with_b (decide (0 < w ∧ 8 * (z.size : Int) / w ≤ i)) (fun k hk => ?_) ?_
  · refine ite_i (fun e2 => ?_) (fun e2 => ?_)
    · have e2 := of_decide_eq_true e2
      refine must_i (by show w ≠ 0; omega) ?_
      rw [mul_i64 (by omega) (by omega), quo_i64 (by omega) e2 (by omega)]
      rw [show decide (8 * (z.size : Int) / w ≤ i) = decide (0 < w ∧ 8 * (z.size : Int) / w ≤ i) by rw [decide_eq_decide]; exact ⟨fun h => ⟨e2, h⟩, fun h => h.2⟩]; exact hk
    · have e2 := of_decide_eq_false e2
      rw [decide_eq_false (fun h => e2 h.1)] at hk; exact hk
  refine ite_i (fun e2 => ?_) (fun e2 => ?_)
  · have e2 := of_decide_eq_true e2
    rw [show atR z i w = (0, 4) by unfold atR; rw [if_neg e, if_neg (by omega), if_pos e2.2]] at hQ; exact hQ
  have e2 := of_decide_eq_false e2
  refine ite_i (fun e3 => ?_) (fun e3 => ?_)
  · rw [show atR z i w = (0, 0) by unfold atR; rw [if_neg e, if_pos (of_decide_eq_true e3)]] at hQ; exact hQ
  have e3 := of_decide_eq_false e3
  have e4 : ¬ 8 * (z.size : Int) / w ≤ i := fun h => e2 ⟨by omega, h⟩
  have hi : i < 8 * (z.size : Int) := by
    have := Int.ediv_le_self (a := 8 * (z.size : Int)) w (by omega)
    omega
  have := refNumber_spec (z := z) (i := i.toNat) (w := w.toNat) (h := h) (Q := fun r => Q (r, 0)) hz (by omega) (by omega) (by
    rw [show atR z i w = ((numN z (i.toNat * w.toNat) w.toNat : Int), 0) by unfold atR; rw [if_neg e, if_neg e3, if_neg e4]] at hQ; exact hQ)
  rw [show ((i.toNat : Nat) : Int) = i by omega, show ((w.toNat : Nat) : Int) = w by omega] at this
  exact this

/-! ## the laws -/
theorem does_spec {h : H} {Q : Bool → HProp} (hQ : ∀ h', Ext h h' → Q true h') : law04_does () Q h := by
  unfold law04_does
  refine new_i (E := eI .i64) (l := [1, 2, 3]) rfl rfl fun b1 h1 V1 _ x1 => ?_
  refine Pack_spec V1.arr (by decide) (by intro n hn; simp at hn; omega) fun h2 x2 => ?_
  refine new_i (E := eI .i64) (l := [8]) rfl rfl fun b3 h3 V3 _ x3 => ?_
  refine Pack_spec V3.arr (by decide) (by intro n hn; simp at hn; omega) fun h4 x4 => ?_
  refine At_spec (by decide) fun h5 x5 => ?_
  refine At_spec (by decide) fun h6 x6 => ?_
  refine At_spec (by decide) fun h7 x7 => ?_
  refine Unpack_spec (by decide) (fun e => absurd (by decide) e) (fun _ v h8 x8 n8 V8 => ?_)
  refine with_i (fun b h' => b = true ∧ Ext h8 h') (fun k hk => ?_) ?_
  · simp only [eqI_eq, eqS_eq]
    refine new_i (E := eI .i64) (l := [0, 5]) rfl rfl fun b9 h9 V9 _ x9 => ?_
    refine Width_spec V9.arr (by decide) (by intro n hn; simp at hn; omega) (ite_t (by decide) ?_)
    refine Width_spec (l := []) Vec.nil0.arr (by decide) (by intro n hn; simp at hn) (ite_t (by decide) ?_)
    refine new_i (E := eI .i64) (l := [-1]) rfl rfl fun b10 h10 V10 _ x10 => ?_
    refine Width_spec V10.arr (by decide) (by intro n hn; simp at hn; omega) (ite_t (by decide) ?_)
    refine new_i (E := eI .i64) (l := [4294967296]) rfl rfl fun b11 h11 V11 _ x11 => ?_
    refine Width_spec V11.arr (by decide) (by intro n hn; simp at hn; omega) (ite_t (by decide) ?_)
    have p1 : packR [1, 2, 3] 3 = (mkB [209, 0], 0) := by rfl
    have p2 : packR [8] 3 = (⟨#[]⟩, 2) := by rfl
    rw [p1, p2]
    refine ite_t (by decide) (ite_t (by simp [mkB]) (ite_t (by decide) (ite_t (by decide) (ite_t (by decide) (ite_t (by decide) (ite_t (by decide) (ite_t (by decide) (ite_t (by decide) ?_))))))))
    refine new_i (E := eI .i64) (l := [1, 2, 3]) rfl rfl fun b12 h12 V12 _ x12 => ?_
    refine Same_spec ((((V8.ext x9).ext x10).ext x11).ext x12).arr V12.arr (by decide) ?_
    exact hk _ _ ⟨by decide, ((x9.trans x10).trans x11).trans x12⟩
  · rintro b h' ⟨rfl, hx⟩
    exact hQ h' ((((((((x1.trans x2).trans x3).trans x4).trans x5).trans x6).trans x7).trans x8).trans hx)

theorem PackedPack_holds (a : Sl) (l : List Int) (w : Int) (h : H) (A : Arr h a (eI .i64) l) (hi : I64 l) : law04_PackedPack (a, w) (fun r _ => r = true) h := by
  unfold law04_PackedPack
  have la := A.len
  simp only [ltI_eq, eqI_eq, eqS_eq]
  refine ite_i (fun _ => trivial) (fun e => ?_)
  have e := of_decide_eq_false e
  have hl : l.length ≤ 500 := by omega
  refine Twin_spec A (by omega) fun r h1 T x1 nr => ?_
  refine Pack_spec T.1 (by omega) hi fun h2 x2 => ?_
  refine refPack_spec ((A.ext x1).ext x2) (by omega) fun h3 x3 => ?_
  refine with_i (fun b _ => b = true) (fun k hk => ?_) (fun a h' e => e)
  refine ite_t (by simp) (ite_t (by simp) ?_)
  have x13 := x2.trans x3
  refine Width_spec (T.1.ext x13) (by omega) hi (refWidth_spec ((A.ext x1).ext x13) (by omega) (ite_t (by simp) ?_))
  exact Left_spec' ⟨T.1.ext x13, T.2.1, T.2.2.ext x13⟩ ((A.ext x1).ext x13) (by omega) (ite_t rfl (does_spec fun h' _ => hk true h' rfl))

theorem upCode_neg {z : ByteArray} {many w : Int} (h : upCode z many w = 0) : 0 ≤ w ∧ w ≤ 32 ∧ 0 ≤ many ∧ many ≤ 65536 ∧ z.size = (many.toNat * w.toNat + 7) / 8 ∧ val z.data.toList < 2 ^ (many.toNat * w.toNat) := by
  unfold upCode at h
  split at h
  · cases h
  · split at h
    · cases h
    · split at h
      · cases h
      · rename_i h1 h2 h3
        refine ⟨by omega, by omega, by omega, by omega, ?_, ?_⟩
        · by_cases h4 : z.size = (many.toNat * w.toNat + 7) / 8
          · exact h4
          · exact absurd (.inl h4) h3
        · by_cases h4 : 2 ^ (many.toNat * w.toNat) ≤ val z.data.toList
          · exact absurd (.inr h4) h3
          · omega
theorem PackedUnpack_holds (z : ByteArray) (many w : Int) (h : H) : law04_PackedUnpack (z, many, w) (fun r _ => r = true) h := by
  unfold law04_PackedUnpack
  simp only [ltI_eq, leI_eq, eqI_eq]
  refine with_b (decide (500 < z.size ∨ 2000 < many ∧ many ≤ 65536)) (fun k hk => ?_) ?_
  · refine ite_i (fun e => ?_) (fun e1 => ite_i (fun e => ?_) (fun e2 => ?_))
    · rw [decide_eq_true (.inl (by have := of_decide_eq_true e; omega))] at hk; exact hk
    · have e1 := of_decide_eq_false e1
      have e := of_decide_eq_true e
      rw [show decide (many ≤ 65536) = decide (500 < z.size ∨ 2000 < many ∧ many ≤ 65536) by rw [decide_eq_decide]; omega]; exact hk
    · have e1 := of_decide_eq_false e1
      have e2 := of_decide_eq_false e2
      rw [decide_eq_false (by omega)] at hk; exact hk
  refine ite_i (fun _ => trivial) (fun e => ?_)
  have e := of_decide_eq_false e
  have fin : ∀ (v u : Sl) (l : List Int) (c : Int) (h1 : H), Arr h1 v (eI .i64) l → Arr h1 u (eI .i64) l → l.length ≤ 2000 →
      packed_At (z, many, w) (fun r_2 => ref04_At (z, many, w) fun r_3 => withK (fun r _ => r = true) fun k => law02_Same (v, u) fun r_4 => iteW r_4 (iteW (decide (c = c)) (iteW (decide (r_2.fst = r_3.fst)) (iteW (decide (r_2.snd = r_3.snd)) (law04_does () k) (k false)) (k false)) (k false)) (k false)) h1 := by
    intro v u l c h1 A B hl
    refine At_spec (by omega) fun h2 x2 => refAt_spec (by omega) ?_
    refine with_i (fun b _ => b = true) (fun k hk => ?_) (fun a h' e => e)
    exact Same_spec (A.ext x2) (B.ext x2) (by omega) (ite_t (by simp) (ite_t (by simp) (ite_t (by simp) (ite_t (by simp) (does_spec fun h' _ => hk true h' rfl)))))
  refine Unpack_spec (by omega) (fun hc => ?_) (fun hc v h1 x1 n1 V1 => ?_)
  · refine refUnpack_spec (by omega) (fun _ h2 x2 => ?_) (fun hc2 => absurd hc2 hc)
    exact fin _ _ [] _ h2 Vec.nil0.arr Vec.nil0.arr (by simp)
  · refine refUnpack_spec (by omega) (fun hc2 => absurd hc hc2) (fun _ u h2 x2 n2 V2 => ?_)
    obtain ⟨c1, c2, c3, c4, _⟩ := upCode_neg hc
    exact fin _ _ _ _ h2 (V1.ext x2).arr V2.arr (by rw [numI_len]; omega)

theorem PackedWay_holds (z : ByteArray) (many w : Int) (h : H) (m0 : 0 ≤ many) (m1 : many ≤ 65535) (w0 : 0 ≤ w) (w1 : w ≤ 255) : law04_PackedWay (z, many, w) (fun r _ => r = true) h := by
  unfold law04_PackedWay
  simp only [ltI_eq, eqI_eq, leI_eq, eqS_eq, cnv_i64 (show -9223372036854775808 ≤ many by omega) (by omega), cnv_i64 (show -9223372036854775808 ≤ w by omega) (by omega), rem_nn m0, rem_nn w0]
  refine ite_i (fun _ => trivial) (fun e => ?_)
  have e := of_decide_eq_false e
  have hk : 0 ≤ many % 2001 ∧ many % 2001 < 2001 := by omega
  have hw : 0 ≤ w % 33 ∧ w % 33 < 33 := by omega
  generalize many % 2001 = K at *
  generalize w % 33 = W at *
  refine must_i (by decide) (must_i (by decide) (Unpack_spec (by omega) (fun hc => ?_) (fun hc v h1 x1 n1 V1 => ?_)))
  · have c : upCode z K W = 10 := by
      unfold upCode at hc ⊢
      rw [if_neg (by omega), if_neg (by omega)] at hc ⊢
      split at hc
      · rename_i h5; rw [if_pos h5]
      · exact absurd rfl hc
    rw [c]
    refine ite_t (by decide) ?_
    refine with_i (fun b _ => b = true) (fun k hk => ?_) (fun a h' e => e)
    exact ite_t (by decide) (ite_t (by decide) (does_spec fun h' _ => hk true h' rfl))
  · obtain ⟨c1, c2, c3, c4, c5, c6⟩ := upCode_neg hc
    refine ite_f (by simp) ?_
    have hb : I64 (numI W.toNat (val z.data.toList) K.toNat) := by
      intro n hn
      have := numI_bd n hn
      have e : ((2 : Int) ^ W.toNat) = ((2 ^ W.toNat : Nat) : Int) := by simp
      have p : 2 ^ W.toNat ≤ 2 ^ 32 := Nat.pow_le_pow_right (by decide) (by omega)
      rw [e] at this; omega
    have hlen := V1.len
    rw [numI_len] at hlen
    refine Pack_spec V1.arr (by rw [numI_len]; omega) hb fun h2 x2 => ?_
    have hp := packR_nums (w := W.toNat) (v := val z.data.toList) (many := K.toNat) (by omega)
    rw [show ((W.toNat : Nat) : Int) = W by omega, pack_same.2 ⟨c5, c6⟩] at hp
    rw [hp]
    refine with_i (fun b _ => b = true) (fun k hk => ?_) (fun a h' e => e)
    refine ite_t (by simp) (ite_t (by simp) (ite_t (by simp; omega) ?_))
    have hwl : wl (numI W.toNat (val z.data.toList) K.toNat) ≤ W.toNat := wl_le.2 fun n hn => (width_le (by omega)).2 (numI_bd n hn)
    exact Width_spec (V1.ext x2).arr (by rw [numI_len]; omega) hb (ite_t (by simp; omega) (does_spec fun h' _ => hk true h' rfl))

theorem PackedLength_holds (z : ByteArray) (many w : Int) (h : H) (m0 : 0 ≤ many) (m1 : many ≤ 65535) (w0 : 0 ≤ w) (w1 : w ≤ 255) : law04_PackedLength (many, w, z) (fun r _ => r = true) h := by
  unfold law04_PackedLength
  simp only [ltI_eq, eqI_eq, leI_eq, cnv_i64 (show -9223372036854775808 ≤ many by omega) (by omega), cnv_i64 (show -9223372036854775808 ≤ w by omega) (by omega), rem_nn m0, rem_nn w0]
  refine ite_i (fun _ => trivial) (fun e => ?_)
  have e := of_decide_eq_false e
  have hk : 0 ≤ many % 2001 ∧ many % 2001 < 2001 := by omega
  have hw : 0 ≤ w % 33 ∧ w % 33 < 33 := by omega
  generalize many % 2001 = K at *
  generalize w % 33 = W at *
  have enb : quo .i64 (add .i64 (mul .i64 K W) 7) 8 = (((K.toNat * W.toNat + 7) / 8 : Nat) : Int) := by
    have hm : K.toNat * W.toNat ≤ 2001 * 33 := Nat.mul_le_mul (by omega) (by omega)
    conv => lhs; rw [show K = ((K.toNat : Nat) : Int) by omega, show W = ((W.toNat : Nat) : Int) by omega]
    rw [mul_n (by omega), show (7 : Int) = ((7 : Nat) : Int) from rfl, add_n (by omega)]
    exact quo_n (b := 8) (by decide) (by omega)
  rw [enb]
  refine must_i (by decide) (must_i (by decide) (Unpack_spec (by omega) (fun hc => ?_) (fun hc v h1 x1 n1 V1 => ?_)))
  · have c : upCode z K W = 10 := by
      unfold upCode at hc ⊢
      rw [if_neg (by omega), if_neg (by omega)] at hc ⊢
      split at hc
      · rename_i h5; rw [if_pos h5]
      · exact absurd rfl hc
    rw [c]
    refine with_i (fun b _ => b = true) (fun k hk => ?_) (fun a h' e => e)
    refine must_i (by decide) (ite_i (fun _ => does_spec fun h' _ => hk true h' rfl) (fun _ => ?_))
    exact ite_t (by decide) (does_spec fun h' _ => hk true h' rfl)
  · obtain ⟨c1, c2, c3, c4, c5, c6⟩ := upCode_neg hc
    refine with_i (fun b _ => b = true) (fun k hk => ?_) (fun a h' e => e)
    exact must_i (by decide) (ite_t (by rw [c5]; simp) (does_spec fun h' _ => hk true h' rfl))

theorem catI_get {w : Nat} {l : List Int} {i : Nat} {n : Int} (hl : ∀ n ∈ l, 0 ≤ n ∧ n < 2 ^ w) (h : l[i]? = some n) : ((catI w l / 2 ^ (i * w) % 2 ^ w : Nat) : Int) = n := by
  unfold catI
  have hn := hl n (List.mem_of_getElem? h)
  rw [cat_get w (l.map Int.toNat) i n.toNat (by
    intro m hm
    obtain ⟨x, hx, rfl⟩ := List.mem_map.1 hm
    have := hl x hx
    have e : ((2 : Int) ^ w) = ((2 ^ w : Nat) : Int) := by simp
    rw [e] at this; omega) (by rw [List.getElem?_map, h]; rfl)]
  omega
theorem numI_cat {w : Nat} {l : List Int} (hl : ∀ n ∈ l, 0 ≤ n ∧ n < 2 ^ w) : numI w (catI w l) l.length = l := by
  apply List.ext_getElem?
  intro i
  by_cases hi : i < l.length
  · have hx : l[i]? = some l[i] := List.getElem?_eq_getElem hi
    rw [numI_get hi, catI_get hl hx, hx]
  · rw [List.getElem?_eq_none (by rw [numI_len]; omega), List.getElem?_eq_none (by omega)]
theorem PackedBack_holds (a : Sl) (l : List Int) (shift more : Int) (h : H) (A : Arr h a (eI .u32) l) (hl32 : ∀ n ∈ l, 0 ≤ n ∧ n ≤ 4294967295) (s0 : 0 ≤ shift) (s1 : shift ≤ 255) (m0 : 0 ≤ more) (m1 : more ≤ 255) : law04_PackedBack (a, shift, more) (fun r _ => r = true) h := by
  unfold law04_PackedBack
  have la := A.len
  simp only [ltI_eq, eqI_eq, rem_nn s0, rem_nn m0]
  refine ite_i (fun _ => trivial) (fun e => ?_)
  have e := of_decide_eq_false e
  have hs : 0 ≤ shift % 32 ∧ shift % 32 < 32 := by omega
  have hm : 0 ≤ more % 8 ∧ more % 8 < 8 := by omega
  generalize shift % 32 = S at *
  generalize more % 8 = Mo at *
  rw [cnv_i64 (a := S) (by omega) (by omega), cnv_i64 (a := Mo) (by omega) (by omega)]
  let sh : Int → Int := fun n => ((n.toNat / 2 ^ S.toNat : Nat) : Int)
  refine loop_i (fun (t : Sl × Int) h2 => 0 ≤ t.2 ∧ t.2 ≤ l.length ∧ Ext h h2 ∧ New h t.1 ∧ Vec h2 t.1 (eI .i64) ((l.take t.2.toNat).map sh)) (fun t => (l.length - t.2).toNat)
    ⟨Int.le_refl _, by show (0 : Int) ≤ l.length; omega, Ext.refl h, New.nil0, Vec.nil0⟩ ?_
  rintro ⟨v, i⟩ h2 ⟨i0, i1, x2, nv, V2⟩ k hk
  simp only at i0 i1 nv V2
  dsimp only
  refine ite_i (fun e3 => ?_) (fun e3 => ?_)
  · have e3 := of_decide_eq_true e3
    have hlt : i.toNat < l.length := by omega
    have hx : l[i.toNat]? = some l[i.toNat] := List.getElem?_eq_getElem hlt
    have hb := hl32 _ (List.getElem_mem hlt)
    refine (A.ext x2).index i0 (by omega) (fun p hp => ?_)
    have hc := (A.ext x2).cell (j := 0) hp hx rfl
    rw [add0] at hc
    refine loadI_i hc (must_i (by decide) (must_i hs.1 ?_))
    have es : cnv .i64 (shr .u32 l[i.toNat] S) = sh l[i.toNat] := by
      have e1 : shr .u32 ((l[i.toNat].toNat : Nat) : Int) ((S.toNat : Nat) : Int) = ((l[i.toNat].toNat / 2 ^ S.toNat : Nat) : Int) := shr_u32 (by omega)
      rw [show ((l[i.toNat].toNat : Nat) : Int) = l[i.toNat] by omega, show ((S.toNat : Nat) : Int) = S by omega] at e1
      have := Nat.div_le_self l[i.toNat].toNat (2 ^ S.toNat)
      rw [e1]
      show _ = ((l[i.toNat].toNat / 2 ^ S.toNat : Nat) : Int)
      generalize l[i.toNat].toNat / 2 ^ S.toNat = q at this
      rw [cnv_i64 (by omega) (by omega)]
    rw [es]
    refine V2.append_new x2 nv (m := [sh l[i.toNat]]) rfl rfl rfl (by simp; omega) ?_
    intro u h3 U x3 nu _ _
    rw [add_i64 (by omega) (by omega)]
    refine hk _ _ ⟨by show 0 ≤ i + 1; omega, by show i + 1 ≤ _; omega, x3, nu, ?_⟩ (by show (l.length - (i + 1)).toNat < (l.length - i).toNat; omega)
    show Vec h3 u (eI .i64) ((l.take (i + 1).toNat).map sh)
    rw [show (i + 1).toNat = i.toNat + 1 by omega, List.take_add_one, hx, List.map_append]; exact U
  have e3 := of_decide_eq_false e3
  rw [List.take_of_length_le (by omega)] at V2
  generalize hN : l.map sh = N at V2
  have hNl : N.length = l.length := by rw [← hN]; simp
  have hNb : ∀ n ∈ N, 0 ≤ n ∧ n < 2 ^ (32 - S.toNat) := by
    intro n hn
    rw [← hN] at hn
    obtain ⟨x, hx, rfl⟩ := List.mem_map.1 hn
    have := hl32 x hx
    have e5 : ((2 : Int) ^ (32 - S.toNat)) = ((2 ^ (32 - S.toNat) : Nat) : Int) := by simp
    rw [e5]
    have : x.toNat / 2 ^ S.toNat < 2 ^ (32 - S.toNat) := by
      rw [Nat.div_lt_iff_lt_mul (Nat.pow_pos (by decide)), ← Nat.pow_add, show 32 - S.toNat + S.toNat = 32 by omega]
      omega
    show 0 ≤ ((x.toNat / 2 ^ S.toNat : Nat) : Int) ∧ ((x.toNat / 2 ^ S.toNat : Nat) : Int) < _
    generalize x.toNat / 2 ^ S.toNat = q at this
    omega
  have hI : I64 N := by
    intro n hn
    have := hNb n hn
    have e5 : ((2 : Int) ^ (32 - S.toNat)) = ((2 ^ (32 - S.toNat) : Nat) : Int) := by simp
    have p : 2 ^ (32 - S.toNat) ≤ 2 ^ 32 := Nat.pow_le_pow_right (by decide) (by omega)
    rw [e5] at this; omega
  have hwl : wl N ≤ 32 - S.toNat := wl_le.2 fun n hn => (width_le (by omega)).2 (hNb n hn)
  have hvl := V2.len
  refine Width_spec V2.arr (by omega) hI ?_
  refine with_b false (fun k2 hk2 => ?_) ?_
  · refine ite_f (decide_eq_false (by omega)) (must_i (by decide) ?_)
    rw [sub_i64 (by omega) (by omega), decide_eq_false (by omega)]; exact hk2
  refine ite_f rfl (must_i (by decide) ?_)
  rw [add_i64 (by omega) (by omega)]
  have ewi : minI ((wl N : Int) + Mo) 32 = ((min (wl N + Mo.toNat) 32 : Nat) : Int) := by rw [minI_eq]; split <;> omega
  rw [ewi]
  generalize hW : min (wl N + Mo.toNat) 32 = W
  have hW32 : W ≤ 32 := by omega
  have hNW : ∀ n ∈ N, 0 ≤ n ∧ n < 2 ^ W := fun n hn => (width_le hW32).1 (Nat.le_trans (wl_le.1 (Nat.le_refl (wl N)) n hn) (by omega))
  refine Pack_spec V2.arr (by omega) hI fun h3 x3 => ?_
  have hp : packR N (W : Int) = (packB W N, 0) := by
    unfold packR
    rw [if_neg (by omega), Int.toNat_natCast]
  rw [hp]
  have hlt := catI_lt hNW
  have hps : (packB W N).size = (N.length * W + 7) / 8 := by unfold packB; rw [mkB_size, bytes_len]
  have hpv : val (packB W N).data.toList = catI W N := by
    unfold packB
    rw [mkB_data, val_bytes, Nat.mod_eq_of_lt]
    rw [pow256]
    exact Nat.lt_of_lt_of_le hlt (Nat.pow_le_pow_right (by decide) (by omega))
  have hNW' : N.length * W ≤ 500 * 32 := Nat.mul_le_mul (by omega) hW32
  have hcode : upCode (packB W N) (v.len : Int) (W : Int) = 0 := by
    unfold upCode
    rw [if_neg (by omega), if_neg (by omega), if_neg]
    rw [Int.toNat_natCast, Int.toNat_natCast, hps, hpv, hvl]
    rintro (h | h)
    · exact h rfl
    · omega
  refine Unpack_spec (by rw [hps]; omega) (fun hc => absurd hcode hc) (fun _ u h4 x4 n4 V4 => ?_)
  rw [Int.toNat_natCast, Int.toNat_natCast, hpv, hvl, numI_cat hNW] at V4
  have A4 := (V2.ext (x3.trans x4)).arr
  refine with_b false (fun k2 hk2 => ?_) ?_
  · refine ite_f (by simp) (ite_f (by simp) (Same_spec V4.arr A4 (by omega) (ite_f (by simp) (must_i (by simp) ?_))))
    have enb : quo .i64 (add .i64 (mul .i64 (v.len : Int) (W : Int)) 7) 8 = (((N.length * W + 7) / 8 : Nat) : Int) := by
      rw [hvl, mul_n (by omega), show (7 : Int) = ((7 : Nat) : Int) from rfl, add_n (by omega)]
      exact quo_n (b := 8) (by decide) (by omega)
    rw [enb, hps]; simpa using hk2
  refine ite_f rfl ?_
  have V5 := V2.ext (x3.trans x4)
  refine loop_i (fun (i : Int) h5 => 0 ≤ i ∧ i ≤ N.length ∧ Ext h4 h5) (fun i => (N.length - i).toNat) ⟨Int.le_refl _, by omega, Ext.refl h4⟩ ?_
  rintro j h5 ⟨j0, j1, x5⟩ k3 hk3
  refine ite_i (fun e6 => ?_) (fun e6 => ?_)
  · have e6 := of_decide_eq_true e6
    have hjl : j.toNat < N.length := by omega
    have hx : N[j.toNat]? = some N[j.toNat] := List.getElem?_eq_getElem hjl
    have hat : atR (packB W N) j (W : Int) = (N[j.toNat], 0) := by
      unfold atR
      rw [if_neg (by omega)]
      by_cases hW0 : W = 0
      · subst hW0
        rw [if_pos (show ((0 : Nat) : Int) = 0 from rfl)]
        have := hNW _ (List.getElem_mem hjl)
        simp at this
        rw [show N[j.toNat] = 0 by omega]
      · rw [if_neg (by omega), if_neg, Int.toNat_natCast]
        · have := catI_get hNW hx
          unfold numN
          rw [hpv, this]
        · have hjW : (j.toNat + 1) * W ≤ N.length * W := Nat.mul_le_mul_right _ hjl
          have h8 : (j + 1) * (W : Int) ≤ 8 * ((packB W N).size : Int) := by
            rw [hps]
            have : (j + 1) * (W : Int) = (((j.toNat + 1) * W : Nat) : Int) := by rw [Int.natCast_mul]; congr 1; omega
            rw [this]; omega
          have := (Int.le_ediv_iff_mul_le (show (0 : Int) < W by omega)).2 h8
          omega
    refine At_spec (by rw [hps]; omega) fun h6 x6 => ?_
    rw [hat]
    refine with_b false (fun k2 hk2 => ?_) ?_
    · refine ite_f (by simp) ?_
      have A6 := (V5.ext (x5.trans x6)).arr
      refine A6.index j0 (by omega) (fun p hp => ?_)
      have hc := A6.cell (j := 0) hp hx rfl
      rw [add0] at hc
      exact loadI_i hc (by simpa using hk2)
    refine ite_f rfl ?_
    rw [add_i64 (by omega) (by omega)]
    exact hk3 _ _ ⟨by omega, by omega, x5.trans x6⟩ (by omega)
  · refine with_i (fun _ h6 => Ext h4 h6) (fun k2 hk2 => ?_) (fun _ h6 _ => does_spec fun h' _ => rfl)
    refine ite_i (fun e7 => ?_) (fun _ => hk2 _ _ x5)
    have e7 := of_decide_eq_true e7
    rw [sub_i64 (by omega) (by omega)]
    refine Pack_spec (V5.ext x5).arr (by omega) hI fun h6 x6 => ?_
    have hp2 : packR N ((wl N : Int) - 1) = (⟨#[]⟩, 2) := by unfold packR; rw [if_pos (by omega)]
    rw [hp2]
    exact ite_f (by decide) (hk2 _ _ (x5.trans x6))
end Go.Cz.S
