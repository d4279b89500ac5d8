/- Part of the proof of a law of 28: an engine that runs a function over an abstract heap, and what the functions compute; own work. -/
import Derived.Test.YtpmojjeehmadpaaGreatD28
import Derived.Test.YtpmojjeehmadpaaGreatSpec2
import Derived.Test.YtpmojjeehmadpaaGreatO28
set_option linter.unusedVariables false
set_option linter.unusedSimpArgs false
set_option linter.unusedSectionVars false
namespace Go.Cz.S
set_option maxRecDepth 100000
set_option maxHeartbeats 1000000
set_option linter.unusedSimpArgs false
set_option linter.unusedVariables false

/-! ## slices.Repeat of one number -/
theorem mul64_small : ∀ n : Fin 257, math_bits_Mul64 (1, (n.val : Int)) = fun Q => math_bits_Mul64 (1, (n.val : Int)) Q := fun _ => rfl
def hiOf (a b : Int) : Int := add IntKind.u64
                  (add IntKind.u64 (mul IntKind.u64 (shr IntKind.u64 a 32) (shr IntKind.u64 b 32))
                    (shr IntKind.u64
                      (add IntKind.u64 (mul IntKind.u64 (shr IntKind.u64 a 32) (andI IntKind.u64 b 4294967295))
                        (shr IntKind.u64
                          (mul IntKind.u64 (andI IntKind.u64 a 4294967295) (andI IntKind.u64 b 4294967295)) 32))
                      32))
                  (shr IntKind.u64
                    (add IntKind.u64
                      (andI IntKind.u64
                        (add IntKind.u64
                          (mul IntKind.u64 (shr IntKind.u64 a 32) (andI IntKind.u64 b 4294967295))
                          (shr IntKind.u64
                            (mul IntKind.u64 (andI IntKind.u64 a 4294967295) (andI IntKind.u64 b 4294967295))
                            32))
                        4294967295)
                      (mul IntKind.u64 (andI IntKind.u64 a 4294967295) (shr IntKind.u64 b 32)))
                    32)
theorem hiOf_small : ∀ n : Fin 257, hiOf 1 (n.val : Int) = 0 ∧ mul IntKind.u64 1 (n.val : Int) = n.val ∧ cnv .u64 (n.val : Int) = n.val ∧ cnv .i64 (n.val : Int) = n.val := by
  unfold hiOf add mul shr andI cnv
  decide +kernel
theorem mul_spec {n : Nat} (hn : n ≤ 256) {Q : Int × Int → HProp} {h : H} (hQ : Q (0, (n : Int)) h) : math_bits_Mul (1, (n : Int)) Q h := by
  obtain ⟨h1, h2, _⟩ := hiOf_small ⟨n, by omega⟩
  simp only at h1 h2
  unfold math_bits_Mul math_bits_Mul64
  refine must_i (by decide) (must_i (by decide) (must_i (by decide) (must_i (by decide) (must_i (by decide) ?_))))
  show Q (hiOf 1 (n : Int), mul IntKind.u64 1 (n : Int)) h
  rw [h1, h2]
  exact hQ

theorem copy_raw {h : H} {b b2 o1 o2 l1 l2 c1 c2 : Nat} {cs cs2 : List Value} {K : Int → HProp} (O : Obj h b cs) (O2 : Obj h b2 cs2) (hm : 0 < min l2 l1) (h2 : o2 + min l2 l1 ≤ cs2.length) (h1 : o1 + min l2 l1 ≤ cs.length) (ho : Go.Cz.ones cs2)
    (hK : ∀ h', Obj h' b (cs.take o1 ++ (cs2.drop o2).take (min l2 l1) ++ cs.drop (o1 + min l2 l1)) → Fr (fun k => k = b) h h' → K ((min l2 l1 : Nat) : Int) h') : copyW ⟨some ⟨b, o1, none⟩, l1, c1⟩ ⟨some ⟨b2, o2, none⟩, l2, c2⟩ 1 K h := by
  unfold copyW
  have hl : ((cs2.drop o2).take (min l2 l1)).length = min l2 l1 := by simp; omega
  refine ⟨(cs2.drop o2).take (min l2 l1), ?_, fun v hv => ho v (List.mem_of_mem_drop (List.mem_of_mem_take hv)), ?_⟩
  · unfold H.row?
    rw [Nat.mul_one, if_neg (show ¬ min l2 l1 = 0 by omega)]
    unfold Obj at O2
    simp only [O2]
    simp [h2]
  · rw [if_neg (by intro e; rw [e] at hl; simp at hl; omega)]
    refine ⟨_, rfl, ?_⟩
    unfold storesW
    unfold Obj at O
    simp only [O]
    rw [hl]
    exact ⟨trivial, h1, hK _ (set_same ..) Fr.set⟩
theorem rep_ones (k : IntKind) (n : Nat) (x : Int) : Go.Cz.ones (List.replicate n (Value.int k x)) := fun v hv => by rw [(List.mem_replicate.1 hv).2]; trivial

theorem fill_raw {n : Nat} {x : Int} (h1 : 1 ≤ n) (h2 : n ≤ 256) {Q : Sl → HProp} {h : H} (hQ : ∀ b h', Obj h' b (List.replicate n (.int .u64 x)) → h b = none → Ext h h' → Q ⟨some ⟨b, 0, none⟩, n, n⟩ h') : truth_fill ((n : Int), x) Q h := by
  unfold truth_fill slices_Repeat_uint64_uint64
  refine Obj.new fun b0 h1' o0 hb0 e0 => ?_
  obtain ⟨_, _, c1, c2⟩ := hiOf_small ⟨n, by omega⟩
  obtain ⟨_, _, d1, _⟩ := hiOf_small ⟨1, by omega⟩
  simp only at c1 c2 d1
  simp only [ltI_eq]
  refine with_u (ite_f (by simp) ?_)
  have e1 : cnv .u64 ((1 : Nat) : Int) = 1 := d1
  simp only []
  rw [e1, c1]
  refine mul_spec h2 (with_u (with_u (ite_f (by simp) (ite_f (by simp; omega) ?_))))
  simp only []
  rw [c2]
  unfold makeW
  refine ⟨by omega, Int.le_refl _, by omega, by omega, fun b hb => ?_⟩
  have hbb : b ≠ b0 := fun e => by rw [e] at hb; rw [show h1' b0 = _ from o0] at hb; cases hb
  have O : Obj (h1'.set b (.cells (List.replicate n (Value.int .u64 0)) true)) b (List.replicate n (Value.int .u64 0)) := set_same ..
  have E1 : Ext h (h1'.set b (.cells (List.replicate n (Value.int .u64 0)) true)) := e0.trans (Ext.set hb)
  have hfl : (List.replicate (n : Int).toNat [Value.int .u64 0]).flatten = List.replicate n (Value.int .u64 0) := by
    simp
  rw [hfl]
  have O0 : Obj (h1'.set b (.cells (List.replicate n (Value.int .u64 0)) true)) b0 [.int .u64 x] := o0.ext (Ext.set hb)
  have hnone : h b = none := e0.none hb
  refine copy_raw O O0 (by omega) (by simp; omega) (by simp; omega) (fun v hv => by simp at hv; subst hv; trivial) fun h3 O3 F3 => ?_
  have E3 : Ext h h3 := E1.of_new F3 (fun k hk => by rw [hk]; exact hnone)
  have hm : min 1 (n : Int).toNat = 1 := by omega
  rw [hm] at O3 ⊢
  simp only [Int.toNat_natCast]
  refine loop_i (fun (s : Int) h' => ∃ m : Nat, s = m ∧ 1 ≤ m ∧ m ≤ n ∧ Obj h' b (List.replicate m (.int .u64 x) ++ List.replicate (n - m) (.int .u64 0)) ∧ Ext h h') (fun s => ((n : Int) - s).toNat) ?_ ?_
  · refine ⟨1, rfl, Nat.le_refl _, h1, ?_, E3⟩
    simpa using O3
  · rintro s h' ⟨m, rfl, m1, m2, Om, Em⟩ k hk
    try simp only [ltI_eq]
    refine ite_i (fun hlt => ?_) fun hge => ?_
    · have hlt : m < n := by simpa using hlt
      unfold sliceW
      refine ⟨by omega, by simp; omega, by simp, ?_⟩
      refine ⟨by omega, by omega, by simp; omega, ?_⟩
      simp only [Int.toNat_natCast, Int.toNat_zero, Nat.sub_zero, Nat.mul_one, Option.map_some, if_neg (show ¬ n = m by omega), if_neg (show ¬ n = 0 by omega), Nat.zero_mul]
      rw [show (Addr.mk b 0 none).add m = ⟨b, m, none⟩ by rw [add_eq rfl]; simp, add0]
      refine copy_raw Om Om (by omega) (by simp; omega) (by simp; omega) ?_ fun h4 O4 F4 => ?_
      · intro v hv
        rcases List.mem_append.1 hv with hv | hv
        · exact rep_ones _ _ _ v hv
        · exact rep_ones _ _ _ v hv
      · rw [add_i64 (by omega) (by omega)]
        refine hk _ _ ⟨m + min m (n - m), by omega, by omega, by omega, ?_, Em.of_new F4 (fun k hk => by rw [hk]; exact hnone)⟩ (by omega)
        have : (List.replicate m (Value.int IntKind.u64 x) ++ List.replicate (n - m) (Value.int IntKind.u64 0)).take m ++ ((List.replicate m (Value.int IntKind.u64 x) ++ List.replicate (n - m) (Value.int IntKind.u64 0)).drop 0).take (min m (n - m)) ++ (List.replicate m (Value.int IntKind.u64 x) ++ List.replicate (n - m) (Value.int IntKind.u64 0)).drop (m + min m (n - m)) = List.replicate (m + min m (n - m)) (Value.int IntKind.u64 x) ++ List.replicate (n - (m + min m (n - m))) (Value.int IntKind.u64 0) := by
          rw [List.drop_zero, List.take_append_of_le_length (by simp), List.take_append_of_le_length (by simp; omega), List.drop_append, List.take_replicate, List.take_replicate, List.drop_replicate, List.drop_replicate, List.length_replicate]
          rw [show min m m = m by omega, show min (min m (n - m)) m = min m (n - m) by omega, show m - (m + min m (n - m)) = 0 by omega, List.replicate_append_replicate]
          simp only [List.replicate_zero, List.nil_append]
          congr 2; omega
        rw [this] at O4
        exact O4
    · have : m = n := by simp at hge; omega
      subst this
      exact hQ b h' (by simpa using Om) hnone Em
theorem fill_spec {n : Nat} {x : Int} (h1 : 1 ≤ n) (h2 : n ≤ 256) {Q : Sl → HProp} {h : H} (hQ : ∀ v h', Vec h' v (eI .u64) (List.replicate n x) → v.a ≠ none → New h v → Ext h h' → Q v h') : truth_fill ((n : Int), x) Q h := by
  refine fill_raw h1 h2 fun b h' O hb E => hQ _ _ ⟨by simp, Nat.le_refl _, (fun e => by cases e), fun a ha => ?_⟩ (by simp) ?_ E
  · cases ha
    refine ⟨rfl, _, O, by simp [eI], ?_⟩
    rw [eI_all]
    show ((List.replicate n (Value.int .u64 x)).drop 0).take ((List.replicate n x).length * 1) = _
    simp
  · rintro b' ⟨a, ha, rfl⟩
    cases ha; exact hb
end Go.Cz.S

namespace Go.Cz
set_option maxRecDepth 100000
set_option maxHeartbeats 1000000
set_option linter.unusedSimpArgs false
set_option linter.unusedVariables false

theorem wrapu {n : Int} (h1 : 0 ≤ n) (h2 : n ≤ 18446744073709551615) : IntKind.u64.wrap n = n := by
  simp [IntKind.wrap, IntKind.bits, IntKind.signed]; omega
theorem add_u64 {a b : Int} (h1 : 0 ≤ a + b) (h2 : a + b ≤ 18446744073709551615) : add .u64 a b = a + b := by unfold add; exact wrapu h1 h2
abbrev FAR : Int := 18446744073709551615

theorem Vec.tail1 {α : Type} {h : H} {s : Sl} {E : Enc α} {x : α} {tl : List α} (V : Vec h s E (x :: tl)) {K : Sl → HProp} (hK : ∀ u, Vec h u E tl → (∀ b, u.on b → s.on b) → K u h) : sliceW s E.w 1 (s.len : Int) K h := by
  have hl := V.len
  have hle := V.le
  simp only [List.length_cons] at hl
  unfold sliceW
  refine ⟨by omega, by omega, by omega, ?_⟩
  have hne : s.a ≠ none := fun e => by have := V.nil e; omega
  cases ha : s.a with
  | none => exact absurd ha hne
  | some a =>
  obtain ⟨k1, c, k2, k3, k4⟩ := V.blk a ha
  have hon : ∀ u : Sl, u.a = (if s.cap = (1 : Int).toNat then some a else (some a).map (·.add ((1 : Int).toNat * E.w))) → ∀ b, u.on b → s.on b := by
    rintro u hu b ⟨a', ha', rfl⟩
    rw [hu] at ha'
    split at ha'
    · cases ha'; exact ⟨a, ha, rfl⟩
    · cases ha'
      refine ⟨a, ha, ?_⟩
      show a.block = (a.add ((1 : Int).toNat * E.w)).block
      rw [add_eq k1]
  refine hK _ ⟨by simp; omega, by simp; omega, ?_, ?_⟩ (hon _ rfl)
  · intro e
    simp only at e
    split at e <;> cases e
  · intro a' ha'
    simp only [] at ha'
    split at ha'
    · rename_i h1
      cases ha'
      have : tl = [] := List.length_eq_zero_iff.1 (by simp at h1; omega)
      subst this
      simp at h1
      exact ⟨k1, c, k2, by simp [h1]; omega, by simp [Enc.all]⟩
    · rename_i h1
      simp at ha'
      subst ha'
      rw [add_eq k1]
      refine ⟨rfl, c, k2, ?_, ?_⟩
      · simp only [Int.toNat_one]
        have : (s.cap - 1) * E.w + E.w = s.cap * E.w := by rw [← Nat.succ_mul]; congr 1; omega
        omega
      · have e1 : E.all (x :: tl) = E.f x ++ E.all tl := by simp [Enc.all]
        rw [e1] at k4
        have e2 := congrArg (fun l => l.drop E.w) k4
        simp only [List.drop_take, List.drop_drop] at e2
        rw [List.drop_left' (E.len x)] at e2
        rw [← e2]
        congr 1
        rw [List.length_cons, Nat.succ_mul]; omega

/-- slices of numbers below n, that may be read -/
def Rows (n : Nat) (h : H) (v : Sl) : Prop :=
  ∃ svs : List Sl, Arr h v eL svs ∧ svs.length = n ∧ ∀ s ∈ svs, ∃ l : List Int, Arr h s (eI .i64) l ∧ l.length ≤ 20000 ∧ ∀ x ∈ l, 0 ≤ x ∧ x < n
theorem Rows.ext {n : Nat} {h h' : H} {v : Sl} (R : Rows n h v) (e : Ext h h') : Rows n h' v := by
  obtain ⟨svs, A, hn, hs⟩ := R
  exact ⟨svs, A.ext e, hn, fun s hm => by obtain ⟨l, B, hl⟩ := hs s hm; exact ⟨l, B.ext e, hl⟩⟩
theorem Rows.len {n : Nat} {h : H} {v : Sl} (R : Rows n h v) : v.len = n := by obtain ⟨svs, A, hn, _⟩ := R; rw [A.len, hn]
/-- one row -/
theorem Rows.row {n : Nat} {h0 h : H} {v : Sl} (R : Rows n h0 v) (e : Ext h0 h) {i : Nat} (hi : i < n) {K : Sl → HProp} (hK : ∀ x l, Arr h0 x (eI .i64) l → l.length ≤ 20000 → (∀ y ∈ l, 0 ≤ y ∧ y < n) → K x h) : indexW (i : Int) v 1 (fun a => loadL a K) h := by
  obtain ⟨svs, A, hn, hs⟩ := R
  refine (A.ext e).index (by omega) (by omega) fun a ha => ?_
  have hi' : i < svs.length := by omega
  obtain ⟨l, B, h1, h2⟩ := hs _ (List.getElem_mem hi')
  have hc := (A.ext e).cell (E := eL) (i := i) (j := 0) (a := a) (x := svs[i]) (by simpa [eL] using ha) (List.getElem?_eq_getElem hi') rfl
  rw [add0] at hc
  exact loadL_i hc (hK _ _ B h1 h2)
/-- one number -/
theorem Arr.num {h : H} {v : Sl} {k : IntKind} {l : List Int} (A : Arr h v (eI k) l) {i : Nat} (hi : i < l.length) {K : Int → HProp} (hK : K l[i] h) : indexW (i : Int) v 1 (fun a => loadI k a K) h := by
  refine A.index (by omega) (by omega) fun a ha => ?_
  have hc := A.cell (E := eI k) (i := i) (j := 0) (a := a) (x := l[i]) (by simpa [eI] using ha) (List.getElem?_eq_getElem hi) rfl
  rw [add0] at hc
  exact loadI_i hc hK
theorem Vec.put {h : H} {v : Sl} {k : IntKind} {l : List Int} (V : Vec h v (eI k) l) {i : Nat} (hi : i < l.length) {x : Int} {K : HProp} (hK : ∀ h', Vec h' v (eI k) (l.set i x) → Fr v.on h h' → K h') : indexW (i : Int) v 1 (fun a => storeW a (Value.int k x) K) h := by
  refine V.arr.index (by omega) (by omega) fun a ha => ?_
  have := V.store (E := eI k) (i := i) (j := 0) (a := a) (x := l[i]) (x' := x) (y := .int k x) (by simpa [eI] using ha) (List.getElem?_eq_getElem hi) Nat.one_pos rfl hK
  rwa [add0] at this

/-- what is known of the distances on the way -/
structure Dist (n : Nat) (outL : List Int) : Prop where
  len : outL.length = n
  val : ∀ x ∈ outL, x = FAR ∨ 0 ≤ x ∧ x + outL.count FAR ≤ n
theorem Dist.set {n : Nat} {outL : List Int} (D : Dist n outL) {i : Nat} {y : Int} (hn : n ≤ 256) (hi : i < n) (hv : outL[i]? = some FAR) (h0 : 0 ≤ y) (hy : y + outL.count FAR ≤ n) : Dist n (outL.set i (y + 1)) ∧ (outL.set i (y + 1)).count FAR + 1 = outL.count FAR := by
  have hi' : i < outL.length := by rw [D.len]; exact hi
  have hpos : 0 < outL.count FAR := List.count_pos_iff.2 (List.mem_of_getElem? hv)
  have hc : (outL.set i (y + 1)).count FAR + 1 = outL.count FAR := by
    rw [List.count_set hi']
    have e1 : outL[i] = FAR := by rw [List.getElem?_eq_getElem hi'] at hv; exact Option.some.inj hv
    rw [e1]
    have : ¬ (y + 1 = FAR) := by simp only [FAR] at *; omega
    simp [this]
    omega
  refine ⟨⟨by rw [List.length_set]; exact D.len, fun x hx => ?_⟩, hc⟩
  rcases List.mem_or_eq_of_mem_set hx with hx | rfl
  · rcases D.val x hx with h | ⟨h1, h2⟩
    · exact .inl h
    · exact .inr ⟨h1, by omega⟩
  · exact .inr ⟨by omega, by omega⟩

end Go.Cz
namespace Go.Cz.S
theorem far_spec {n u : Nat} {v : Sl} {h : H} (h1 : 1 ≤ n) (h2 : n ≤ 256) (hu : u < n) (R : Rows n h v) {Q : Sl → HProp}
    (hQ : ∀ r h' outL, Vec h' r (eI .u64) outL → outL.length = n → (∀ x ∈ outL, x = FAR ∨ 0 ≤ x ∧ x ≤ 256) → New h r → Ext h h' → Q r h') : truth_far (v, (u : Int)) Q h := by
  unfold truth_far
  simp only [R.len]
  refine fill_spec h1 h2 fun r ha V0 hra N0 E0 => ?_
  refine V0.put (by simpa using hu) fun hb V1 F1 => ?_
  have E1 : Ext h hb := E0.of_new F1 N0
  refine new_i (E := eI .i64) (l := [(u : Int)]) (by simp [eI_all]) rfl fun b hc Vq Nq Ec => ?_
  have V2 := V1.ext Ec
  have E2 := E1.trans Ec
  have D0 : Dist n ((List.replicate n FAR).set u 0) := by
    refine ⟨by simp, fun x hx => ?_⟩
    have hcount : ((List.replicate n FAR).set u 0).count FAR + 1 = n := by
      rw [List.count_set (by simpa using hu)]
      have : ¬ ((0 : Int) = FAR) := by decide
      simp [this]
      omega
    rcases List.mem_or_eq_of_mem_set hx with hx | rfl
    · exact .inl (List.mem_replicate.1 hx).2
    · exact .inr ⟨Int.le_refl _, by omega⟩
  refine loop_n (fun T (s : Sl) h' => ∃ outL qL, Vec h' r (eI .u64) outL ∧ Dist n outL ∧ Vec h' s (eI .i64) qL ∧ Ext h h' ∧ (∀ b, s.on b → h b = none ∧ ¬ r.on b) ∧ T = outL.count FAR + qL.length ∧ T ≤ n ∧
      (∀ q ∈ qL, ∃ j : Nat, q = j ∧ j < n ∧ ∃ y, outL[j]? = some y ∧ y ≠ FAR)) _ ⟨_, [(u : Int)], V2, D0, Vq, E2, ?_, rfl, ?_, ?_⟩ ?_
  · intro b' hb'
    have hbn := Nq b' hb'
    exact ⟨E1.none hbn, fun hr => by obtain ⟨o, ho⟩ := V1.there hr; rw [hbn] at ho; cases ho⟩
  · rw [List.count_set (by simpa using hu)]
    have : ¬ ((0 : Int) = FAR) := by decide
    simp [this]
    omega
  · intro q hq
    simp at hq
    subst hq
    exact ⟨u, rfl, hu, 0, by simp [hu], by decide⟩
  · rintro T s h' ⟨outL, qL, V, D, W, E, hs, rfl, hT, hq⟩ k hk
    simp only [ltI_eq]
    refine ite_i (fun hpos => ?_) fun hz => ?_
    · have hpos : 0 < s.len := by simpa using hpos
      cases qL with
      | nil => have := W.len; simp at this; omega
      | cons x tl =>
      obtain ⟨j, rfl, hj, y, hy, hyF⟩ := hq x (List.mem_cons_self ..)
      have W0 := W.arr.num (i := 0) (by simp) (K := fun x => indexW x v 1 (fun a => loadL a fun x_1 => loopW (s, 0) fun (s : Sl × Int) (k_1 : Sl × Int → HProp) =>
                        iteW (decide (s.snd < ↑x_1.len))
                          (withK (fun (t : Sl) => k_1 (t, add IntKind.i64 s.snd 1))
                            fun (k : Sl → HProp) =>
                            indexW s.snd x_1 1 fun (a : Addr) =>
                              loadI IntKind.i64 a fun (x_2 : Int) =>
                                indexW x_2 r 1 fun (a : Addr) =>
                                  loadI IntKind.u64 a fun (x_3 : Int) =>
                                    iteW (eqI x_3 18446744073709551615)
                                      (indexW x r 1 fun (a : Addr) =>
                                        loadI IntKind.u64 a fun (x : Int) =>
                                          indexW x_2 r 1 fun (a : Addr) =>
                                            storeW a (Value.int IntKind.u64 (add IntKind.u64 x 1))
                                              (appendW s.fst [Value.int IntKind.i64 0] 8 1 [Value.int IntKind.i64 x_2]
                                                k))
                                      (k s.fst))
                          (sliceW s.fst 1 1 (↑s.fst.len) k))) (h := h') ?_
      · exact W0
      simp only [List.getElem_cons_zero]
      refine R.row E hj fun x1 l A hl8 hl => ?_
      refine loop_i (fun (p : Sl × Int) h'' => ∃ (i : Nat) (outL' qL' : List Int), p.2 = i ∧ i ≤ l.length ∧ Vec h'' r (eI .u64) outL' ∧ Dist n outL' ∧ Vec h'' p.1 (eI .i64) ((j : Int) :: qL') ∧ Ext h h'' ∧ (∀ b, p.1.on b → h b = none ∧ ¬ r.on b) ∧
          outL'.count FAR + qL'.length = outL.count FAR + tl.length ∧ (∀ q ∈ ((j : Int) :: qL'), ∃ j : Nat, q = j ∧ j < n ∧ ∃ y, outL'[j]? = some y ∧ y ≠ FAR)) (fun p => ((l.length : Int) - p.2).toNat) ?_ ?_
      · exact ⟨0, outL, tl, rfl, Nat.zero_le _, V, D, W, E, hs, rfl, hq⟩
      · rintro ⟨s1, jj⟩ h'' ⟨i, outL', qL', rfl, hil, V', D', W', E', hs', hcnt, hq'⟩ k1 hk1
        simp only at *
        have A'' := A.ext E'
        rw [A.len]
        refine ite_i (fun hlt => ?_) fun hge => ?_
        · have hlt : i < l.length := by simpa using hlt
          refine with_u ?_
          refine A''.num hlt ?_
          obtain ⟨y0, y1⟩ := hl _ (List.getElem_mem hlt)
          obtain ⟨vv, hvv⟩ : ∃ vv : Nat, l[i] = vv := ⟨l[i].toNat, by omega⟩
          rw [hvv] at y0 y1 ⊢
          have hvn : vv < n := by omega
          have hvo : vv < outL'.length := by rw [D'.len]; exact hvn
          refine V'.arr.num hvo ?_
          simp only [eqI_eq]
          obtain ⟨j2, hj2, hjn2, y2, hy2, hyF2⟩ := hq' _ (List.mem_cons_self ..)
          have : j2 = j := by omega
          subst this
          refine ite_i (fun hfar => ?_) fun hfar => ?_
          · have hfar : outL'[vv] = FAR := by simpa using hfar
            have hjo : j2 < outL'.length := by rw [D'.len]; exact hjn2
            refine V'.arr.num hjo ?_
            have e2 : outL'[j2] = y2 := by rw [List.getElem?_eq_getElem hjo] at hy2; exact Option.some.inj hy2
            rw [e2]
            have hy2b : 0 ≤ y2 ∧ y2 + outL'.count FAR ≤ n := by
              rcases D'.val y2 (List.mem_of_getElem? hy2) with h | h
              · exact absurd h hyF2
              · exact h
            rw [add_u64 (by omega) (by omega)]
            refine V'.put hvo fun h3 V3 F3 => ?_
            obtain ⟨D3, hc3⟩ := D'.set h2 hvn (by rw [List.getElem?_eq_getElem hvo, hfar]) hy2b.1 hy2b.2
            have W3 : Vec h3 s1 (eI .i64) ((j2 : Int) :: qL') := W'.fr F3 fun b hb hr => (hs' b hb).2 hr
            have E3 : Ext h h3 := E'.of_new F3 N0
            have hlen3 : ((j2 : Int) :: qL').length ≤ 300 := by simp at hT ⊢; omega
            refine W3.append_new E3 (fun b hb => (hs' b hb).1) (m := [(vv : Int)]) rfl (by simp [eI_all]) rfl (by omega) fun u h4 V4 E4 N4 F4 hu4 => ?_
            rw [add_i64 (by omega) (by omega)]
            refine hk1 _ _ ⟨i + 1, outL'.set vv (y2 + 1), qL' ++ [(vv : Int)], by simp, by omega, V3.fr F4 (fun b hb hr => (hs' b hr).2 hb), D3, by simpa using V4, E4, ?_, by simp; omega, ?_⟩ (by simp; omega)
            · intro b hb
              refine ⟨N4 b hb, fun hr => ?_⟩
              rcases hu4 b hb with h | h
              · exact (hs' b h).2 hr
              · obtain ⟨o, ho⟩ := V3.there hr; rw [h] at ho; cases ho
            · intro q hqm
              have hset : ∀ j3 : Nat, j3 < n → (∃ y, outL'[j3]? = some y ∧ y ≠ FAR) → ∃ y, (outL'.set vv (y2 + 1))[j3]? = some y ∧ y ≠ FAR := by
                rintro j3 h3n ⟨y, hy, hyF⟩
                by_cases e : vv = j3
                · subst e; rw [List.getElem?_eq_getElem hvo, hfar] at hy; cases hy; exact absurd rfl hyF
                · exact ⟨y, by rw [List.getElem?_set_ne e]; exact hy, hyF⟩
              have hqm : q ∈ ((j2 : Int) :: qL') ∨ q = (vv : Int) := by simpa [or_assoc] using hqm
              rcases hqm with hqm | rfl
              · obtain ⟨j3, a, b, c⟩ := hq' q hqm
                exact ⟨j3, a, b, hset j3 b c⟩
              · exact ⟨vv, rfl, hvn, y2 + 1, by simp [hvo], by simp only [FAR]; omega⟩
          · rw [add_i64 (by omega) (by omega)]
            exact hk1 _ _ ⟨i + 1, outL', qL', by simp, by omega, V', D', W', E', hs', hcnt, hq'⟩ (by simp; omega)
        · have hil : i = l.length := by have : ¬ (i < l.length) := (by simpa using hge); omega
          refine Vec.tail1 W' fun u Vu hu => ?_
          exact hk (outL'.count FAR + qL'.length) _ _ (by rw [List.length_cons]; omega) ⟨outL', qL', V', D', Vu, E', fun b hb => hs' b (hu b hb), rfl, by rw [List.length_cons] at hT; omega, fun q hqm => hq' q (List.mem_cons_of_mem _ hqm)⟩
    · have : s.len = 0 := by simpa using hz
      exact hQ r h' outL V D.len (fun x hx => (D.val x hx).imp id fun h => ⟨h.1, by omega⟩) N0 E
end Go.Cz.S

namespace Go.Cz.S
set_option maxRecDepth 100000
set_option maxHeartbeats 1000000
set_option linter.unusedSimpArgs false
set_option linter.unusedVariables false

def DistV (l : List Int) : Prop := ∀ x ∈ l, x = FAR ∨ 0 ≤ x ∧ x ≤ 256
theorem small_cnv : ∀ n : Fin 257, cnv .i64 (n.val : Int) = n.val := fun n => (hiOf_small n).2.2.2
theorem greatest_spec {r : Sl} {outL : List Int} {h : H} (A : Arr h r (eI .u64) outL) (hl : outL.length ≤ 256) (hv : DistV outL) {Q : Int → HProp} (hQ : ∀ g, 0 ≤ g → g ≤ 256 → Q g h) : truth_greatest r Q h := by
  unfold truth_greatest
  simp only [A.len, ltI_eq, eqI_eq]
  refine loop_i (fun (p : Int × Int) h' => h' = h ∧ 0 ≤ p.1 ∧ p.1 ≤ 256 ∧ ∃ i : Nat, p.2 = i ∧ i ≤ outL.length) (fun p => ((outL.length : Int) - p.2).toNat) ⟨rfl, by decide, by decide, 0, rfl, Nat.zero_le _⟩ ?_
  rintro ⟨g, i⟩ h' ⟨rfl, g0, g1, i, rfl, hi⟩ k hk
  simp only at *
  refine ite_i (fun hlt => ?_) fun hge => ?_
  · have hlt : i < outL.length := by simpa using hlt
    refine with_u (A.num hlt ?_)
    refine ite_i (fun hx => ?_) fun hx => ?_
    · have hx : outL[i] ≠ FAR := by simpa using hx
      rcases hv _ (List.getElem_mem hlt) with h | ⟨a, b⟩
      · exact absurd h hx
      · rw [add_i64 (by omega) (by omega)]
        refine hk _ _ ⟨rfl, ?_, ?_, i + 1, by simp, by omega⟩ (by simp; omega) <;> (simp only [maxI_eq]; split <;> omega)
    · rw [add_i64 (by omega) (by omega)]
      exact hk _ _ ⟨rfl, g0, g1, i + 1, by simp, by omega⟩ (by simp; omega)
  · obtain ⟨m, rfl⟩ : ∃ m : Nat, g = m := ⟨g.toNat, by omega⟩
    have := small_cnv ⟨m, by omega⟩
    simp only at this
    rw [this]
    exact hQ _ g0 g1

theorem labels_spec {n : Nat} {vo va : Sl} {h : H} (h1 : 1 ≤ n) (h2 : n ≤ 256) (R : Rows n h va) {Q : Sl × Int → HProp}
    (hQ : ∀ r m h' outL, Vec h' r (eI .u64) outL → outL.length = n → 0 ≤ m → m ≤ 256 → New h r → Ext h h' → Q (r, m) h') : truth_graph_labels ((n : Int), vo, va) Q h := by
  unfold truth_graph_labels
  simp only [ltI_eq, eqI_eq]
  refine fill_spec h1 h2 fun r ha V0 hra N0 E0 => ?_
  refine loop_i (fun (p : Int × Int) h' => ∃ (i : Nat) (outL : List Int), p.2 = i ∧ i ≤ n ∧ 0 ≤ p.1 ∧ p.1 ≤ 256 ∧ Vec h' r (eI .u64) outL ∧ outL.length = n ∧ Ext h h') (fun p => ((n : Int) - p.2).toNat) ⟨0, _, rfl, Nat.zero_le _, by decide, by decide, V0, by simp, E0⟩ ?_
  rintro ⟨m, i⟩ h' ⟨i, outL, rfl, hi, m0, m1, V, hlen, E⟩ k hk
  simp only at *
  refine ite_i (fun hlt => ?_) fun hge => ?_
  · have hlt : i < n := by simpa using hlt
    refine with_u (V.arr.num (by omega) ?_)
    rw [add_i64 (by omega) (by omega)]
    refine ite_i (fun hx => ?_) fun hx => ?_
    · exact hk _ _ ⟨i + 1, outL, by simp, by omega, m0, m1, V, hlen, E⟩ (by simp; omega)
    · refine far_spec h1 h2 hlt (R.ext E) fun r1 h3 outL1 V1 hl1 hv1 N1 E1 => ?_
      have V3 := V.ext E1
      have hne : ∀ b, r1.on b → ¬ r.on b := fun b hb hr => by obtain ⟨o, ho⟩ := V.there hr; rw [N1 b hb] at ho; cases ho
      simp only [V1.len, hl1]
      refine loop_i (fun (j : Int) h4 => ∃ (jn : Nat) (outL' : List Int), j = jn ∧ jn ≤ n ∧ Vec h4 r (eI .u64) outL' ∧ outL'.length = n ∧ Vec h4 r1 (eI .u64) outL1 ∧ Ext h h4) (fun j => ((n : Int) - j).toNat) ⟨0, outL, rfl, Nat.zero_le _, V3, hlen, V1, E.trans E1⟩ ?_
      rintro j h4 ⟨j, outL', rfl, hj, V4, hlen4, V14, E4⟩ k1 hk1
      refine ite_i (fun hjlt => ?_) fun hjge => ?_
      · have hjlt : j < n := by simpa using hjlt
        refine with_u (V14.arr.num (by omega) ?_)
        rw [add_i64 (by omega) (by omega)]
        refine ite_i (fun hx => ?_) fun hx => ?_
        · have := small_cnv ⟨i, by omega⟩
          refine V4.put (by omega) fun h5 V5 F5 => ?_
          exact hk1 _ _ ⟨j + 1, _, by simp, by omega, V5, by simp [hlen4], V14.fr F5 (fun b hb hr => hne b hb hr), E4.of_new F5 N0⟩ (by omega)
        · exact hk1 _ _ ⟨j + 1, outL', by simp, by omega, V4, hlen4, V14, E4⟩ (by omega)
      · refine greatest_spec V14.arr (by omega) hv1 fun g g0 g1 => ?_
        refine hk _ _ ⟨i + 1, outL', by simp, by omega, ?_, ?_, V4, hlen4, E4⟩ (by simp; omega) <;> (simp only [maxI_eq]; split <;> omega)
  · exact hQ r m h' outL V hlen m0 m1 N0 E

theorem cores_spec {n : Nat} {c : Int} {vo va : Sl} {h : H} (h1 : 1 ≤ n) (h2 : n ≤ 256) (R : Rows n h va) {Q : Sl × Int → HProp}
    (hQ : ∀ r m h' outL, Vec h' r (eI .u64) outL → outL.length = n → 0 ≤ m → m ≤ 256 → New h r → Ext h h' → Q (r, m) h') : truth_graph_cores ((n : Int), vo, va, c) Q h := by
  unfold truth_graph_cores
  simp only [ltI_eq, eqI_eq]
  refine fill_spec h1 h2 fun r ha V0 hra N0 E0 => ?_
  refine loop_n (fun T (s : Int) h' => ∃ outL : List Int, Vec h' r (eI .u64) outL ∧ outL.length = n ∧ Ext h h' ∧ T = outL.count 1 ∧ 0 ≤ s ∧ s + T ≤ n) n ⟨_, V0, by simp, E0, by simp, by decide, by omega⟩ ?_
  rintro T s h' ⟨outL, V, hlen, E, rfl, s0, s1⟩ k hk
  refine loop_i (fun (p : Sl × Int) h3 => ∃ (i : Nat) (gL : List Int), p.2 = i ∧ i ≤ n ∧ Vec h3 r (eI .u64) outL ∧ Vec h3 p.1 (eI .i64) gL ∧ gL.length ≤ i ∧ (∀ g ∈ gL, ∃ j : Nat, g = j ∧ j < n ∧ outL[j]? = some 1) ∧ (∀ b, p.1.on b → h b = none ∧ ¬ r.on b) ∧ Ext h h3) (fun p => ((n : Int) - p.2).toNat)
    ⟨0, [], rfl, Nat.zero_le _, V, Vec.nil0, Nat.zero_le _, (fun g hg => by cases hg), (fun b ⟨a, ha, _⟩ => by cases ha), E⟩ ?_
  rintro ⟨gs, i⟩ h3 ⟨i, gL, rfl, hi, V3, W3, hgl, hg, hgs, E3⟩ k1 hk1
  simp only at *
  refine ite_i (fun hlt => ?_) fun hge => ?_
  · have hlt : i < n := by simpa using hlt
    refine with_u (R.row E3 hlt fun x l A hl8 hl => ?_)
    have A3 := A.ext E3
    simp only [A.len]
    refine loop_i (fun (p : Int × Int) h4 => h4 = h3 ∧ ∃ jn : Nat, p.2 = jn ∧ jn ≤ l.length) (fun p => ((l.length : Int) - p.2).toNat) ⟨rfl, 0, rfl, Nat.zero_le _⟩ ?_
    rintro ⟨d, j⟩ h4 ⟨rfl, j, rfl, hj⟩ k2 hk2
    simp only at *
    refine ite_i (fun hjlt => ?_) fun hjge => ?_
    · have hjlt : j < l.length := by simpa using hjlt
      refine A3.num hjlt ?_
      obtain ⟨y0, y1⟩ := hl _ (List.getElem_mem hjlt)
      obtain ⟨vv, hvv⟩ : ∃ vv : Nat, l[j] = vv := ⟨l[j].toNat, by omega⟩
      rw [hvv] at y0 y1 ⊢
      refine V3.arr.num (by omega) ?_
      rw [show add .i64 (j : Int) 1 = (j : Int) + 1 from add_i64 (by omega) (by omega)]
      exact hk2 _ _ ⟨rfl, j + 1, by simp, by omega⟩ (by simp; omega)
    · refine with_u (V3.arr.num (by omega) ?_)
      rw [show add .i64 (i : Int) 1 = (i : Int) + 1 from add_i64 (by omega) (by omega)]
      refine ite_i (fun hx => ?_) fun hx => ?_
      · have hx : outL[i] = 1 := by simpa using hx
        refine ite_i (fun hc => ?_) fun hc => ?_
        · refine W3.append_new E3 (fun b hb => (hgs b hb).1) (m := [(i : Int)]) rfl (by simp [eI_all]) rfl (by omega) fun u h5 V5 E5 N5 F5 hu5 => ?_
          refine hk1 _ _ ⟨i + 1, gL ++ [(i : Int)], by simp, by omega, V3.fr F5 (fun b hb hr => (hgs b hr).2 hb), V5, by simp; omega, ?_, ?_, E5⟩ (by simp; omega)
          · intro g hgm
            rcases List.mem_append.1 hgm with hgm | hgm
            · exact hg g hgm
            · simp at hgm; subst hgm
              exact ⟨i, rfl, hlt, by rw [List.getElem?_eq_getElem (by omega), hx]⟩
          · intro b hb
            refine ⟨N5 b hb, fun hr => ?_⟩
            rcases hu5 b hb with h | h
            · exact (hgs b h).2 hr
            · obtain ⟨o, ho⟩ := V3.there hr; rw [h] at ho; cases ho
        · exact hk1 _ _ ⟨i + 1, gL, by simp, by omega, V3, W3, by omega, hg, hgs, E3⟩ (by simp; omega)
      · refine ite_f rfl ?_
        exact hk1 _ _ ⟨i + 1, gL, by simp, by omega, V3, W3, by omega, hg, hgs, E3⟩ (by simp; omega)
  · simp only [W3.len]
    refine ite_i (fun hz => ?_) fun hnz => ?_
    · exact hQ r s h3 outL V3 hlen s0 (by omega) N0 E3
    · have hpos : 0 < gL.length := by have : ¬ (gL.length = 0) := (by simpa using hnz); omega
      refine loop_i (fun (j : Int) h4 => ∃ (jn : Nat) (outL' : List Int), j = jn ∧ jn ≤ gL.length ∧ Vec h4 r (eI .u64) outL' ∧ outL'.length = n ∧ Vec h4 gs (eI .i64) gL ∧ Ext h h4 ∧ (jn = 0 → outL' = outL) ∧ (0 < jn → outL'.count 1 < outL.count 1)) (fun j => ((gL.length : Int) - j).toNat) ⟨0, outL, rfl, Nat.zero_le _, V3, hlen, W3, E3, fun _ => rfl, fun h => by omega⟩ ?_
      rintro j h4 ⟨j, outL', rfl, hj, V4, hlen4, W4, E4, hj0, hj1⟩ k2 hk2
      refine ite_i (fun hjlt => ?_) fun hjge => ?_
      · have hjlt : j < gL.length := by simpa using hjlt
        refine W4.arr.num hjlt ?_
        obtain ⟨q, hq, hqn, hq1⟩ := hg _ (List.getElem_mem hjlt)
        rw [hq]
        rw [add_i64 (by omega) (by omega)]
        refine V4.put (by omega) fun h5 V5 F5 => ?_
        refine hk2 _ _ ⟨j + 1, _, by simp, by omega, V5, by simp [hlen4], W4.fr F5 (fun b hb hr => (hgs b hb).2 hr), E4.of_new F5 N0, (fun h => by omega), fun _ => ?_⟩ (by omega)
        rw [List.count_set (by omega)]
        simp only [show ((0 : Int) == 1) = false from rfl, Bool.false_eq_true, if_false, Nat.add_zero]
        by_cases hz : j = 0
        · have := hj0 hz
          subst this
          have e1 : outL'[q] = 1 := by rw [List.getElem?_eq_getElem (by omega)] at hq1; exact Option.some.inj hq1
          have : 0 < outL'.count 1 := List.count_pos_iff.2 (List.mem_of_getElem? hq1)
          rw [e1]; simp; omega
        · have := hj1 (by omega)
          omega
      · have hjj : j = gL.length := by have : ¬ (j < gL.length) := (by simpa using hjge); omega
        have hlt := hj1 (by omega)
        rw [add_i64 (by omega) (by omega)]
        exact hk _ _ _ hlt ⟨outL', V4, hlen4, E4, rfl, by omega, by omega⟩
end Go.Cz.S

namespace Go.Cz.S
set_option maxRecDepth 100000
set_option maxHeartbeats 1000000
set_option linter.unusedSimpArgs false
set_option linter.unusedVariables false

/-! ## ranks -/
theorem cnvu_pos : ∀ n : Fin 257, cnv .u64 (n.val : Int) = n.val := fun n => (hiOf_small n).2.2.1
theorem cnv_u64 {n : Int} (h1 : 0 ≤ n) (h2 : n ≤ 18446744073709551615) : cnv .u64 n = n := by unfold cnv; exact wrapu h1 h2
theorem rank_spec {n : Nat} {c : Int} {vo va : Sl} {h : H} (h1 : 1 ≤ n) (h2 : n ≤ 256) (hc : c ≤ 1000) (R : Rows n h vo) {Q : Sl → HProp}
    (hQ : ∀ r h' outL, Vec h' r (eI .u64) outL → outL.length = n → New h r → Ext h h' → Q r h') : truth_graph_rank ((n : Int), vo, va, c) Q h := by
  unfold truth_graph_rank
  simp only [ltI_eq, eqI_eq]
  refine fill_spec h1 h2 fun r ha V0 hra N0 E0 => ?_
  refine loop_i (fun (s : Int) h' => ∃ outL : List Int, 0 ≤ s ∧ Vec h' r (eI .u64) outL ∧ outL.length = n ∧ Ext h h') (fun s => (c - s).toNat) ⟨_, Int.le_refl _, V0, by simp, E0⟩ ?_
  rintro s h' ⟨outL, s0, V, hlen, E⟩ k hk
  refine ite_i (fun hlt => ?_) fun hge => ?_
  · have hlt : s < c := by simpa using hlt
    refine fill_spec h1 h2 fun r1 hb V1 hra1 N1 E1 => ?_
    have hne : ∀ b, r1.on b → ¬ r.on b := fun b hb hr => by obtain ⟨o, ho⟩ := V.there hr; rw [N1 b hb] at ho; cases ho
    have N1' : New h r1 := fun b hb => E.none (N1 b hb)
    refine loop_i (fun (i : Int) h3 => ∃ (i' : Nat) (sumL : List Int), i = i' ∧ i' ≤ n ∧ Vec h3 r (eI .u64) outL ∧ Vec h3 r1 (eI .u64) sumL ∧ sumL.length = n ∧ Ext h h3) (fun i => ((n : Int) - i).toNat) ⟨0, _, rfl, Nat.zero_le _, V.ext E1, V1, by simp, E.trans E1⟩ ?_
    rintro i h3 ⟨i, sumL, rfl, hi, V3, W3, hls, E3⟩ k1 hk1
    rw [R.len]
    refine ite_i (fun hilt => ?_) fun hige => ?_
    · have hilt : i < n := by simpa using hilt
      refine R.row E3 hilt fun x l A hl8 hl => ?_
      simp only [A.len]
      refine loop_i (fun (j : Int) h4 => ∃ (j' : Nat) (sumL : List Int), j = j' ∧ j' ≤ l.length ∧ Vec h4 r (eI .u64) outL ∧ Vec h4 r1 (eI .u64) sumL ∧ sumL.length = n ∧ Ext h h4) (fun j => ((l.length : Int) - j).toNat) ⟨0, _, rfl, Nat.zero_le _, V3, W3, hls, E3⟩ ?_
      rintro j h4 ⟨j, sumL4, rfl, hj, V4, W4, hl4, E4⟩ k2 hk2
      refine ite_i (fun hjlt => ?_) fun hjge => ?_
      · have hjlt : j < l.length := by simpa using hjlt
        refine (A.ext E4).num hjlt ?_
        obtain ⟨y0, y1⟩ := hl _ (List.getElem_mem hjlt)
        obtain ⟨vv, hvv⟩ : ∃ vv : Nat, l[j] = vv := ⟨l[j].toNat, by omega⟩
        rw [hvv] at y0 y1 ⊢
        refine W4.arr.num (by omega) (V4.arr.num (by omega) (must_i ?_ ?_))
        · rw [cnv_u64 (by omega) (by omega)]; omega
        · refine W4.put (by omega) fun h5 W5 F5 => ?_
          rw [add_i64 (by omega) (by omega)]
          exact hk2 _ _ ⟨j + 1, _, by simp, by omega, V4.fr F5 (fun b hr hb => hne b hb hr), W5, by simp [hl4], E4.of_new F5 N1'⟩ (by omega)
      · rw [add_i64 (by omega) (by omega)]
        exact hk1 _ _ ⟨i + 1, sumL4, by simp, by omega, V4, W4, hl4, E4⟩ (by omega)
    · refine loop_i (fun (j : Int) h4 => ∃ (j' : Nat) (outL : List Int), j = j' ∧ j' ≤ n ∧ Vec h4 r (eI .u64) outL ∧ outL.length = n ∧ Vec h4 r1 (eI .u64) sumL ∧ Ext h h4) (fun j => ((n : Int) - j).toNat) ⟨0, _, rfl, Nat.zero_le _, V3, hlen, W3, E3⟩ ?_
      rintro j h4 ⟨j, outL4, rfl, hj, V4, hl4, W4, E4⟩ k2 hk2
      simp only [W4.len, hls]
      refine ite_i (fun hjlt => ?_) fun hjge => ?_
      · have hjlt : j < n := by simpa using hjlt
        refine W4.arr.num (by omega) (must_i (by decide) ?_)
        refine V4.put (by omega) fun h5 V5 F5 => ?_
        rw [add_i64 (by omega) (by omega)]
        exact hk2 _ _ ⟨j + 1, _, by simp, by omega, V5, by simp [hl4], W4.fr F5 (fun b hb hr => hne b hb hr), E4.of_new F5 N0⟩ (by omega)
      · rw [add_i64 (by omega) (by omega)]
        exact hk _ _ ⟨outL4, by omega, V4, hl4, E4⟩ (by omega)
  · exact hQ r h' outL V hlen N0 E
end Go.Cz.S
namespace Go.Cz
/-! ## a graph's rows, as they are made -/
def InR (n : Nat) (cs : List Value) : Prop := ∀ c ∈ cs, ∃ x : Int, c = .int .i64 x ∧ 0 ≤ x ∧ x < n
/-- a row of numbers below n, in a block that was made since h0 -/
def Rw (h0 : H) (n : Nat) (h : H) (s : Sl) : Prop :=
  s.len ≤ s.cap ∧ ((s.a = none ∧ s.cap = 0) ∨ ∃ b cs, s.a = some ⟨b, 0, none⟩ ∧ h0 b = none ∧ h b = some (.cells cs true) ∧ cs.length = s.cap ∧ InR n cs)
def Keep (h0 : H) (n : Nat) (h h' : H) : Prop :=
  (∀ t, Rw h0 n h t → Rw h0 n h' t) ∧ (∀ b cs wr, h b = some (.cells cs wr) → ¬ InR n cs → h' b = some (.cells cs wr)) ∧ (∀ b o, h b = some o → h0 b ≠ none → h' b = some o)
theorem inR_ints {n : Nat} : ∀ {cs : List Value}, InR n cs → ∃ l : List Int, cs = (eI .i64).all l ∧ ∀ x ∈ l, 0 ≤ x ∧ x < n
  | [], _ => ⟨[], rfl, by simp⟩
  | c :: r, h => by
    obtain ⟨x, rfl, h1, h2⟩ := h c (List.mem_cons_self ..)
    obtain ⟨l, hl, hb⟩ := inR_ints (cs := r) fun c hc => h c (List.mem_cons_of_mem _ hc)
    refine ⟨x :: l, by rw [hl]; simp [Enc.all, eI], fun y hy => ?_⟩
    rcases List.mem_cons.1 hy with rfl | hy
    · exact ⟨h1, h2⟩
    · exact hb y hy
theorem Rw.arr {h0 h : H} {n : Nat} {s : Sl} (R : Rw h0 n h s) : ∃ l : List Int, Arr h s (eI .i64) l ∧ l.length = s.len ∧ ∀ x ∈ l, 0 ≤ x ∧ x < n := by
  obtain ⟨hle, h1 | ⟨b, cs, ha, hb0, hb, hc, hr⟩⟩ := R
  · exact ⟨[], ⟨by simp; omega, hle, fun _ => h1.2, fun a ha hl => absurd rfl hl⟩, by simp; omega, by simp⟩
  · obtain ⟨l, rfl, hb'⟩ := inR_ints hr
    have hll : l.length = s.cap := by rw [← hc, (eI .i64).all_len]; simp [eI]
    refine ⟨l.take s.len, ⟨by simp; omega, hle, (fun e => by rw [ha] at e; cases e), fun a ha' hl => ?_⟩, by simp; omega, fun x hx => hb' x (List.mem_of_mem_take hx)⟩
    rw [ha] at ha'; cases ha'
    refine ⟨rfl, _, _, hb, ?_, ?_⟩
    · rw [(eI .i64).all_len]; simp [eI]; omega
    · rw [List.drop_zero, (eI .i64).all_take]
      congr 1
      rw [List.length_take]
      congr 1; omega
theorem Rw.append {h0 h : H} {n : Nat} {s : Sl} {x : Int} (h1 : 1 ≤ n) (R : Rw h0 n h s) (g : Ext h0 h) (x0 : 0 ≤ x) (x1 : x < n) (hb : s.len ≤ 100000) {K : Sl → HProp}
    (hK : ∀ u h', Rw h0 n h' u → u.len = s.len + 1 → Keep h0 n h h' → K u h') : appendW s [Value.int .i64 0] 8 1 [Value.int .i64 x] K h := by
  obtain ⟨hle, hR⟩ := R
  unfold appendW
  rw [if_neg (by omega)]
  split
  · rename_i hroom
    rcases hR with ⟨_, h2⟩ | ⟨b, cs, ha, hb0, hbl, hc, hr⟩
    · omega
    · refine ⟨_, cs, ha, hbl, rfl, by simp; omega, hK _ _ ⟨by simp; omega, .inr ⟨b, _, ha, hb0, set_same .., by simp; omega, ?_⟩⟩ rfl ?_⟩
      · intro c hcm
        rcases List.mem_append.1 hcm with hcm | hcm
        · rcases List.mem_append.1 hcm with hcm | hcm
          · exact hr c (List.mem_of_mem_take hcm)
          · simp at hcm; exact ⟨x, hcm, x0, x1⟩
        · exact hr c (List.mem_of_mem_drop hcm)
      · have hr' : InR n (cs.take (0 + s.len * [Value.int IntKind.i64 0].length) ++ [Value.int IntKind.i64 x] ++ cs.drop (0 + s.len * [Value.int IntKind.i64 0].length + [Value.int IntKind.i64 x].length)) := by
          intro c hcm
          rcases List.mem_append.1 hcm with hcm | hcm
          · rcases List.mem_append.1 hcm with hcm | hcm
            · exact hr c (List.mem_of_mem_take hcm)
            · simp at hcm; exact ⟨x, hcm, x0, x1⟩
          · exact hr c (List.mem_of_mem_drop hcm)
        refine ⟨?_, ?_, ?_⟩
        · rintro t ⟨t1, t2⟩
          refine ⟨t1, ?_⟩
          rcases t2 with t2 | ⟨b', cs', ta, tb0, tb, tc, tr⟩
          · exact .inl t2
          · by_cases e : b' = b
            · subst e
              rw [hbl] at tb; cases tb
              exact .inr ⟨b', _, ta, tb0, set_same .., by simp; omega, hr'⟩
            · exact .inr ⟨b', cs', ta, tb0, by simp [H.set, e, tb], tc, tr⟩
        · intro b' cs' wr hb' hn
          have e : b' ≠ b := fun e => by subst e; rw [hbl] at hb'; cases hb'; exact hn hr
          simp [H.set, e, hb']
        · intro b' o hb' hn
          have e : b' ≠ b := fun e => by subst e; exact hn hb0
          simp [H.set, e, hb']
  · rename_i hroom
    obtain ⟨l, A, hll, hl⟩ := Rw.arr ⟨hle, hR⟩
    have hrow : h.row? s.a (s.len * 1) = some ((eI .i64).all l) := by
      have := A.row (w := 1) rfl (K := fun l' _ => l' = (eI .i64).all l) rfl
      unfold rowW at this
      obtain ⟨l', q1, _, q2⟩ := this
      rw [q1, q2]
    refine ⟨_, hrow, (eI .i64).all_ones l, by omega, fun cap' b hcap hbn => hK _ _ ⟨hcap, .inr ⟨b, _, rfl, g.none hbn, set_same .., ?_, ?_⟩⟩ rfl ?_⟩
    · simp only [List.length_append, (eI .i64).all_len, hll]
      simp [eI]; omega
    · intro c hcm
      rcases List.mem_append.1 hcm with hcm | hcm
      · rcases List.mem_append.1 hcm with hcm | hcm
        · rw [eI_all] at hcm
          obtain ⟨y, hy, rfl⟩ := List.mem_map.1 hcm
          exact ⟨y, rfl, hl y hy⟩
        · simp at hcm; exact ⟨x, hcm, x0, x1⟩
      · obtain ⟨q, hq, hcm⟩ := List.mem_flatten.1 hcm
        rw [(List.mem_replicate.1 hq).2] at hcm
        simp at hcm
        exact ⟨0, hcm, Int.le_refl _, by omega⟩
    · have ne : ∀ b' o, h b' = some o → b' ≠ b := fun b' o hb' e => by subst e; rw [hbn] at hb'; cases hb'
      refine ⟨?_, fun b' cs wr hb' _ => by simp [H.set, ne _ _ hb', hb'], fun b' o hb' _ => by simp [H.set, ne _ _ hb', hb']⟩
      rintro t ⟨t1, t2⟩
      refine ⟨t1, ?_⟩
      rcases t2 with t2 | ⟨b', cs', ta, tb0, tb, tc, tr⟩
      · exact .inl t2
      · exact .inr ⟨b', cs', ta, tb0, by simp [H.set, ne _ _ tb, tb], tc, tr⟩
end Go.Cz

namespace Go.Cz
set_option maxRecDepth 100000
set_option maxHeartbeats 1000000
set_option linter.unusedSimpArgs false
set_option linter.unusedVariables false

def slV (s : Sl) : Value := .slice s.a s.len s.cap
theorem slV_all : ∀ svs : List Sl, svs.map slV = eL.all svs
  | [] => rfl
  | s :: r => by
    have := slV_all r
    simp only [List.map_cons, this]
    rfl
theorem not_inR {n : Nat} {s : Sl} {cs : List Value} (h : slV s ∈ cs) : ¬ InR n cs := fun hr => by obtain ⟨x, hx, _⟩ := hr _ h; cases hx
/-- a table of rows -/
structure Tb (h0 : H) (n : Nat) (h : H) (b : Nat) (cnt : Nat) (svs : List Sl) : Prop where
  new : h0 b = none
  at_ : h b = some (.cells (svs.map slV) true)
  len : svs.length = n
  row : ∀ s ∈ svs, Rw h0 n h s ∧ s.len ≤ cnt
structure Gr (h0 : H) (n : Nat) (h : H) (bg b1 b2 : Nat) (cnt : Nat) : Prop where
  n1 : 1 ≤ n
  og : h bg = some (.cells [.int .i64 n, .slice (some ⟨b1, 0, none⟩) n n, .slice (some ⟨b2, 0, none⟩) n n] true)
  newg : h0 bg = none
  ne : b1 ≠ b2
  t1 : ∃ svs, Tb h0 n h b1 cnt svs
  t2 : ∃ svs, Tb h0 n h b2 cnt svs
  ext : Ext h0 h
theorem Tb.keep {h0 h h' : H} {n b cnt : Nat} {svs : List Sl} (T : Tb h0 n h b cnt svs) (h1 : 1 ≤ n) (k : Keep h0 n h h') : Tb h0 n h' b cnt svs := by
  refine ⟨T.new, k.2.1 _ _ _ T.at_ ?_, T.len, fun s hs => ⟨k.1 _ (T.row s hs).1, (T.row s hs).2⟩⟩
  obtain ⟨s, hs⟩ : ∃ s, s ∈ svs := List.exists_mem_of_length_pos (by rw [T.len]; exact h1)
  exact not_inR (s := s) (List.mem_map_of_mem hs)
theorem Tb.mono {h0 h : H} {n b cnt cnt' : Nat} {svs : List Sl} (T : Tb h0 n h b cnt svs) (hc : cnt ≤ cnt') : Tb h0 n h b cnt' svs :=
  ⟨T.new, T.at_, T.len, fun s hs => ⟨(T.row s hs).1, Nat.le_trans (T.row s hs).2 hc⟩⟩
theorem Rw.set {h0 h : H} {n b : Nat} {t : Sl} {cs cs' : List Value} (R : Rw h0 n h t) (hb : h b = some (.cells cs true)) (hn : ¬ InR n cs) : Rw h0 n (h.set b (.cells cs' true)) t := by
  obtain ⟨t1, t2⟩ := R
  refine ⟨t1, ?_⟩
  rcases t2 with t2 | ⟨b', cs2, ta, tb0, tb, tc, tr⟩
  · exact .inl t2
  · have e : b' ≠ b := fun e => by subst e; rw [hb] at tb; cases tb; exact hn tr
    exact .inr ⟨b', cs2, ta, tb0, by simp [H.set, e, tb], tc, tr⟩
/-- which of the two tables -/
def pick (f b1 b2 : Nat) : Nat := if f = 1 then b1 else b2
theorem Gr.ld {h0 h : H} {n bg b1 b2 cnt f : Nat} (G : Gr h0 n h bg b1 b2 cnt) (hf : f = 1 ∨ f = 2) {K : Sl → HProp} (hK : K ⟨some ⟨pick f b1 b2, 0, none⟩, n, n⟩ h) : loadL ((at0 bg).add f) K h := by
  refine loadL_i (v := ⟨some ⟨pick f b1 b2, 0, none⟩, n, n⟩) ?_ hK
  refine Obj.ld (cs := _) G.og ?_
  rcases hf with rfl | rfl <;> rfl
theorem Gr.cell {h0 h : H} {n bg b1 b2 cnt f : Nat} (G : Gr h0 n h bg b1 b2 cnt) (hf : f = 1 ∨ f = 2) : h.cell? ((at0 bg).add f) = some (.slice (some ⟨pick f b1 b2, 0, none⟩) n n) := by
  refine Obj.ld (cs := _) G.og ?_
  rcases hf with rfl | rfl <;> rfl
theorem Gr.add {h0 h : H} {n bg b1 b2 cnt f : Nat} (G : Gr h0 n h bg b1 b2 cnt) (hf : f = 1 ∨ f = 2) {i : Nat} (hi : i < n) {y : Int} (y0 : 0 ≤ y) (y1 : y < n) (hc : cnt ≤ 100000) {C : HProp}
    (hC : ∀ h', Gr h0 n h' bg b1 b2 (cnt + 1) → C h') :
    derefW (some (at0 bg)) (fun (a : Addr) => loadL (a.add f) fun (x_2 : Sl) => derefW (some (at0 bg)) fun (a_1 : Addr) => loadL (a_1.add f) fun (x_3 : Sl) => indexW (i : Int) x_3 1 fun (a_2 : Addr) => loadL a_2 fun (x_4 : Sl) =>
      keepsW (a.add f) (Rec.mk 1 (Pl.heap (a.add f)) [Value.slice x_2.a x_2.len x_2.cap]).vs
        (keepsW (a_1.add f) (Rec.mk 5 (Pl.heap (a_1.add f)) [Value.slice x_3.a x_3.len x_3.cap]).vs
          (keepsW a_2 (Rec.mk 9 (Pl.heap a_2) [Value.slice x_4.a x_4.len x_4.cap]).vs
            (appendW x_4 [Value.int IntKind.i64 0] 8 1 [Value.int IntKind.i64 y] fun (u : Sl) =>
              keepsW (a.add f) (Rec.mk 1 (Pl.heap (a.add f)) [Value.slice x_2.a x_2.len x_2.cap]).vs
                (indexW (i : Int) x_2 1 fun (a : Addr) => storeW a (Value.slice u.a u.len u.cap) C))))) h := by
  refine deref_i (G.ld hf (deref_i (G.ld hf ?_)))
  obtain ⟨svs, T⟩ : ∃ svs, Tb h0 n h (pick f b1 b2) cnt svs := by
    rcases hf with rfl | rfl
    · exact G.t1
    · exact G.t2
  have hi' : i < svs.length := by rw [T.len]; exact hi
  refine index_i (by omega) (by simpa using hi) (by simp) fun a2 ha2 => ?_
  obtain ⟨q, hq, rfl⟩ := ha2
  cases hq
  have hcell : h.cell? ((at0 (pick f b1 b2)).add i) = some (slV svs[i]) := by
    refine Obj.ld (cs := _) T.at_ ?_
    simp [hi']
  simp only [Int.toNat_natCast, Nat.mul_one]
  obtain ⟨R, hcl⟩ := T.row _ (List.getElem_mem hi')
  refine loadL_i (v := svs[i]) hcell ?_
  refine keeps1 (G.cell hf) (keeps1 (G.cell hf) (keeps1 hcell ?_))
  refine Rw.append G.n1 R G.ext y0 y1 (by omega) fun u h1 Ru hul kp => ?_
  have og1 := kp.2.1 _ _ _ G.og (not_inR (s := ⟨some ⟨b1, 0, none⟩, n, n⟩) (by simp [slV]))
  have ext1 : Ext h0 h1 := fun b o hb _ => kp.2.2 b o (G.ext b o hb (fun h => h)) (by rw [hb]; simp)
  have G1 : Gr h0 n h1 bg b1 b2 cnt := ⟨G.n1, og1, G.newg, G.ne, by obtain ⟨q, hq⟩ := G.t1; exact ⟨q, hq.keep G.n1 kp⟩, by obtain ⟨q, hq⟩ := G.t2; exact ⟨q, hq.keep G.n1 kp⟩, ext1⟩
  have T1 := T.keep G.n1 kp
  refine keeps1 (G1.cell hf) ?_
  refine index_i (by omega) (by simpa using hi) (by simp) fun a3 ha3 => ?_
  obtain ⟨q, hq, rfl⟩ := ha3
  cases hq
  simp only [Int.toNat_natCast, Nat.mul_one]
  refine Obj.st (cs := svs.map slV) T1.at_ (by simp [hi']) fun h2 O2 F2 => hC h2 ?_
  have hnot : ¬ InR n (svs.map slV) := not_inR (s := svs[i]) (List.mem_map_of_mem (List.getElem_mem hi'))
  have hrw : ∀ t, Rw h0 n h1 t → Rw h0 n h2 t := by
    rintro t ⟨t1, t2⟩
    refine ⟨t1, ?_⟩
    rcases t2 with t2 | ⟨b', cs2, ta, tb0, tb, tc, tr⟩
    · exact .inl t2
    · have e : b' ≠ pick f b1 b2 := fun e => by subst e; rw [T1.at_] at tb; cases tb; exact hnot tr
      exact .inr ⟨b', cs2, ta, tb0, F2 _ _ tb e, tc, tr⟩
  have hset : (svs.map slV).set i (.slice u.a u.len u.cap) = (svs.set i u).map slV := by rw [List.map_set]; rfl
  have T2 : Tb h0 n h2 (pick f b1 b2) (cnt + 1) (svs.set i u) := by
    refine ⟨T1.new, by rw [← hset]; exact O2, by rw [List.length_set]; exact T1.len, fun s hs => ?_⟩
    rcases List.mem_or_eq_of_mem_set hs with hs | rfl
    · exact ⟨hrw _ (T1.row s hs).1, by have := (T1.row s hs).2; omega⟩
    · exact ⟨hrw _ Ru, by omega⟩
  have hoth : ∀ b svs', b ≠ pick f b1 b2 → Tb h0 n h1 b cnt svs' → Tb h0 n h2 b (cnt + 1) svs' := fun b svs' hne T' =>
    ⟨T'.new, F2 _ _ T'.at_ hne, T'.len, fun s hs => ⟨hrw _ (T'.row s hs).1, by have := (T'.row s hs).2; omega⟩⟩
  have hg : bg ≠ pick f b1 b2 := fun e => by
    have h3 := G1.og
    rw [e, T1.at_] at h3
    have h4 : svs.map slV = [.int .i64 n, .slice (some ⟨b1, 0, none⟩) n n, .slice (some ⟨b2, 0, none⟩) n n] := by simpa using h3
    cases svs with
    | nil => simp at h4
    | cons s r => simp [slV] at h4
  refine ⟨G.n1, F2 _ _ og1 hg, G.newg, G.ne, ?_, ?_, ext1.of_new F2 (fun b hb => by rw [hb]; exact T1.new)⟩
  · rcases hf with rfl | rfl
    · exact ⟨_, T2⟩
    · obtain ⟨q, hq⟩ := G1.t1; exact ⟨q, hoth _ _ G.ne hq⟩
  · rcases hf with rfl | rfl
    · obtain ⟨q, hq⟩ := G1.t2; exact ⟨q, hoth _ _ (fun e => G.ne e.symm) hq⟩
    · exact ⟨_, T2⟩
/-- what is made at first -/
theorem Gr.start {h0 h : H} {n bg b1 b2 : Nat} {K : HProp} (h1 : 1 ≤ n) (E : Ext h0 h) (og : Obj h bg [.int .i64 0, .slice none 0 0, .slice none 0 0]) (o1 : Obj h b1 (List.replicate n (.slice none 0 0))) (o2 : Obj h b2 (List.replicate n (.slice none 0 0)))
    (ng : h0 bg = none) (n1 : h0 b1 = none) (n2 : h0 b2 = none) (ne : b1 ≠ b2) (hK : ∀ h', Gr h0 n h' bg b1 b2 0 → K h') :
    storesW (Addr.mk bg 0 none) [.int .i64 n, .slice (some ⟨b1, 0, none⟩) n n, .slice (some ⟨b2, 0, none⟩) n n] K h := by
  unfold storesW
  unfold Obj at og o1 o2
  simp only [og]
  refine ⟨trivial, by simp, hK _ ?_⟩
  have hne : ∀ b, h b = some (.cells (List.replicate n (.slice none 0 0)) true) → b ≠ bg := fun b hb e => by
    subst e; rw [og] at hb
    obtain ⟨m, rfl⟩ : ∃ m, n = m + 1 := ⟨n - 1, by omega⟩
    simp [List.replicate_succ] at hb
  have tb : ∀ b, h0 b = none → h b = some (.cells (List.replicate n (.slice none 0 0)) true) → ∃ svs, Tb h0 n (h.set bg (.cells ([Value.int IntKind.i64 0, Value.slice none 0 0, Value.slice none 0 0].take 0 ++ [Value.int IntKind.i64 n, Value.slice (some ⟨b1, 0, none⟩) n n, Value.slice (some ⟨b2, 0, none⟩) n n] ++ [Value.int IntKind.i64 0, Value.slice none 0 0, Value.slice none 0 0].drop (0 + [Value.int IntKind.i64 n, Value.slice (some ⟨b1, 0, none⟩) n n, Value.slice (some ⟨b2, 0, none⟩) n n].length)) true)) b 0 svs := fun b hb0 hb => by
    refine ⟨List.replicate n ⟨none, 0, 0⟩, hb0, ?_, by simp, fun s hs => ?_⟩
    · simp only [H.set, if_neg (hne b hb), List.map_replicate]
      exact hb
    · rw [(List.mem_replicate.1 hs).2]
      exact ⟨⟨Nat.le_refl _, .inl ⟨rfl, rfl⟩⟩, Nat.le_refl _⟩
  exact ⟨h1, set_same .., ng, ne, tb _ n1 o1, tb _ n2 o2, E.of_new Fr.set (fun b hb => by rw [hb]; exact ng)⟩
theorem Gr.rows {h0 h : H} {n bg b1 b2 cnt f : Nat} (G : Gr h0 n h bg b1 b2 cnt) (hf : f = 1 ∨ f = 2) (hc : cnt ≤ 20000) : Rows n h ⟨some ⟨pick f b1 b2, 0, none⟩, n, n⟩ := by
  obtain ⟨svs, T⟩ : ∃ svs, Tb h0 n h (pick f b1 b2) cnt svs := by
    rcases hf with rfl | rfl
    · exact G.t1
    · exact G.t2
  refine ⟨svs, ⟨by rw [T.len], Nat.le_refl _, (fun e => by cases e), fun a ha _ => ?_⟩, T.len, fun s hs => ?_⟩
  · cases ha
    refine ⟨rfl, _, _, T.at_, by simp [eL], ?_⟩
    rw [List.drop_zero, List.take_of_length_le (by simp [eL])]
    exact slV_all svs
  · obtain ⟨R, hl⟩ := T.row s hs
    obtain ⟨l, A, h1, h2⟩ := R.arr
    exact ⟨l, A, by omega, h2⟩
end Go.Cz

namespace Go.Cz.S
set_option maxRecDepth 100000
set_option maxHeartbeats 1000000
set_option linter.unusedSimpArgs false
set_option linter.unusedVariables false

theorem mkT {n : Nat} {h : H} (h2 : n ≤ 256) {K : Sl → HProp} (hK : ∀ b h', Obj h' b (List.replicate n (.slice none 0 0)) → h b = none → Ext h h' → K ⟨some ⟨b, 0, none⟩, n, n⟩ h') :
    makeW (n : Int) (n : Int) [Value.slice (Sl.mk none 0 0).a 0 0] 24 K h := by
  unfold makeW
  refine ⟨by omega, Int.le_refl _, by omega, by omega, fun b hb => ?_⟩
  have := hK b (h.set b (.cells (List.replicate n (.slice none 0 0)) true)) (set_same ..) hb (Ext.set hb)
  simpa using this
theorem fresh_ne {h : H} {b b' : Nat} {cs : List Value} (o : Obj h b cs) (hb : h b' = none) : b ≠ b' := fun e => by subst e; unfold Obj at o; rw [hb] at o; cases o

theorem of_spec {n : Nat} {v : Sl} {L : List (Int × Int)} {h : H} (h1 : 1 ≤ n) (h2 : n ≤ 256) (A : Arr h v eP L) (hL : L.length ≤ 4096) (hb : ∀ e ∈ L, 0 ≤ e.1 ∧ e.1 < n ∧ 0 ≤ e.2 ∧ e.2 < n) {Q : Int × Sl × Sl → HProp}
    (hQ : ∀ vo va h', Rows n h' vo → Rows n h' va → Ext h h' → Q ((n : Int), vo, va) h') : truth_of ((n : Int), v) Q h := by
  unfold truth_of
  refine with_i (fun (p : Option Addr) h' => ∃ bg b1 b2, p = some (at0 bg) ∧ Gr h n h' bg b1 b2 0) (fun k hk => ?_) ?_
  · refine both_i (mkT h2 fun b1 ha o1 n1 e1 => both_i (mkT h2 fun b2 hc o2 n2 e2 => Obj.new fun bg hd og ng e3 => ?_) (Obj.new fun bg hc og ng e2 => mkT h2 fun b2 hd o2 n2 e3 => ?_))
      (both_i (mkT h2 fun b1 ha o1 n1 e1 => both_i (mkT h2 fun b2 hc o2 n2 e2 => Obj.new fun bg hd og ng e3 => ?_) (Obj.new fun bg hc og ng e2 => mkT h2 fun b2 hd o2 n2 e3 => ?_))
        (Obj.new fun bg ha og ng e1 => both_i (mkT h2 fun b1 hc o1 n1 e2 => mkT h2 fun b2 hd o2 n2 e3 => ?_) (mkT h2 fun b1 hc o1 n1 e2 => mkT h2 fun b2 hd o2 n2 e3 => ?_)))
    · exact Gr.start h1 (e1.trans (e2.trans e3)) og ((o1.ext e2).ext e3) (o2.ext e3) (e1.none (e2.none ng)) n1 (e1.none n2) (fresh_ne o1 n2) fun h' G => hk _ _ ⟨_, _, _, rfl, G⟩
    · exact Gr.start h1 (e1.trans (e2.trans e3)) (og.ext e3) ((o1.ext e2).ext e3) o2 (e1.none ng) n1 (e1.none (e2.none n2)) (fresh_ne (o1.ext e2) n2) fun h' G => hk _ _ ⟨_, _, _, rfl, G⟩
    · exact Gr.start h1 (e1.trans (e2.trans e3)) og (o2.ext e3) ((o1.ext e2).ext e3) (e1.none (e2.none ng)) (e1.none n2) n1 (fresh_ne o1 n2).symm fun h' G => hk _ _ ⟨_, _, _, rfl, G⟩
    · exact Gr.start h1 (e1.trans (e2.trans e3)) (og.ext e3) o2 ((o1.ext e2).ext e3) (e1.none ng) (e1.none (e2.none n2)) n1 (fresh_ne (o1.ext e2) n2).symm fun h' G => hk _ _ ⟨_, _, _, rfl, G⟩
    · exact Gr.start h1 (e1.trans (e2.trans e3)) ((og.ext e2).ext e3) (o1.ext e3) o2 ng (e1.none n1) (e1.none (e2.none n2)) (fresh_ne o1 n2) fun h' G => hk _ _ ⟨_, _, _, rfl, G⟩
    · exact Gr.start h1 (e1.trans (e2.trans e3)) ((og.ext e2).ext e3) o2 (o1.ext e3) ng (e1.none (e2.none n2)) (e1.none n1) (fresh_ne o1 n2).symm fun h' G => hk _ _ ⟨_, _, _, rfl, G⟩
  · rintro p h' ⟨bg, b1, b2, rfl, G⟩
    simp only [A.len, ltI_eq]
    refine loop_i (fun (s : Int) h3 => ∃ i : Nat, s = i ∧ i ≤ L.length ∧ Gr h n h3 bg b1 b2 (3 * i)) (fun s => ((L.length : Int) - s).toNat) ⟨0, rfl, Nat.zero_le _, G⟩ ?_
    rintro s h3 ⟨i, rfl, hi, G3⟩ k hk
    refine ite_i (fun hlt => ?_) fun hge => ?_
    · have hlt : i < L.length := by simpa using hlt
      have A3 := A.ext G3.ext
      refine A3.index (by omega) (by omega) fun a ha => ?_
      have c0 := A3.cell (i := i) (j := 0) (x := L[i]) (y := .int .i64 L[i].1) (by simpa [eP] using ha) (List.getElem?_eq_getElem hlt) rfl
      have c1 := A3.cell (i := i) (j := 1) (x := L[i]) (y := .int .i64 L[i].2) (by simpa [eP] using ha) (List.getElem?_eq_getElem hlt) rfl
      refine loadI_i c0 (loadI_i c1 ?_)
      obtain ⟨x0, x1, y0, y1⟩ := hb _ (List.getElem_mem hlt)
      obtain ⟨x, hx⟩ : ∃ x : Nat, L[i].1 = x := ⟨L[i].1.toNat, by omega⟩
      obtain ⟨y, hy⟩ : ∃ y : Nat, L[i].2 = y := ⟨L[i].2.toNat, by omega⟩
      rw [hx] at x0 x1 ⊢; rw [hy] at y0 y1 ⊢
      refine G3.add (f := 1) (.inl rfl) (i := x) (by omega) y0 y1 (by omega) fun h4 G4 => ?_
      refine G4.add (f := 2) (.inr rfl) (i := x) (by omega) y0 y1 (by omega) fun h5 G5 => ?_
      refine G5.add (f := 2) (.inr rfl) (i := y) (by omega) x0 x1 (by omega) fun h6 G6 => ?_
      rw [add_i64 (by omega) (by omega)]
      exact hk _ _ ⟨i + 1, by simp, by omega, G6⟩ (by omega)
    · have : i = L.length := by have : ¬ (i < L.length) := (by simpa using hge); omega
      refine deref_i ?_
      refine loadI_i (n := n) (Obj.ld (j := 0) G3.og rfl) ?_
      refine G3.ld (f := 1) (.inl rfl) (G3.ld (f := 2) (.inr rfl) ?_)
      exact hQ _ _ h3 (G3.rows (.inl rfl) (by omega)) (G3.rows (.inr rfl) (by omega)) G3.ext

/-! ## Check -/
def okReq (kind arg prio : Int) (n : Int) : Bool :=
  decide (1 ≤ n) && decide (n ≤ 256) && decide (0 ≤ prio) && decide (prio ≤ 7) &&
    (if kind = 1 then decide (0 ≤ arg) && decide (arg < n) else if kind = 2 then decide (1 ≤ arg) && decide (arg ≤ 64) else if kind = 3 then decide (arg = 0) else if kind = 4 then decide (0 ≤ arg) && decide (arg ≤ 4096) else false)
theorem check_spec {kind arg prio need n : Int} {Q : Int → HProp} {h : H} (hQ : Q (if okReq kind arg prio n then 0 else 2) h) : truth_Check (kind, arg, prio, need, n) Q h := by
  unfold truth_Check
  simp only [leI_eq, ltI_eq, eqI_eq]
  refine with_b (decide (1 ≤ n) && decide (n ≤ 256) && decide (0 ≤ prio) && decide (prio ≤ 7)) (fun k hk => ?_) ?_
  · refine ite_i (fun h1 => ite_i (fun h2 => ite_i (fun h3 => ?_) fun h3 => ?_) fun h2 => ?_) fun h1 => ?_
    · simpa [h1, h2, h3] using hk
    · simpa [h1, h2, h3] using hk
    · simpa [h1, h2] using hk
    · simpa [h1] using hk
  · generalize hg : (decide (1 ≤ n) && decide (n ≤ 256) && decide (0 ≤ prio) && decide (prio ≤ 7)) = g
    refine with_b (okReq kind arg prio n) (fun k hk => ?_) ?_
    · unfold okReq at hk
      rw [hg] at hk
      refine ite_i (fun k1 => ?_) fun k1 => ite_i (fun k2 => ?_) fun k2 => ite_i (fun k3 => ?_) fun k3 => ite_i (fun k4 => ?_) fun k4 => ?_
      · have k1 : kind = 1 := by simpa using k1
        rw [if_pos k1] at hk
        refine with_u (ite_i (fun h1 => ite_i (fun h2 => ?_) fun h2 => ?_) fun h1 => ?_)
        · simpa [h1, h2] using hk
        · simpa [h1, h2] using hk
        · simpa [h1] using hk
      · have k1 : ¬ kind = 1 := by simpa using k1
        have k2 : kind = 2 := by simpa using k2
        rw [if_neg k1, if_pos k2] at hk
        refine with_u (ite_i (fun h1 => ite_i (fun h2 => ?_) fun h2 => ?_) fun h1 => ?_)
        · simpa [h1, h2] using hk
        · simpa [h1, h2] using hk
        · simpa [h1] using hk
      · have k1 : ¬ kind = 1 := by simpa using k1
        have k2 : ¬ kind = 2 := by simpa using k2
        have k3 : kind = 3 := by simpa using k3
        rw [if_neg k1, if_neg k2, if_pos k3] at hk
        refine with_u (ite_i (fun h1 => ?_) fun h1 => ?_)
        · simpa [h1] using hk
        · simpa [h1] using hk
      · have k1 : ¬ kind = 1 := by simpa using k1
        have k2 : ¬ kind = 2 := by simpa using k2
        have k3 : ¬ kind = 3 := by simpa using k3
        have k4 : kind = 4 := by simpa using k4
        rw [if_neg k1, if_neg k2, if_neg k3, if_pos k4] at hk
        refine with_u (ite_i (fun h1 => ite_i (fun h2 => ?_) fun h2 => ?_) fun h1 => ?_)
        · simpa [h1, h2] using hk
        · simpa [h1, h2] using hk
        · simpa [h1] using hk
      · have k1 : ¬ kind = 1 := by simpa using k1
        have k2 : ¬ kind = 2 := by simpa using k2
        have k3 : ¬ kind = 3 := by simpa using k3
        have k4 : ¬ kind = 4 := by simpa using k4
        rw [if_neg k1, if_neg k2, if_neg k3, if_neg k4, Bool.and_false] at hk
        exact hk
    · refine ite_i (fun hc => ?_) fun hc => ?_
      · rw [if_neg (by simpa using hc)] at hQ; exact hQ
      · rw [if_pos (by simpa using hc)] at hQ; exact hQ
end Go.Cz.S

namespace Go.Cz
set_option maxRecDepth 100000
set_option maxHeartbeats 1000000
set_option linter.unusedSimpArgs false
set_option linter.unusedVariables false
theorem Arr.pair {h : H} {v : Sl} {L : List (Int × Int)} (A : Arr h v eP L) {i : Nat} (hi : i < L.length) {K : Int → Int → HProp} (hK : K L[i].1 L[i].2 h) :
    indexW (i : Int) v 2 (fun a => loadI IntKind.i64 (a.add 0) fun x => loadI IntKind.i64 (a.add 1) fun y => K x y) h := by
  refine A.index (by omega) (by omega) fun a ha => ?_
  have c0 := A.cell (i := i) (j := 0) (x := L[i]) (y := .int .i64 L[i].1) (by simpa [eP] using ha) (List.getElem?_eq_getElem hi) rfl
  have c1 := A.cell (i := i) (j := 1) (x := L[i]) (y := .int .i64 L[i].2) (by simpa [eP] using ha) (List.getElem?_eq_getElem hi) rfl
  exact loadI_i c0 (loadI_i c1 hK)
theorem eqPairs2 (a b c d : Int) : eqPairs [(a, b), (c, d)] = decide ((a, c) = (b, d)) := by
  simp [eqPairs, eqI_eq]
theorem Vec.view {α : Type} {h : H} {v : Sl} {E : Enc α} {C : List α} (V : Vec h v E C) {i : Nat} (hi : i ≤ C.length) :
    Arr h ⟨if v.cap = i then v.a else v.a.map (·.add (i * E.w)), C.length - i, v.cap - i⟩ E (C.drop i) := by
  have := V.arr.slice (w := E.w) rfl (lo := (i : Int)) (hi := (C.length : Int)) (K := fun u' _ => Arr h u' E (C.drop i)) (by omega) (by omega) (Int.le_refl _) (fun u hu _ _ _ => by
    have e : (C.drop (i : Int).toNat).take ((C.length : Int).toNat - (i : Int).toNat) = C.drop i := by
      simp only [Int.toNat_natCast]
      exact List.take_of_length_le (by simp)
    rwa [e] at hu)
  unfold sliceW at this
  simpa using this.2.2.2
theorem flat2_all : ∀ l : List (Int × Int), flat2 l = eP.all l
  | [] => rfl
  | x :: r => by
    have := flat2_all r
    simp only [flat2, this]
    rfl
end Go.Cz
namespace Go.Cz.S
set_option maxRecDepth 100000
set_option maxHeartbeats 1000000
set_option linter.unusedSimpArgs false
set_option linter.unusedVariables false

theorem may_spec {n : Int} {Q : Bool → HProp} {h : H} (hQ : Q (decide (1 ≤ n) && decide (n ≤ 256)) h) : edges_may n Q h := by
  unfold edges_may
  simp only [leI_eq]
  refine with_u (ite_i (fun h1 => ?_) fun h1 => ?_)
  · simpa [h1] using hQ
  · simpa [h1] using hQ
theorem within_spec {n v : Int} {Q : Bool → HProp} {h : H} (hQ : Q (decide (0 ≤ v) && decide (v < n)) h) : edges_within (n, v) Q h := by
  unfold edges_within
  simp only [leI_eq, ltI_eq]
  refine with_u (ite_i (fun h1 => ?_) fun h1 => ?_)
  · simpa [h1] using hQ
  · simpa [h1] using hQ
def badE (n : Int) (x : Int × Int) : Bool := !(decide (0 ≤ x.1) && decide (x.1 < n)) || !(decide (0 ≤ x.2) && decide (x.2 < n)) || decide (x.1 = x.2)
theorem bad_spec {n : Int} {x : Int × Int} {b : Nat} {h : H} (o : Obj h b [.int .i64 n]) {Q : Bool → HProp} (hQ : Q (badE n x) h) : edges_Normal_c1 (x.1, x.2, some (Addr.mk b 0 none)) Q h := by
  unfold edges_Normal_c1
  refine with_u (deref_i (loadI_i (n := n) (o.ld0 rfl) (within_spec (ite_i (fun h1 => ?_) fun h1 => deref_i (loadI_i (n := n) (o.ld0 rfl) (within_spec (ite_i (fun h2 => ?_) fun h2 => ?_)))))))
  · have : badE n x = true := by unfold badE; rw [h1]; rfl
    rw [this] at hQ; exact hQ
  · have : badE n x = true := by unfold badE; rw [h1, h2]; rfl
    rw [this] at hQ; exact hQ
  · have : badE n x = decide (x.1 = x.2) := by unfold badE; rw [h1, h2]; rfl
    rw [this] at hQ
    simp only [eqI_eq]
    exact hQ
theorem contains_spec {v : Sl} {L : List (Int × Int)} {h : H} (A : Arr h v eP L) (hL : L.length ≤ 1000000) {f : (Int × Int) → (Bool → HProp) → HProp} {p : Int × Int → Bool} (hf : ∀ x Q, Q (p x) h → f x Q h) {Q : Bool → HProp} (hQ : Q (L.any p) h) : slices_ContainsFunc_api_Edge_api_Edge (v, f) Q h := by
  unfold slices_ContainsFunc_api_Edge_api_Edge slices_IndexFunc_api_Edge_api_Edge
  simp only [A.len, ltI_eq, leI_eq]
  refine loop_i (fun (s : Int) h' => h' = h ∧ ∃ i : Nat, s = i ∧ i ≤ L.length ∧ ∀ j, (hj : j < i) → ∀ hl : j < L.length, p L[j] = false) (fun s => ((L.length : Int) - s).toNat) ⟨rfl, 0, rfl, Nat.zero_le _, fun j hj => by omega⟩ ?_
  rintro s h' ⟨rfl, i, rfl, hi, hp⟩ k hk
  refine ite_i (fun hlt => ?_) fun hge => ?_
  · have hlt : i < L.length := by simpa using hlt
    refine A.pair hlt (hf _ _ (ite_i (fun h1 => ?_) fun h1 => ?_))
    · have : L.any p = true := List.any_eq_true.2 ⟨L[i], List.getElem_mem hlt, h1⟩
      rw [this] at hQ
      have e : decide ((0 : Int) ≤ (i : Int)) = true := by simp
      rw [e]; exact hQ
    · rw [add_i64 (by omega) (by omega)]
      refine hk _ _ ⟨rfl, i + 1, by simp, by omega, fun j hj hl => ?_⟩ (by omega)
      by_cases e : j = i
      · subst e; exact h1
      · exact hp j (by omega) hl
  · have hi : i = L.length := by have : ¬ (i < L.length) := (by simpa using hge); omega
    have : L.any p = false := by
      rw [Bool.eq_false_iff]
      intro h
      obtain ⟨x, hx, hpx⟩ := List.any_eq_true.1 h
      obtain ⟨j, hj, rfl⟩ := List.getElem_of_mem hx
      rw [hp j (by omega) hj] at hpx; cases hpx
    rw [this] at hQ
    have e : decide ((0 : Int) ≤ -1) = false := by decide
    rw [e]; exact hQ

/-! ## sorting -/
theorem leP_iff {x y : Int × Int} : leP x y = true ↔ ¬ (y.1 < x.1 ∨ y.1 = x.1 ∧ y.2 < x.2) := by
  unfold leP ltP
  rw [Bool.not_eq_true', decide_eq_false_iff_not]
theorem ltP_iff' {x y : Int × Int} : ltP x y = true ↔ (x.1 < y.1 ∨ x.1 = y.1 ∧ x.2 < y.2) := by simp [ltP]
def Rising (L : List (Int × Int)) : Prop := L.Pairwise fun a b => ltP a b = true
theorem sort_rising {L : List (Int × Int)} (h : Rising L) : L.mergeSort leP = L :=
  List.mergeSort_of_pairwise (h.imp fun {a b} hab => by rw [ltP_iff'] at hab; rw [leP_iff]; omega)
theorem sort_le (L : List (Int × Int)) : (L.mergeSort leP).Pairwise fun a b => leP a b = true :=
  List.pairwise_mergeSort (fun a b c h1 h2 => by rw [leP_iff] at *; omega) (fun a b => by
    rw [Bool.or_eq_true, leP_iff, leP_iff]; omega) L

theorem collect_spec {v : Sl} {L : List (Int × Int)} {b : Nat} {h : H} (A : Arr h v eP L) (hL : L.length ≤ 1000000) (o : Obj h b [.slice v.a v.len v.cap]) {Q : Sl → HProp}
    (hQ : ∀ u h', Vec h' u eP L → New h u → Ext h h' → Q u h') : slices_Collect_api_Edge (some (Addr.mk b 0 none)) Q h := by
  unfold slices_Collect_api_Edge
  refine deref_i (loadL_i (v := v) (o.ld0 rfl) ?_)
  unfold collectPW
  have hrow : h.row? v.a (v.len * 2) = some (flat2 L) := by
    have := A.row (w := 2) rfl (K := fun l' _ => l' = eP.all L) rfl
    unfold rowW at this
    obtain ⟨l', q1, _, q2⟩ := this
    rw [q1, q2, flat2_all]
  refine ⟨L, A.len.symm, by omega, hrow, fun e => ?_, fun e cap' rest b' hcap hr hb' => ?_⟩
  · subst e
    exact hQ _ h Vec.nil0 New.nil0 (Ext.refl h)
  · refine hQ _ _ ⟨rfl, hcap, (fun e => by cases e), fun a ha => ?_⟩ ?_ (Ext.set hb')
    · cases ha
      refine ⟨rfl, _, set_same .., ?_, ?_⟩
      · rw [List.length_append, flat2_all, eP.all_len, hr]; simp only [eP]; omega
      · rw [List.drop_zero, flat2_all, List.take_left' (eP.all_len L)]
    · rintro b2 ⟨a, ha, rfl⟩
      cases ha; exact hb'
theorem sortF_spec {v : Sl} {L : List (Int × Int)} {h : H} (V : Vec h v eP L) (hL : L.length ≤ 1000000) {Q : Unit → HProp}
    (hQ : ∀ h', Vec h' v eP (L.mergeSort leP) → Fr v.on h h' → Q () h') : slices_SortFunc_api_Edge_api_Edge (v, ()) Q h := by
  unfold slices_SortFunc_api_Edge_api_Edge sortPW
  have A := V.arr
  have hrow : h.row? v.a (v.len * 2) = some (flat2 L) := by
    have := A.row (w := 2) rfl (K := fun l' _ => l' = eP.all L) rfl
    unfold rowW at this
    obtain ⟨l', q1, _, q2⟩ := this
    rw [q1, q2, flat2_all]
  have hsl : (L.mergeSort leP).length = L.length := (List.mergeSort_perm L leP).length_eq
  refine ⟨L, A.len.symm, by omega, hrow, fun e => ?_, fun e => ?_⟩
  · subst e
    exact hQ h (by simpa using V) (Fr.refl _ _)
  · cases ha : v.a with
    | none => exact absurd ha (A.ne e)
    | some a =>
    refine ⟨a, rfl, ?_⟩
    obtain ⟨k1, c, k2, k3, k4⟩ := V.blk a ha
    unfold storesW
    simp only [k2]
    have hlen : (flat2 (L.mergeSort leP)).length = L.length * 2 := by rw [flat2_all, eP.all_len, hsl]; rfl
    have hle : L.length ≤ v.cap := by rw [← V.len]; exact V.le
    have hw : eP.w = 2 := rfl
    rw [hw] at k3 k4
    rw [hlen]
    refine ⟨k1, by omega, hQ _ ⟨by rw [hsl]; exact V.len, V.le, V.nil, fun a' ha' => ?_⟩ (Fr.set.mono fun k hk => ⟨a, ha, hk.symm⟩)⟩
    rw [ha] at ha'; cases ha'
    refine ⟨k1, _, set_same .., ?_, ?_⟩
    · simp only [List.length_append, List.length_take, List.length_drop, hlen, hw]; omega
    · have h1 : (c.take a.off).length = a.off := by simp; omega
      rw [List.append_assoc, List.drop_left' h1, hsl, hw, List.take_left' hlen, flat2_all]

/-! ## Compact: nothing twice, or fewer -/
theorem compact_spec {v : Sl} {S : List (Int × Int)} {h : H} (V : Vec h v eP S) (hS : S.length ≤ 1000000) {Q : Sl → HProp}
    (h1 : (∀ j, (hj : j + 1 < S.length) → S[j + 1] ≠ S[j]) → Q v h)
    (h2 : ∀ u h' M, Arr h' u eP M → M.length < S.length → Fr v.on h h' → (∃ j, ∃ hj : j + 1 < S.length, S[j + 1] = S[j]) → Q u h') : slices_Compact_api_Edge_api_Edge v Q h := by
  unfold slices_Compact_api_Edge_api_Edge
  have A := V.arr
  simp only [A.len, ltI_eq]
  refine ite_i (fun hs => h1 fun j hj => by have : (S.length : Int) < 2 := (by simpa using hs); omega) fun hs => ?_
  have hs2 : 2 ≤ S.length := by have : ¬ ((S.length : Int) < 2) := (by simpa using hs); omega
  refine loop_i (fun (s : Int) h' => h' = h ∧ ∃ i : Nat, s = i ∧ 1 ≤ i ∧ i ≤ S.length ∧ ∀ j, (hj : j + 1 < i) → ∀ hl : j + 1 < S.length, S[j + 1] ≠ S[j]) (fun s => ((S.length : Int) - s).toNat) ⟨rfl, 1, rfl, Nat.le_refl _, by omega, fun j hj => by omega⟩ ?_
  rintro s h' ⟨rfl, i, rfl, hi1, hi, hp⟩ k hk
  refine ite_i (fun hlt => ?_) fun hge => h1 fun j hj => hp j (by have : ¬ (i < S.length) := (by simpa using hge); omega) hj
  have hlt : i < S.length := by simpa using hlt
  refine A.pair hlt ?_
  rw [show sub .i64 (i : Int) 1 = ((i - 1 : Nat) : Int) by rw [sub_i64 (by omega) (by omega)]; omega]
  refine A.pair (by omega) ?_
  rw [eqPairs2]
  refine ite_i (fun he => ?_) fun he => ?_
  · have he : S[i] = S[i - 1] := of_decide_eq_true he
    have hex : ∃ j, ∃ hj : j + 1 < S.length, S[j + 1] = S[j] := ⟨i - 1, by omega, by simpa [show i - 1 + 1 = i by omega] using he⟩
    have hcap : S.length ≤ v.cap := by rw [← A.len]; exact A.le
    unfold sliceW
    refine ⟨by omega, by omega, by omega, ?_⟩
    simp only [Int.toNat_natCast]
    refine loop_i (fun (p : Int × Int) h3 => ∃ (a b : Nat) (C : List (Int × Int)), p.1 = a ∧ p.2 = b ∧ 1 ≤ b ∧ i ≤ a ∧ a < i + b ∧ i + b ≤ S.length ∧ Vec h3 v eP C ∧ C.length = S.length ∧ Fr v.on h' h3) (fun p => ((S.length : Int) - p.2).toNat)
      ⟨i, 1, S, rfl, rfl, Nat.le_refl _, Nat.le_refl _, by omega, by omega, V, rfl, Fr.refl _ _⟩ ?_
    rintro ⟨a, b⟩ h3 ⟨a, b, C, rfl, rfl, hb1, hia, hab, hbl, V3, hC, F3⟩ k2 hk2
    simp only at *
    have U3 := V3.view (i := i) (by omega)
    rw [hC] at U3
    have hUl : (C.drop i).length = S.length - i := by simp [hC]
    have eb : add .i64 (b : Int) 1 = (b : Int) + 1 := add_i64 (by omega) (by omega)
    refine ite_i (fun hblt => ?_) fun hbge => ?_
    · have hblt : b < S.length - i := by
        have : (b : Int) < ((S.length - i : Nat) : Int) := by simpa using hblt
        omega
      refine with_u (U3.pair (by omega) ?_)
      rw [show sub .i64 (b : Int) 1 = ((b - 1 : Nat) : Int) by rw [sub_i64 (by omega) (by omega)]; omega]
      refine U3.pair (by omega) ?_
      rw [eb]
      refine ite_i (fun hx => ?_) fun hx => ?_
      · refine U3.pair (by omega) ?_
        refine V3.arr.index (by omega) (by omega) fun ad had => ?_
        refine V3.stores (E := eP) (i := a) (x := (C.drop i)[b]) (by simpa [eP] using had) (by omega) rfl fun h4 V4 F4 => ?_
        rw [add_i64 (by omega) (by omega)]
        exact hk2 _ _ ⟨a + 1, b + 1, _, by simp, by simp, by omega, by omega, by omega, by omega, V4, by simp [hC], F3.trans F4⟩ (by simp; omega)
      · exact hk2 _ _ ⟨a, b + 1, C, rfl, by simp, by omega, hia, by omega, by omega, V3, hC, F3⟩ (by simp; omega)
    · refine ⟨by omega, by omega, by omega, ?_⟩
      simp only [Int.toNat_natCast]
      have hne : v.a ≠ none := V3.arr.ne (by intro e; rw [e] at hC; simp at hC; omega)
      cases hva : v.a with
      | none => exact absurd hva hne
      | some ad =>
      obtain ⟨q1, c, q2, q3, q4⟩ := V3.blk ad hva
      have hw : eP.w = 2 := rfl
      rw [hw] at q3 q4
      rw [hC] at q4
      have hlast : ∀ h4, Arr h4 ⟨v.a, a, v.cap⟩ eP (C.take a) → Fr v.on h' h4 → sliceW v 2 0 (a : Int) Q h4 := fun h4 A4 F4 => by
        unfold sliceW
        refine ⟨by omega, by omega, by omega, ?_⟩
        have := h2 ⟨v.a, a, v.cap⟩ h4 (C.take a) A4 (by simp; omega) F4 hex
        simp only [Int.toNat_zero, Int.toNat_natCast, if_neg (show ¬ v.cap = 0 by omega), Nat.zero_mul, Nat.sub_zero]
        rw [hva] at this ⊢
        simp only [Option.map_some, add0]
        exact this
      unfold clearW
      by_cases hz : S.length - a = 0
      · rw [if_pos hz]
        omega
      · rw [if_neg hz]
        refine ⟨ad.add (a * 2), by rw [if_neg (by omega)]; rfl, ?_⟩
        rw [add_eq q1]
        unfold storesW
        simp only [q2]
        have hfl : (List.replicate (S.length - a) [Value.int IntKind.i64 0, Value.int IntKind.i64 0]).flatten.length = (S.length - a) * 2 := by simp
        rw [hfl]
        have A4 : Arr (h3.set ad.block (.cells (c.take (ad.off + a * 2) ++ (List.replicate (S.length - a) [Value.int IntKind.i64 0, Value.int IntKind.i64 0]).flatten ++ c.drop (ad.off + a * 2 + (S.length - a) * 2)) true)) ⟨v.a, a, v.cap⟩ eP (C.take a) := by
          refine ⟨by simp; omega, by simp; omega, (fun e => by rw [hva] at e; cases e), fun a' ha' _ => ?_⟩
          simp only [hva] at ha'
          cases ha'
          refine ⟨q1, _, _, set_same .., ?_, ?_⟩
          · simp only [List.length_append, List.length_take, List.length_drop, hfl, hw]; omega
          · have e1 : (C.take a).length = a := by simp; omega
            rw [e1, hw]
            have e2 : eP.all (C.take a) = ((c.drop ad.off).take (S.length * 2)).take (a * 2) := by
              have := eP.all_take C a
              rw [hw] at this
              rw [← this, ← q4]
            rw [e2, List.take_take, show min (a * 2) (S.length * 2) = a * 2 by omega]
            rw [List.append_assoc, List.drop_append_of_le_length (by simp; omega), List.take_append_of_le_length (by simp; omega), List.drop_take, List.take_take]
            congr 1
            omega
        refine ⟨trivial, by omega, ?_⟩
        have hl := hlast _ A4 (F3.trans (Fr.set.mono fun k hk => ⟨ad, hva, hk.symm⟩))
        unfold sliceW at hl
        rw [hva] at hl
        exact hl
  · rw [add_i64 (by omega) (by omega)]
    refine hk _ _ ⟨rfl, i + 1, by simp, by omega, by omega, fun j hj hl => ?_⟩ (by omega)
    by_cases e : j + 1 = i
    · have he : ¬ (S[i] = S[i - 1]) := of_decide_eq_false he
      subst e
      simpa using he
    · exact hp j (by omega) hl
end Go.Cz.S

namespace Go.Cz.S
set_option maxRecDepth 100000
set_option maxHeartbeats 1000000
set_option linter.unusedSimpArgs false
set_option linter.unusedVariables false

def badG (n : Int) (L : List (Int × Int)) : Bool := !(decide (1 ≤ n) && decide (n ≤ 256)) || L.any (badE n)
theorem rising_of {S : List (Int × Int)} (hp : S.Pairwise fun a b => leP a b = true) (hd : ∀ j, (hj : j + 1 < S.length) → S[j + 1] ≠ S[j]) : Rising S := by
  unfold Rising
  rw [List.pairwise_iff_getElem] at *
  intro i j hi hj hij
  have h1 := hp i (i + 1) hi (by omega) (by omega)
  have h2 := hd i (by omega)
  rw [ltP_iff']
  rw [leP_iff] at h1
  have hne : ¬ (S[i + 1].1 = S[i].1 ∧ S[i + 1].2 = S[i].2) := fun h => h2 (Prod.ext h.1 h.2)
  by_cases e : i + 1 = j
  · subst e; omega
  · have h3 := hp (i + 1) j (by omega) hj (by omega)
    rw [leP_iff] at h3
    omega
theorem rising_ne {S : List (Int × Int)} (h : Rising S) (j : Nat) (hj : j + 1 < S.length) : S[j + 1] ≠ S[j] := fun e => by
  have := (List.pairwise_iff_getElem.1 h) j (j + 1) (by omega) hj (by omega)
  rw [e, ltP_iff'] at this
  omega
theorem normal_spec {n : Int} {v : Sl} {L : List (Int × Int)} {h : H} (A : Arr h v eP L) (hL : L.length ≤ 4096) {Q : Sl × Int → HProp}
    (hbad : badG n L = true → ∀ h', Ext h h' → Q (Sl.mk none 0 0, 2) h')
    (hgood : badG n L = false → ∀ u M h', Arr h' u eP M → Ext h h' → (Rising L → M = L) → (M = L → Rising L) → Q (u, 0) h') : edges_Normal (n, v) Q h := by
  unfold edges_Normal
  refine Obj.new fun b h1 o1 n1 e1 => ?_
  refine with_b (badG n L) (fun k hk => ?_) ?_
  · refine loadI_i (n := n) (o1.ld0 rfl) (may_spec (ite_i (fun hm => ?_) fun hm => ?_))
    · have : badG n L = true := by unfold badG; rw [hm]; rfl
      rw [this] at hk; exact hk
    · have : badG n L = L.any (badE n) := by unfold badG; rw [hm]; rfl
      rw [this] at hk
      exact contains_spec (p := badE n) (A.ext e1) (by omega) (fun x Q hQ => bad_spec o1 hQ) hk
  · refine ite_i (fun hb => hbad hb h1 e1) fun hb => ?_
    unfold slices_Values_api_Edge_api_Edge slices_SortedFunc_api_Edge
    refine Obj.new fun b2 h2 o2 n2 e2 => ?_
    refine collect_spec ((A.ext e1).ext e2) (by omega) o2 fun u h3 V3 N3 E3 => ?_
    refine sortF_spec V3 (by omega) fun h4 V4 F4 => ?_
    have N3' : New h u := fun b hb => e1.none (e2.none (N3 b hb))
    have E4 : Ext h h4 := ((e1.trans e2).trans E3).of_new F4 N3'
    have hsl : (L.mergeSort leP).length = L.length := (List.mergeSort_perm L leP).length_eq
    refine compact_spec V4 (by omega) (fun hd => ?_) fun u5 h5 M A5 hM F5 hex => ?_
    · refine ite_f (by simp only [ltI_eq, V4.len, decide_eq_false_iff_not]; omega) ?_
      refine hgood hb u _ h4 V4.arr E4 (fun h => sort_rising h) fun he => ?_
      have := rising_of (sort_le L) hd
      rwa [he] at this
    · refine ite_f (by simp only [ltI_eq, A5.len, decide_eq_false_iff_not]; omega) ?_
      refine hgood hb u5 M h5 A5 (E4.of_new F5 N3') (fun h => ?_) fun he => ?_
      · obtain ⟨j, hj, he⟩ := hex
        have := rising_ne h
        rw [← sort_rising h] at this
        exact absurd he (this j hj)
      · rw [he] at hM; omega
theorem equal_spec {a b : Sl} {L M : List (Int × Int)} {h : H} (A : Arr h a eP L) (B : Arr h b eP M) (hL : L.length ≤ 1000000) {Q : Bool → HProp} (hQ : Q (decide (L = M)) h) : slices_Equal_api_Edge_api_Edge (a, b) Q h := by
  unfold slices_Equal_api_Edge_api_Edge
  simp only [A.len, B.len, ltI_eq, eqI_eq]
  refine ite_i (fun hne => ?_) fun heq => ?_
  · have : ¬ (L = M) := fun e => by subst e; simp at hne
    rw [decide_eq_false this] at hQ; exact hQ
  · have heq : L.length = M.length := by have : (L.length : Int) = M.length := (by simpa using heq); omega
    refine loop_i (fun (s : Int) h' => h' = h ∧ ∃ i : Nat, s = i ∧ i ≤ L.length ∧ ∀ j, (hj : j < i) → ∀ hl : j < L.length, ∀ hm : j < M.length, L[j] = M[j]) (fun s => ((L.length : Int) - s).toNat) ⟨rfl, 0, rfl, Nat.zero_le _, fun j hj => by omega⟩ ?_
    rintro s h' ⟨rfl, i, rfl, hi, hp⟩ k hk
    refine ite_i (fun hlt => ?_) fun hge => ?_
    · have hlt : i < L.length := by simpa using hlt
      refine A.pair hlt (B.pair (by omega) ?_)
      rw [eqPairs2]
      refine ite_i (fun hne => ?_) fun he => ?_
      · have hne : ¬ (L[i] = M[i]) := by
          rw [Bool.not_eq_true'] at hne
          exact of_decide_eq_false hne
        have : ¬ (L = M) := fun e => by subst e; exact hne rfl
        rw [decide_eq_false this] at hQ; exact hQ
      · have he : L[i] = M[i] := by
          rw [Bool.not_eq_false'] at he
          exact of_decide_eq_true he
        rw [add_i64 (by omega) (by omega)]
        refine hk _ _ ⟨rfl, i + 1, by simp, by omega, fun j hj hl hm => ?_⟩ (by omega)
        by_cases e : j = i
        · subst e; exact he
        · exact hp j (by omega) hl hm
    · have hi : i = L.length := by have : ¬ (i < L.length) := (by simpa using hge); omega
      have : L = M := List.ext_getElem heq fun j h1 h2 => hp j (by omega) h1 h2
      rw [decide_eq_true this] at hQ; exact hQ
/-- the edges of a graph of n vertices, as they should be -/
def Valid (n : Int) (L : List (Int × Int)) : Prop := badG n L = false ∧ Rising L
theorem Valid.n {n : Int} {L : List (Int × Int)} (v : Valid n L) : 1 ≤ n ∧ n ≤ 256 := by
  have h := v.1
  unfold badG at h
  rw [Bool.or_eq_false_iff] at h
  have := h.1
  simp at this
  exact this
theorem Valid.e {n : Int} {L : List (Int × Int)} (v : Valid n L) : ∀ e ∈ L, 0 ≤ e.1 ∧ e.1 < n ∧ 0 ≤ e.2 ∧ e.2 < n := fun e he => by
  have h := v.1
  unfold badG at h
  rw [Bool.or_eq_false_iff] at h
  have h2 := List.any_eq_false.1 h.2 e he
  unfold badE at h2
  simp at h2
  omega
theorem run_spec {n : Int} {v : Sl} {L : List (Int × Int)} {kind arg prio need : Int} {h : H} (A : Arr h v eP L) (hL : L.length ≤ 4096) {Q : Sl × Int × Int → HProp}
    (hno : ¬ (Valid n L ∧ okReq kind arg prio n = true) → ∀ h', Ext h h' → Q (Sl.mk none 0 0, 0, 2) h')
    (hyes : Valid n L → okReq kind arg prio n = true → ∀ r m h' outL, Vec h' r (eI .u64) outL → outL.length = n.toNat → New h r → Ext h h' → 1 ≤ m → m ≤ 300 → (kind = 2 → m = arg) → Q (r, m, 0) h') :
    truth_run (n, v, kind, arg, prio, need) Q h := by
  unfold truth_run
  simp only [eqI_eq]
  refine normal_spec A hL (fun hb h1 e1 => ?_) fun hb u M h1 A1 e1 hr1 hr2 => ?_
  · refine with_u (with_u (ite_f rfl (ite_f rfl ?_)))
    refine with_u (ite_f rfl (ite_t rfl (hno (fun hv => ?_) h1 e1)))
    rw [hv.1.1] at hb; cases hb
  · refine with_u (with_u (ite_t rfl (equal_spec (A.ext e1) A1 (by omega) (ite_i (fun hne => ?_) fun heq => ?_))))
    · have hne : ¬ (L = M) := by
        rw [Bool.not_eq_true'] at hne
        exact of_decide_eq_false hne
      refine with_u (ite_f rfl (ite_t rfl (hno (fun hv => ?_) h1 e1)))
      exact hne (hr1 hv.1.2).symm
    · have heq : L = M := by
        rw [Bool.not_eq_false'] at heq
        exact of_decide_eq_true heq
      have hv : Valid n L := ⟨hb, hr2 heq.symm⟩
      refine with_u (ite_t rfl (check_spec ?_))
      by_cases hok : okReq kind arg prio n = true
      · rw [if_pos hok]
        refine ite_f rfl ?_
        obtain ⟨n1, n2⟩ := hv.n
        obtain ⟨m, rfl⟩ : ∃ m : Nat, n = m := ⟨n.toNat, by omega⟩
        refine of_spec (by omega) (by omega) (A.ext e1) hL hv.e fun vo va h2 Ro Ra e2 => ?_
        have E2 := e1.trans e2
        have hy := hyes hv hok
        simp only [eqI_eq, Int.toNat_natCast] at hy ⊢
        unfold okReq at hok
        refine ite_i (fun k1 => ?_) fun k1 => ite_i (fun k2 => ?_) fun k2 => ite_i (fun k3 => ?_) fun k3 => ?_
        · have k1 : kind = 1 := by simpa using k1
          subst k1
          simp at hok
          obtain ⟨a, rfl⟩ : ∃ a : Nat, arg = a := ⟨arg.toNat, by omega⟩
          refine far_spec (by omega) (by omega) (by omega) Ro fun r h3 outL V3 hl3 hd3 N3 E3 => ?_
          refine greatest_spec V3.arr (by omega) hd3 fun g g0 g1 => ?_
          rw [add_i64 (by omega) (by omega)]
          exact hy r _ h3 outL V3 hl3 (fun b hb => E2.none (N3 b hb)) (E2.trans E3) (by omega) (by omega) (fun e => by cases e)
        · have k2 : kind = 2 := by simpa using k2
          subst k2
          simp at hok
          refine rank_spec (by omega) (by omega) (by omega) Ro fun r h3 outL V3 hl3 N3 E3 => ?_
          exact hy r _ h3 outL V3 hl3 (fun b hb => E2.none (N3 b hb)) (E2.trans E3) (by omega) (by omega) (fun _ => rfl)
        · have k3 : kind = 3 := by simpa using k3
          subst k3
          refine labels_spec (by omega) (by omega) Ra fun r g h3 outL V3 hl3 g0 g1 N3 E3 => ?_
          simp only []
          rw [add_i64 (by omega) (by omega)]
          exact hy r _ h3 outL V3 hl3 (fun b hb => E2.none (N3 b hb)) (E2.trans E3) (by omega) (by omega) (fun e => by cases e)
        · have k2 : ¬ kind = 2 := by simpa using k2
          refine cores_spec (by omega) (by omega) Ra fun r g h3 outL V3 hl3 g0 g1 N3 E3 => ?_
          simp only []
          rw [add_i64 (by omega) (by omega)]
          exact hy r _ h3 outL V3 hl3 (fun b hb => E2.none (N3 b hb)) (E2.trans E3) (by omega) (by omega) (fun e => absurd e k2)
      · rw [if_neg hok]
        exact ite_t rfl (hno (fun h => hok h.2) h1 e1)
end Go.Cz.S

namespace Go.Cz
set_option maxRecDepth 100000
set_option maxHeartbeats 1000000
set_option linter.unusedSimpArgs false
set_option linter.unusedVariables false

/-! ## a table's jobs -/
structure Ent where
  kind : Int
  arg : Int
  prio : Int
  need : Int
  state : Int
  code : Int
  takes : Int
  round : Int
  had : Int
  ticks : Int
  att : Bool
  exp : Bool
def Ent.cells (e : Ent) : List Value := [.int .i64 e.kind, .int .i64 e.arg, .int .i64 e.prio, .int .i64 e.need, .int .i64 e.state, .int .i64 e.code, .int .i64 e.takes, .int .i64 e.round, .int .i64 e.had, .int .i64 e.ticks, .bool e.att, .bool e.exp, .slice none 0 0]
def eE : Enc Ent := ⟨13, Ent.cells, fun _ => rfl, fun e v hv => by
  simp only [Ent.cells, List.mem_cons, List.not_mem_nil, or_false] at hv
  rcases hv with rfl | rfl | rfl | rfl | rfl | rfl | rfl | rfl | rfl | rfl | rfl | rfl | rfl <;> trivial, by decide⟩
structure Cfg where
  n : Int
  k : Int
  tot : Int
  L : List (Int × Int)
theorem Arr.frn {α : Type} {S : Nat → Prop} {h h' : H} {v : Sl} {E : Enc α} {l : List α} (A : Arr h v E l) (f : Fr S h h') (hs : l ≠ [] → ∀ b, v.on b → ¬ S b) : Arr h' v E l := by
  refine ⟨A.len, A.le, A.nil, fun a ha hl => ?_⟩
  obtain ⟨h1, c, wr, h2, h3⟩ := A.blk a ha hl
  exact ⟨h1, c, wr, f _ _ h2 (hs hl _ ⟨a, ha, rfl⟩), h3⟩
theorem Arr.there {α : Type} {h : H} {v : Sl} {E : Enc α} {l : List α} (A : Arr h v E l) (hl : l ≠ []) {b : Nat} (hb : v.on b) : ∃ o, h b = some o := by
  obtain ⟨a, ha, rfl⟩ := hb
  obtain ⟨_, c, wr, h2, _⟩ := A.blk a ha hl
  exact ⟨_, h2⟩
structure Tab (h : H) (b : Nat) (lv av : Sl) (c : Cfg) (pos : Int) (all : List Ent) : Prop where
  ob : Obj h b [.int .i64 c.n, .int .i64 c.k, .int .i64 c.tot, .slice lv.a lv.len lv.cap, .int .i64 pos, .slice av.a av.len av.cap]
  al : Arr h lv eP c.L
  va : Vec h av eE all
  lb : c.L ≠ [] → ∀ x, lv.on x → x ≠ b ∧ ¬ av.on x
  ab : ¬ av.on b
/-- what it may write -/
def own (b : Nat) (av : Sl) : Nat → Prop := fun x => x = b ∨ av.on x
section
variable {h h' : H} {b : Nat} {lv av : Sl} {c : Cfg} {pos : Int} {all : List Ent}
theorem Tab.ext (T : Tab h b lv av c pos all) (e : Ext h h') : Tab h' b lv av c pos all := ⟨T.ob.ext e, T.al.ext e, T.va.ext e, T.lb, T.ab⟩
theorem Tab.fr {S : Nat → Prop} (T : Tab h b lv av c pos all) (f : Fr S h h') (h1 : ¬ S b) (h2 : ∀ x, av.on x → ¬ S x) (h3 : c.L ≠ [] → ∀ x, lv.on x → ¬ S x) : Tab h' b lv av c pos all := ⟨T.ob.fr f h1, T.al.frn f h3, T.va.fr f h2, T.lb, T.ab⟩
def Apart (b : Nat) (lv av : Sl) (c : Cfg) (x : Nat) : Prop := x ≠ b ∧ ¬ av.on x ∧ (c.L ≠ [] → ¬ lv.on x)
theorem Tab.apart (T : Tab h b lv av c pos all) {x : Nat} (hx : h x = none) : Apart b lv av c x :=
  ⟨fun e => (by subst e; have := T.ob; unfold Obj at this; rw [hx] at this; cases this), fun ho => (by obtain ⟨o, ho⟩ := T.va.there ho; rw [hx] at ho; cases ho), fun hl ho => by obtain ⟨o, ho⟩ := T.al.there hl ho; rw [hx] at ho; cases ho⟩
theorem Tab.frb (T : Tab h b lv av c pos all) {x : Nat} (hx : Apart b lv av c x) (f : Fr (fun k => k = x) h h') : Tab h' b lv av c pos all :=
  T.fr f (fun e => hx.1 e.symm) (fun y hy e => hx.2.1 (e ▸ hy)) (fun hl y hy e => hx.2.2 hl (e ▸ hy))
theorem Tab.cell (T : Tab h b lv av c pos all) {i j : Nat} {a : Addr} {e : Ent} {y : Value} (hs : Slot av i 13 a) (hi : all[i]? = some e) (hy : e.cells[j]? = some y) : h.cell? (a.add j) = some y :=
  T.va.arr.cell (E := eE) (i := i) (j := j) hs hi hy
theorem Tab.st (T : Tab h b lv av c pos all) {i j : Nat} {a : Addr} {e e' : Ent} {y : Value} (hs : Slot av i 13 a) (hi : all[i]? = some e) (hj : j < 13) (he : e'.cells = e.cells.set j y) {K : HProp}
    (hK : ∀ h', Tab h' b lv av c pos (all.set i e') → Fr (own b av) h h' → K h') : storeW (a.add j) y K h := by
  refine T.va.store (E := eE) (i := i) (j := j) (x := e) (x' := e') hs hi hj he fun h1 V1 F1 => hK h1 ?_ (F1.mono fun k hk => .inr hk)
  exact ⟨T.ob.fr F1 T.ab, T.al.frn F1 (fun hl x hx => (T.lb hl x hx).2), V1, T.lb, T.ab⟩
theorem Tab.all_ld (T : Tab h b lv av c pos all) {K : Sl → HProp} (hK : K av h) : derefW (some (at0 b)) (fun a => loadL (a.add 5) K) h := deref_i (loadL_i (T.ob.ld (j := 5) rfl) hK)
theorem Tab.index (T : Tab h b lv av c pos all) {i : Nat} (hi : i < all.length) {K : Addr → HProp} (hK : ∀ a, Slot av i 13 a → K a h) : indexW (i : Int) av 13 K h :=
  T.va.arr.index (by omega) (by omega) fun a ha => hK a (by simpa [eE] using ha)
end
/-- the numbers of those that are so, of the first i -/
def hit (p : Ent → Bool) (all : List Ent) (j : Nat) : Bool := match all[j]? with | some e => p e | none => false
def idsT (p : Ent → Bool) (all : List Ent) (i : Nat) : List Int := ((List.range i).filter (hit p all)).map fun (j : Nat) => ((j : Int) + 1)
def ids (p : Ent → Bool) (all : List Ent) : List Int := idsT p all all.length
theorem idsT_succ (p : Ent → Bool) (all : List Ent) (i : Nat) : idsT p all (i + 1) = idsT p all i ++ (if hit p all i then [(i : Int) + 1] else []) := by
  unfold idsT
  rw [List.range_succ, List.filter_append, List.map_append]
  congr 1
  by_cases h : hit p all i <;> simp [h]
theorem idsT_len (p : Ent → Bool) (all : List Ent) (i : Nat) : (idsT p all i).length ≤ i := by
  unfold idsT
  rw [List.length_map]
  exact Nat.le_trans (List.length_filter_le _ _) (by simp)
theorem ids_len (p : Ent → Bool) (all : List Ent) : (ids p all).length ≤ all.length := idsT_len p all _
theorem mem_ids {p : Ent → Bool} {all : List Ent} {x : Int} (h : x ∈ ids p all) : ∃ j e, x = ((j + 1 : Nat) : Int) ∧ j < all.length ∧ all[j]? = some e ∧ p e = true := by
  unfold ids idsT at h
  obtain ⟨j, hj, rfl⟩ := List.mem_map.1 h
  obtain ⟨h1, h2⟩ := List.mem_filter.1 hj
  unfold hit at h2
  split at h2
  · rename_i e he
    exact ⟨j, e, by simp, (List.getElem?_eq_some_iff.1 he).1, he, h2⟩
  · cases h2
theorem ids_mem {p : Ent → Bool} {all : List Ent} {j : Nat} {e : Ent} (he : all[j]? = some e) (hp : p e = true) : ((j + 1 : Nat) : Int) ∈ ids p all := by
  unfold ids idsT
  refine List.mem_map.2 ⟨j, List.mem_filter.2 ⟨by simp; exact (List.getElem?_eq_some_iff.1 he).1, ?_⟩, by simp⟩
  unfold hit
  rw [he]; exact hp
/-- the entry of a number is turned -/
def upd (f : Ent → Ent) (all : List Ent) (id : Int) : List Ent := match all[(id - 1).toNat]? with | some e => all.set (id - 1).toNat (f e) | none => all
theorem upd_len (f : Ent → Ent) (all : List Ent) (id : Int) : (upd f all id).length = all.length := by unfold upd; split <;> simp
theorem foldl_len (f : Ent → Ent) : ∀ (l : List Int) (all : List Ent), (l.foldl (upd f) all).length = all.length
  | [], all => rfl
  | x :: r, all => by rw [List.foldl_cons, foldl_len f r, upd_len]
theorem upd_at (f : Ent → Ent) {all : List Ent} {j : Nat} {e : Ent} (he : all[j]? = some e) : upd f all ((j + 1 : Nat) : Int) = all.set j (f e) := by
  unfold upd
  rw [show (((j + 1 : Nat) : Int) - 1).toNat = j by omega, he]
theorem foldl_take {α β : Type} (f : β → α → β) (a : β) (l : List α) (j : Nat) (hj : j < l.length) : (l.take (j + 1)).foldl f a = f ((l.take j).foldl f a) l[j] := by
  rw [List.take_add_one, List.getElem?_eq_getElem hj, List.foldl_append]; rfl
end Go.Cz
namespace Go.Cz.S
set_option maxRecDepth 100000
set_option maxHeartbeats 1000000
set_option linter.unusedSimpArgs false
set_option linter.unusedVariables false
section
variable {h : H} {b : Nat} {lv av : Sl} {c : Cfg} {pos : Int} {all : List Ent}
theorem none_spec (T : Tab h b lv av c pos all) (hn : 1 ≤ c.n) {Q : Bool → HProp} (hQ : Q false h) : table_Table_none (some (at0 b)) Q h := by
  unfold table_Table_none
  simp only [eqI_eq]
  refine with_u (ite_f (isNilP_some _) (deref_i (loadI_i (T.ob.ld (j := 0) rfl) ?_)))
  rw [decide_eq_false (by omega)]; exact hQ
theorem none_nil {Q : Bool → HProp} (hQ : Q true h) : table_Table_none none Q h := by
  unfold table_Table_none
  exact with_u (ite_t isNilP_none hQ)
abbrev EntF := (Int × Int × Int × Int × Int × Int × Int × Int × Int × Int × Bool × Bool × Sl) → ((Bool) → HProp) → HProp
def Does (f : EntF) (p : Ent → Bool) : Prop := ∀ (e : Ent) (Q : Bool → HProp) (h : H), Q (p e) h → f (e.kind, e.arg, e.prio, e.need, e.state, e.code, e.takes, e.round, e.had, e.ticks, e.att, e.exp, ⟨none, 0, 0⟩) Q h
def isQ (e : Ent) : Bool := decide (e.state = 1)
def isA (e : Ent) : Bool := e.att
def isX (e : Ent) : Bool := e.exp
theorem those_spec (T : Tab h b lv av c pos all) (hl : all.length ≤ 1000000) {f : EntF} {p : Ent → Bool} (hf : Does f p) {Q : Sl → HProp}
    (hQ : ∀ r h', Vec h' r (eI .i64) (ids p all) → New h r → Ext h h' → Q r h') : table_Table_those (some (at0 b), f) Q h := by
  unfold table_Table_those
  refine T.all_ld ?_
  have hav : av.len = all.length := T.va.len
  simp only [hav, ltI_eq]
  refine loop_i (fun (s : Sl × Int) h' => ∃ i : Nat, s.2 = i ∧ i ≤ all.length ∧ Vec h' s.1 (eI .i64) (idsT p all i) ∧ New h s.1 ∧ Ext h h') (fun s => ((all.length : Int) - s.2).toNat) ⟨0, rfl, Nat.zero_le _, Vec.nil0, New.nil0, Ext.refl h⟩ ?_
  rintro ⟨r, i⟩ h' ⟨i, rfl, hi, V, N, E⟩ k hk
  simp only at *
  refine ite_i (fun hlt => ?_) fun hge => ?_
  · have hlt : i < all.length := by simpa using hlt
    refine with_u ?_
    have T' := T.ext E
    refine T'.index hlt fun a ha => ?_
    have he : all[i]? = some all[i] := List.getElem?_eq_getElem hlt
    have cc := fun (j : Nat) (y : Value) (hy : all[i].cells[j]? = some y) => T'.cell (j := j) ha he hy
    refine loadI_i (cc 0 _ rfl) (loadI_i (cc 1 _ rfl) (loadI_i (cc 2 _ rfl) (loadI_i (cc 3 _ rfl) (loadI_i (cc 4 _ rfl) (loadI_i (cc 5 _ rfl) (loadI_i (cc 6 _ rfl) (loadI_i (cc 7 _ rfl) (loadI_i (cc 8 _ rfl) (loadI_i (cc 9 _ rfl) (loadB_i (cc 10 _ rfl) (loadB_i (cc 11 _ rfl) (loadL_i (v := ⟨none, 0, 0⟩) (cc 12 _ rfl) ?_))))))))))))
    refine hf _ _ _ ?_
    have hh : hit p all i = p all[i] := by unfold hit; rw [he]
    refine ite_i (fun hp => ?_) fun hp => ?_
    · rw [show add .i64 (i : Int) 1 = (i : Int) + 1 from add_i64 (by omega) (by omega)]
      have hlen := idsT_len p all i
      refine V.append_new E N (m := [(i : Int) + 1]) rfl (by simp [eI_all]) rfl (by omega) fun u h2 V2 E2 N2 F2 _ => ?_
      refine hk _ _ ⟨i + 1, by simp, by omega, ?_, N2, E2⟩ (by simp; omega)
      rw [idsT_succ, hh, hp]; exact V2
    · rw [show add .i64 (i : Int) 1 = (i : Int) + 1 from add_i64 (by omega) (by omega)]
      refine hk _ _ ⟨i + 1, by simp, by omega, ?_, N, E⟩ (by simp; omega)
      rw [idsT_succ, hh, hp]
      simpa using V
  · have : i = all.length := by have : ¬ (i < all.length) := (by simpa using hge); omega
    subst this
    exact hQ r h' V N E
theorem does_queued : Does (fun t => table_queued (t.fst, t.snd.fst, t.snd.snd.fst, t.snd.snd.snd.fst, t.snd.snd.snd.snd.fst, t.snd.snd.snd.snd.snd.fst, t.snd.snd.snd.snd.snd.snd.fst, t.snd.snd.snd.snd.snd.snd.snd.fst, t.snd.snd.snd.snd.snd.snd.snd.snd.fst, t.snd.snd.snd.snd.snd.snd.snd.snd.snd.fst, t.snd.snd.snd.snd.snd.snd.snd.snd.snd.snd.fst, t.snd.snd.snd.snd.snd.snd.snd.snd.snd.snd.snd.fst, t.snd.snd.snd.snd.snd.snd.snd.snd.snd.snd.snd.snd)) isQ := fun e Q h hQ => by
  unfold table_queued
  simp only [eqI_eq]
  exact hQ
theorem does_attached : Does (fun t => table_attached (t.fst, t.snd.fst, t.snd.snd.fst, t.snd.snd.snd.fst, t.snd.snd.snd.snd.fst, t.snd.snd.snd.snd.snd.fst, t.snd.snd.snd.snd.snd.snd.fst, t.snd.snd.snd.snd.snd.snd.snd.fst, t.snd.snd.snd.snd.snd.snd.snd.snd.fst, t.snd.snd.snd.snd.snd.snd.snd.snd.snd.fst, t.snd.snd.snd.snd.snd.snd.snd.snd.snd.snd.fst, t.snd.snd.snd.snd.snd.snd.snd.snd.snd.snd.snd.fst, t.snd.snd.snd.snd.snd.snd.snd.snd.snd.snd.snd.snd)) isA := fun e Q h hQ => by
  unfold table_attached
  exact hQ
theorem does_expected : Does (fun t => table_expected (t.fst, t.snd.fst, t.snd.snd.fst, t.snd.snd.snd.fst, t.snd.snd.snd.snd.fst, t.snd.snd.snd.snd.snd.fst, t.snd.snd.snd.snd.snd.snd.fst, t.snd.snd.snd.snd.snd.snd.snd.fst, t.snd.snd.snd.snd.snd.snd.snd.snd.fst, t.snd.snd.snd.snd.snd.snd.snd.snd.snd.fst, t.snd.snd.snd.snd.snd.snd.snd.snd.snd.snd.fst, t.snd.snd.snd.snd.snd.snd.snd.snd.snd.snd.snd.fst, t.snd.snd.snd.snd.snd.snd.snd.snd.snd.snd.snd.snd)) isX := fun e Q h hQ => by
  unfold table_expected
  exact hQ
def needAt (all : List Ent) (id : Int) : Int := match all[(id - 1).toNat]? with | some e => e.need | none => 0
def usedF (all : List Ent) : Int := (ids isA all).foldl (fun n id => add .i64 n (needAt all id)) 0
theorem used_spec (T : Tab h b lv av c pos all) (hn : 1 ≤ c.n) (hl : all.length ≤ 1000000) {Q : Int → HProp} (hQ : ∀ h', Ext h h' → Q (usedF all) h') : table_Table_Used (some (at0 b)) Q h := by
  unfold table_Table_Used
  refine none_spec T hn (ite_f rfl (those_spec T hl does_attached fun r h1 V1 N1 E1 => ?_))
  simp only [V1.len, ltI_eq]
  have hlen := ids_len isA all
  refine loop_i (fun (s : Int × Int) h' => h' = h1 ∧ ∃ j : Nat, s.2 = j ∧ j ≤ (ids isA all).length ∧ s.1 = ((ids isA all).take j).foldl (fun n id => add .i64 n (needAt all id)) 0) (fun s => (((ids isA all).length : Int) - s.2).toNat) ⟨rfl, 0, rfl, Nat.zero_le _, rfl⟩ ?_
  rintro ⟨m, j⟩ h' ⟨rfl, j, rfl, hj, rfl⟩ k hk
  simp only at *
  refine ite_i (fun hlt => ?_) fun hge => ?_
  · have hlt : j < (ids isA all).length := by simpa using hlt
    refine V1.arr.num hlt ?_
    have T1 := T.ext E1
    refine T1.all_ld ?_
    obtain ⟨i, e, hx, hi, he, _⟩ := mem_ids (List.getElem_mem hlt)
    rw [hx, show sub .i64 ((i + 1 : Nat) : Int) 1 = (i : Int) by rw [sub_i64 (by omega) (by omega)]; omega]
    refine T1.index hi fun a ha => ?_
    rw [add0]
    refine loadI_i (T1.cell (j := 3) ha he rfl) ?_
    rw [show add .i64 (j : Int) 1 = (j : Int) + 1 from add_i64 (by omega) (by omega)]
    refine hk _ _ ⟨rfl, j + 1, by simp, by omega, ?_⟩ (by simp; omega)
    rw [foldl_take _ _ _ _ hlt, hx]
    congr 1
    unfold needAt
    rw [show (((i + 1 : Nat) : Int) - 1).toNat = i by omega, he]
  · have : j = (ids isA all).length := by have : ¬ (j < (ids isA all).length) := (by simpa using hge); omega
    subst this
    rw [List.take_length]
    exact hQ _ E1
def endE (s cd : Int) (e : Ent) : Ent := { e with state := s, code := cd, att := false, exp := false }
theorem ends_spec (T : Tab h b lv av c pos all) {i : Nat} {a : Addr} {e : Ent} (hs : Slot av i 13 a) (he : all[i]? = some e) {s cd : Int} {Q : Unit → HProp}
    (hQ : ∀ h', Tab h' b lv av c pos (all.set i (endE s cd e)) → Fr (own b av) h h' → Q () h') : table_entry_ends (some a, s, cd) Q h := by
  have hlt := (List.getElem?_eq_some_iff.1 he).1
  have up : ∀ (l : List Ent) (x : Ent), l.length = all.length → (l.set i x)[i]? = some x := fun l x hl => by simp [hl, hlt]
  unfold table_entry_ends
  refine deref_i (T.st (e' := { e with state := s }) hs he (by decide) rfl fun h1 T1 F1 => ?_)
  refine deref_i (T1.st (e' := { e with state := s, code := cd }) hs (up _ _ rfl) (by decide) rfl fun h2 T2 F2 => ?_)
  refine deref_i (T2.st (e' := { e with state := s, code := cd, att := false }) hs (up _ _ (by simp)) (by decide) rfl fun h3 T3 F3 => ?_)
  refine deref_i (T3.st (e' := endE s cd e) hs (up _ _ (by simp)) (by decide) rfl fun h4 T4 F4 => ?_)
  refine hQ h4 ?_ (((F1.trans F2).trans F3).trans F4)
  simpa using T4
def findE_ (all : List Ent) (id : Int) : Int := if id < 1 ∨ (all.length : Int) < id then 4 else 0
theorem find_spec (T : Tab h b lv av c pos all) (hn : 1 ≤ c.n) (hl : all.length ≤ 1000000) {id : Int} {Q : Option Addr × Int → HProp}
    (hno : (id < 1 ∨ (all.length : Int) < id) → Q (none, 4) h) (hyes : ∀ i e a, id = ((i + 1 : Nat) : Int) → i < all.length → all[i]? = some e → Slot av i 13 a → Q (some a, 0) h) : table_Table_find (some (at0 b), id) Q h := by
  unfold table_Table_find
  simp only [ltI_eq]
  refine none_spec T hn (ite_f rfl (with_u (ite_i (fun h1 => ?_) fun h1 => T.all_ld ?_)))
  · exact ite_t rfl (hno (.inl (by simpa using h1)))
  · have h1 : ¬ (id < 1) := by simpa using h1
    have hav : av.len = all.length := T.va.len
    rw [hav]
    refine ite_i (fun h2 => hno (.inr (by simpa using h2))) fun h2 => T.all_ld ?_
    have h2 : ¬ ((all.length : Int) < id) := by simpa using h2
    obtain ⟨i, rfl⟩ : ∃ i : Nat, id = ((i + 1 : Nat) : Int) := ⟨(id - 1).toNat, by omega⟩
    have hi : i < all.length := by omega
    rw [show sub .i64 ((i + 1 : Nat) : Int) 1 = (i : Int) by rw [sub_i64 (by omega) (by omega)]; omega]
    exact T.index hi fun a ha => hyes i _ a rfl hi (List.getElem?_eq_getElem hi) ha
end
end Go.Cz.S

namespace Go.Cz
set_option linter.unusedVariables false
theorem Obj.sts {h : H} {b : Nat} {cs vs : List Value} {K : HProp} (o : Obj h b cs) (hl : vs.length = cs.length) (hK : ∀ h', Obj h' b vs → Fr (fun k => k = b) h h' → K h') : storesW (Addr.mk b 0 none) vs K h := by
  unfold storesW
  unfold Obj at o
  simp only [o]
  refine ⟨trivial, by omega, hK _ ?_ Fr.set⟩
  have : cs.take 0 ++ vs ++ cs.drop (0 + vs.length) = vs := by simp [hl]
  rw [this]
  exact set_same ..
end Go.Cz
namespace Go.Cz.S
set_option maxRecDepth 100000
set_option maxHeartbeats 1000000
set_option linter.unusedSimpArgs false
set_option linter.unusedVariables false
section
variable {h : H} {b : Nat} {lv av : Sl} {c : Cfg} {pos : Int} {all : List Ent}
def getE (all : List Ent) (id : Int) : Option Ent := if id < 1 then none else all[(id - 1).toNat]?
theorem getE_no {id : Int} (h : id < 1 ∨ (all.length : Int) < id) : getE all id = none := by
  unfold getE
  split
  · rfl
  · exact List.getElem?_eq_none (by omega)
theorem getE_yes {i : Nat} {e : Ent} (he : all[i]? = some e) : getE all ((i + 1 : Nat) : Int) = some e := by
  unfold getE
  rw [if_neg (by omega), show (((i + 1 : Nat) : Int) - 1).toNat = i by omega, he]
def pollF (all : List Ent) (id : Int) : Int × Int × Int × Int := match getE all id with | some e => (e.state, e.round, e.code, 0) | none => (0, 0, 0, 4)
theorem poll_spec (T : Tab h b lv av c pos all) (hn : 1 ≤ c.n) (hl : all.length ≤ 1000000) {id : Int} {Q : Int × Int × Int × Int → HProp} (hQ : Q (pollF all id) h) : table_Table_Poll (some (at0 b), id) Q h := by
  unfold table_Table_Poll
  simp only [eqI_eq]
  unfold pollF at hQ
  refine find_spec T hn hl (fun hx => ?_) fun i e a hid hi he ha => ?_
  · rw [getE_no hx] at hQ
    exact ite_t rfl hQ
  · subst hid
    rw [getE_yes he] at hQ
    exact ite_f rfl (deref_i (loadI_i (T.cell (j := 4) ha he rfl) (deref_i (loadI_i (T.cell (j := 7) ha he rfl) (deref_i (loadI_i (T.cell (j := 5) ha he rfl) hQ))))))
def cancelF (all : List Ent) (id : Int) : Int × List Ent := match getE all id with
  | some e => if e.state ≠ 1 ∧ e.state ≠ 2 then (270, all) else (0, all.set (id - 1).toNat (endE 4 0 e))
  | none => (4, all)
theorem cancel_spec (T : Tab h b lv av c pos all) (hn : 1 ≤ c.n) (hl : all.length ≤ 1000000) {id : Int} {Q : Int → HProp}
    (hQ : ∀ h', Tab h' b lv av c pos (cancelF all id).2 → Fr (own b av) h h' → Q (cancelF all id).1 h') : table_Table_Cancel (some (at0 b), id) Q h := by
  unfold table_Table_Cancel
  simp only [eqI_eq]
  unfold cancelF at hQ
  refine find_spec T hn hl (fun hx => ?_) fun i e a hid hi he ha => ?_
  · rw [getE_no hx] at hQ
    exact ite_t rfl (hQ h T (Fr.refl _ _))
  · subst hid
    rw [getE_yes he] at hQ
    simp only [] at hQ
    refine ite_f rfl (with_u (deref_i (loadI_i (T.cell (j := 4) ha he rfl) (ite_i (fun h1 => ?_) fun h1 => ?_))))
    · refine deref_i (loadI_i (T.cell (j := 4) ha he rfl) (ite_i (fun h2 => ?_) fun h2 => ?_))
      · rw [if_pos ⟨by simpa using h1, by simpa using h2⟩] at hQ
        exact hQ h T (Fr.refl _ _)
      · rw [if_neg (by simp at h2; simp [h2])] at hQ
        refine ends_spec T ha he fun h' T' F' => ?_
        rw [show (((i + 1 : Nat) : Int) - 1).toNat = i by omega] at hQ
        exact hQ h' T' F'
    · rw [if_neg (by simp at h1; simp [h1])] at hQ
      refine ite_f rfl (ends_spec T ha he fun h' T' F' => ?_)
      rw [show (((i + 1 : Nat) : Int) - 1).toNat = i by omega] at hQ
      exact hQ h' T' F'
theorem waiting_spec (T : Tab h b lv av c pos all) (hn : 1 ≤ c.n) (hl : all.length ≤ 1000000) {Q : Sl → HProp}
    (hQ : ∀ r h', Vec h' r (eI .i64) (ids isX all) → New h r → Ext h h' → Q r h') : table_Table_Waiting (some (at0 b)) Q h := by
  unfold table_Table_Waiting
  exact none_spec T hn (ite_f rfl (those_spec T hl does_expected hQ))
def serveE (k fault : Int) (e : Ent) : Ent :=
  if fault ≠ 0 then endE 5 fault e
  else if add .i64 e.had 1 < k then { e with exp := false, had := add .i64 e.had 1 }
  else if add .i64 e.round 1 = e.takes then endE 3 0 { e with had := 0 }
  else { e with exp := false, had := 0, round := add .i64 e.round 1 }
theorem serve_spec (T : Tab h b lv av c pos all) {i : Nat} {a : Addr} {e : Ent} (hs : Slot av i 13 a) (he : all[i]? = some e) {k fault : Int} {Q : Unit → HProp}
    (hQ : ∀ h', Tab h' b lv av c pos (all.set i (serveE k fault e)) → Fr (own b av) h h' → Q () h') : table_entry_serve (some a, k, fault) Q h := by
  have hlt := (List.getElem?_eq_some_iff.1 he).1
  have up : ∀ (l : List Ent) (x : Ent), l.length = all.length → (l.set i x)[i]? = some x := fun l x hl => by simp [hl, hlt]
  unfold table_entry_serve
  simp only [eqI_eq, ltI_eq]
  unfold serveE at hQ
  refine deref_i (T.st (e' := { e with exp := false }) hs he (by decide) rfl fun h1 T1 F1 => ?_)
  refine ite_i (fun hf => ?_) fun hf => ?_
  · rw [if_pos (by simpa using hf)] at hQ
    refine ends_spec T1 hs (up _ _ rfl) fun h2 T2 F2 => hQ h2 ?_ (F1.trans F2)
    simpa [endE] using T2
  · rw [if_neg (by simpa using hf)] at hQ
    refine deref_i (loadI_i (T1.cell (j := 8) hs (up _ _ rfl) rfl) (deref_i (T1.st (e' := { e with exp := false, had := add .i64 e.had 1 }) hs (up _ _ rfl) (by decide) rfl fun h2 T2 F2 => ?_)))
    rw [List.set_set] at T2
    refine deref_i (loadI_i (T2.cell (j := 8) hs (up _ _ rfl) rfl) ?_)
    refine ite_i (fun hk => ?_) fun hk => ?_
    · rw [if_pos (by simpa using hk)] at hQ
      exact hQ h2 T2 (F1.trans F2)
    · rw [if_neg (by simpa using hk)] at hQ
      refine deref_i (T2.st (e' := { e with exp := false, had := 0 }) hs (up _ _ rfl) (by decide) rfl fun h3 T3 F3 => ?_)
      rw [List.set_set] at T3
      refine deref_i (loadI_i (T3.cell (j := 7) hs (up _ _ rfl) rfl) (deref_i (loadI_i (T3.cell (j := 6) hs (up _ _ rfl) rfl) ?_)))
      refine ite_i (fun hr => ?_) fun hr => ?_
      · rw [if_pos (by simpa using hr)] at hQ
        refine ends_spec T3 hs (up _ _ rfl) fun h4 T4 F4 => hQ h4 ?_ (((F1.trans F2).trans F3).trans F4)
        simpa [endE] using T4
      · rw [if_neg (by simpa using hr)] at hQ
        refine deref_i (loadI_i (T3.cell (j := 7) hs (up _ _ rfl) rfl) (deref_i (T3.st (e' := { e with exp := false, had := 0, round := add .i64 e.round 1 }) hs (up _ _ rfl) (by decide) rfl fun h4 T4 F4 => ?_)))
        rw [List.set_set] at T4
        exact hQ h4 T4 (((F1.trans F2).trans F3).trans F4)

/-! ## whose turn it is -/
def keyE (e : Ent) : Int := add .i64 e.prio (quo .i64 e.ticks 4)
def aheadC (all : List Ent) (x y : Int) : Int := match getE all x, getE all y with
  | some ex, some ey => if cf1 (keyE ey) (keyE ex) ≠ 0 then cf1 (keyE ey) (keyE ex) else cf1 x y
  | _, _ => 0
theorem ahead_spec (T : Tab h b lv av c pos all) (hl : all.length ≤ 1000000) {i j : Nat} {ex ey : Ent} (hx : all[i]? = some ex) (hy : all[j]? = some ey) {Q : Int → HProp}
    (hQ : ∀ h', Ext h h' → Q (aheadC all ((i + 1 : Nat) : Int) ((j + 1 : Nat) : Int)) h') : table_Table_ahead (some (at0 b), ((i + 1 : Nat) : Int), ((j + 1 : Nat) : Int)) Q h := by
  have hi := (List.getElem?_eq_some_iff.1 hx).1
  have hj := (List.getElem?_eq_some_iff.1 hy).1
  unfold aheadC at hQ
  rw [getE_yes hx, getE_yes hy] at hQ
  simp only [] at hQ
  unfold table_Table_ahead
  simp only []
  refine with_i (fun (p : Option Addr × Option Addr) h' => ∃ b1 b2, p = (some (at0 b1), some (at0 b2)) ∧ Obj h' b1 ex.cells ∧ Obj h' b2 ey.cells ∧ Ext h h') (fun k hk => ?_) ?_
  · refine deref_i (loadL_i (v := av) (T.ob.ld (j := 5) rfl) ?_)
    rw [show sub .i64 ((i + 1 : Nat) : Int) 1 = (i : Int) by rw [sub_i64 (by omega) (by omega)]; omega]
    refine T.index hi fun a1 ha1 => ?_
    have c1 := fun (j : Nat) (y : Value) (hy : ex.cells[j]? = some y) => T.cell (j := j) ha1 hx hy
    refine loadI_i (c1 0 _ rfl) (loadI_i (c1 1 _ rfl) (loadI_i (c1 2 _ rfl) (loadI_i (c1 3 _ rfl) (loadI_i (c1 4 _ rfl) (loadI_i (c1 5 _ rfl) (loadI_i (c1 6 _ rfl) (loadI_i (c1 7 _ rfl) (loadI_i (c1 8 _ rfl) (loadI_i (c1 9 _ rfl) (loadB_i (c1 10 _ rfl) (loadB_i (c1 11 _ rfl) (loadL_i (v := ⟨none, 0, 0⟩) (c1 12 _ rfl) ?_))))))))))))
    refine deref_i (loadL_i (v := av) (T.ob.ld (j := 5) rfl) ?_)
    rw [show sub .i64 ((j + 1 : Nat) : Int) 1 = (j : Int) by rw [sub_i64 (by omega) (by omega)]; omega]
    refine T.index hj fun a2 ha2 => ?_
    have c2 := fun (k : Nat) (y : Value) (hyy : ey.cells[k]? = some y) => T.cell (j := k) ha2 hy hyy
    refine loadI_i (c2 0 _ rfl) (loadI_i (c2 1 _ rfl) (loadI_i (c2 2 _ rfl) (loadI_i (c2 3 _ rfl) (loadI_i (c2 4 _ rfl) (loadI_i (c2 5 _ rfl) (loadI_i (c2 6 _ rfl) (loadI_i (c2 7 _ rfl) (loadI_i (c2 8 _ rfl) (loadI_i (c2 9 _ rfl) (loadB_i (c2 10 _ rfl) (loadB_i (c2 11 _ rfl) (loadL_i (v := ⟨none, 0, 0⟩) (c2 12 _ rfl) ?_))))))))))))
    have kT : ∀ {h' : H}, Tab h' b lv av c pos all → ∀ {K : HProp}, K h' → keepsW ((at0 b).add 5) [.slice av.a av.len av.cap] K h' := fun {_} T' {_} hK => keeps1 (T'.ob.ld (j := 5) rfl) hK
    have kx : ∀ {h' : H}, Tab h' b lv av c pos all → ∀ {K : HProp}, K h' → keepsW a1 ex.cells K h' := fun {_} T' {_} hK => keeps_i (fun j u hu => T'.cell ha1 hx hu) hK
    have ky : ∀ {h' : H}, Tab h' b lv av c pos all → ∀ {K : HProp}, K h' → keepsW a2 ey.cells K h' := fun {_} T' {_} hK => keeps_i (fun j u hu => T'.cell ha2 hy hu) hK
    refine both_i (Obj.new fun b1 h1 o1 n1 e1 => ?_) (Obj.new fun b1 h1 o1 n1 e1 => ?_)
    · have T1 := T.ext e1
      refine kT T1 (kx T1 (kT T1 (ky T1 (Obj.new fun b2 h2 o2 n2 e2 => ?_))))
      have T2 := T1.ext e2
      refine kT T2 (kx T2 (kT T2 (ky T2 ?_)))
      refine Obj.sts (vs := ex.cells) (o1.ext e2) rfl fun h3 o3 F3 => ?_
      have ne : b2 ≠ b1 := (fresh_ne o1 n2).symm
      have T3 := T2.frb (T.apart n1) F3
      refine kT T3 (ky T3 (Obj.sts (vs := ey.cells) (o2.fr F3 ne) rfl fun h4 o4 F4 => hk _ _ ⟨b1, b2, rfl, o3.fr F4 ne.symm, o4, ?_⟩))
      exact ((e1.trans e2).of_new F3 (fun k hk => by rw [hk]; exact n1)).of_new F4 (fun k hk => by rw [hk]; exact e1.none n2)
    · have T1 := T.ext e1
      refine kT T1 (kx T1 (kT T1 (ky T1 (Obj.new fun b2 h2 o2 n2 e2 => ?_))))
      have T2 := T1.ext e2
      refine kT T2 (kx T2 (kT T2 (ky T2 ?_)))
      refine Obj.sts (vs := ex.cells) o2 rfl fun h3 o3 F3 => ?_
      have ne : b1 ≠ b2 := fresh_ne o1 n2
      have T3 := T2.frb (T1.apart n2) F3
      refine kT T3 (ky T3 (Obj.sts (vs := ey.cells) ((o1.ext e2).fr F3 ne) rfl fun h4 o4 F4 => hk _ _ ⟨b2, b1, rfl, o3.fr F4 ne.symm, o4, ?_⟩))
      exact ((e1.trans e2).of_new F3 (fun k hk => by rw [hk]; exact e1.none n2)).of_new F4 (fun k hk => by rw [hk]; exact n1)
  · rintro p h' ⟨b1, b2, rfl, o1, o2, E⟩
    simp only [add0]
    refine deref_i (loadI_i (o2.ld (j := 2) rfl) (deref_i (loadI_i (o2.ld (j := 9) rfl) (must_i (by decide) (deref_i (loadI_i (o1.ld (j := 2) rfl) (deref_i (loadI_i (o1.ld (j := 9) rfl) (must_i (by decide) ?_)))))))))
    refine cmp_spec (cmp_spec (Obj.new fun b3 h3 o3 n3 e3 => or_spec o3 ?_))
    exact hQ h3 (E.trans e3)
end
end Go.Cz.S

namespace Go.Cz.S
set_option maxRecDepth 100000
set_option maxHeartbeats 1000000
set_option linter.unusedSimpArgs false
set_option linter.unusedVariables false
section
variable {h : H} {b : Nat} {lv av : Sl} {c : Cfg} {pos : Int} {all : List Ent}
def minF (f : Int → Int → Int) : List Int → Int
  | [] => 0
  | x :: r => r.foldl (fun m y => if f y m < 0 then y else m) x
theorem minF_mem (f : Int → Int → Int) : ∀ (l : List Int), l ≠ [] → minF f l ∈ l := by
  intro l hl
  cases l with
  | nil => exact absurd rfl hl
  | cons x r =>
    unfold minF
    suffices ∀ (r : List Int) (x : Int), r.foldl (fun m y => if f y m < 0 then y else m) x ∈ x :: r by exact this r x
    intro r
    induction r with
    | nil => intro x; simp
    | cons y r ih =>
      intro x
      rw [List.foldl_cons]
      have := ih (if f y x < 0 then y else x)
      rcases List.mem_cons.1 this with h | h
      · rw [h]; split <;> simp
      · exact List.mem_cons_of_mem _ (List.mem_cons_of_mem _ h)
theorem minF_snoc (f : Int → Int → Int) (l : List Int) (hl : l ≠ []) (y : Int) : minF f (l ++ [y]) = if f y (minF f l) < 0 then y else minF f l := by
  cases l with
  | nil => exact absurd rfl hl
  | cons x r =>
    show (r ++ [y]).foldl _ x = _
    rw [List.foldl_append]; rfl
theorem minfunc_spec {r : Sl} {l : List Int} {h : H} (A : Arr h r (eI .i64) l) (hl : l ≠ []) (hb : l.length ≤ 1000000) {f : (Int × Int) → (Int → HProp) → HProp} {g : Int → Int → Int}
    (hf : ∀ h', Ext h h' → ∀ x y, x ∈ l → y ∈ l → ∀ Q : Int → HProp, (∀ h'', Ext h' h'' → Q (g x y) h'') → f (x, y) Q h') {Q : Int → HProp} (hQ : ∀ h', Ext h h' → Q (minF g l) h') : slices_MinFunc_int_int (r, f) Q h := by
  unfold slices_MinFunc_int_int
  have hpos : 0 < l.length := List.length_pos_iff.2 hl
  simp only [A.len, ltI_eq]
  refine with_u (ite_f (by simp; omega) ?_)
  refine A.num (i := 0) hpos ?_
  refine loop_i (fun (s : Int × Int) h' => ∃ j : Nat, s.2 = j ∧ 1 ≤ j ∧ j ≤ l.length ∧ s.1 = minF g (l.take j) ∧ s.1 ∈ l ∧ Ext h h') (fun s => ((l.length : Int) - s.2).toNat) ⟨1, rfl, Nat.le_refl _, hpos, ?_, List.getElem_mem _, Ext.refl h⟩ ?_
  · cases l with
    | nil => exact absurd rfl hl
    | cons x r => simp [minF]
  · rintro ⟨m, j⟩ h' ⟨j, rfl, hj1, hj, hm, hmem, E⟩ k hk
    simp only at *
    refine ite_i (fun hlt => ?_) fun hge => ?_
    · have hlt : j < l.length := by simpa using hlt
      refine with_u ((A.ext E).num hlt ?_)
      refine hf h' E _ _ (List.getElem_mem hlt) hmem _ fun h2 E2 => ?_
      have et : l.take (j + 1) = l.take j ++ [l[j]] := by rw [List.take_add_one, List.getElem?_eq_getElem hlt]; rfl
      have hne : l.take j ≠ [] := by
        intro e
        have := congrArg List.length e
        rw [List.length_take, List.length_nil] at this; omega
      rw [show add .i64 (j : Int) 1 = (j : Int) + 1 from add_i64 (by omega) (by omega)]
      refine ite_i (fun hn => ?_) fun hn => ?_
      · refine (A.ext (E.trans E2)).num hlt ?_
        refine hk _ _ ⟨j + 1, by simp, by omega, by omega, ?_, List.getElem_mem hlt, E.trans E2⟩ (by simp; omega)
        rw [et, minF_snoc _ _ hne, ← hm, if_pos (by simpa using hn)]
      · refine hk _ _ ⟨j + 1, by simp, by omega, by omega, ?_, hmem, E.trans E2⟩ (by simp; omega)
        rw [et, minF_snoc _ _ hne, ← hm, if_neg (by simpa using hn)]
    · have : j = l.length := by have : ¬ (j < l.length) := (by simpa using hge); omega
      subst this
      rw [List.take_length] at hm
      rw [hm]
      exact hQ h' E

/-! ## a tick -/
def incE (e : Ent) : Ent := { e with ticks := add .i64 e.ticks 1 }
def runE (e : Ent) : Ent := { e with state := 2, att := true }
def expE (e : Ent) : Ent := { e with exp := true }
def tick1 (all : List Ent) : List Ent := (ids isQ all).foldl (upd incE) all
/-- one more is admitted -/
def admit1 (tot : Int) (all : List Ent) : Option (List Ent) :=
  if (ids isA all).length < 4 then
    if (ids isQ all).length = 0 then none
    else if sub .i64 tot (usedF all) < needAt all (minF (aheadC all) (ids isQ all)) then none
    else some (upd runE all (minF (aheadC all) (ids isQ all)))
  else none
def admitN (tot : Int) : Nat → List Ent → List Ent
  | 0, all => all
  | g + 1, all => match admit1 tot all with | none => all | some all' => admitN tot g all'
def admitF (tot : Int) (all : List Ent) : List Ent := admitN tot (ids isQ all).length all
structure Res where
  ev : Int × Int × Int × Int
  pos : Int
  all : List Ent
def tickF (c : Cfg) (pos : Int) (all : List Ent) (fault : Int) : Res :=
  let all2 := admitF c.tot (tick1 all)
  if (ids isA all2).length = 0 then ⟨(1, 0, 0, 0), pos, all2⟩
  else if fault ≠ 0 then ⟨(4, rem (add .i64 pos 1) c.k, 0, fault), rem (add .i64 pos 1) c.k, (ids isA all2).foldl (upd (endE 5 fault)) all2⟩
  else ⟨(2, rem (add .i64 pos 1) c.k, 0, 0), rem (add .i64 pos 1) c.k, (ids isA all2).foldl (upd expE) all2⟩

theorem idsT_count (p : Ent → Bool) (all : List Ent) : ∀ i, i ≤ all.length → (idsT p all i).length = (all.take i).countP p
  | 0, _ => by simp [idsT]
  | i + 1, hi => by
    rw [idsT_succ, List.length_append, idsT_count p all i (by omega)]
    have hlt : i < all.length := by omega
    rw [List.take_add_one, List.getElem?_eq_getElem hlt, List.countP_append]
    congr 1
    unfold hit
    rw [List.getElem?_eq_getElem hlt]
    by_cases h : p all[i] <;> simp [h]
theorem ids_count (p : Ent → Bool) (all : List Ent) : (ids p all).length = all.countP p := by
  unfold ids; rw [idsT_count p all _ (Nat.le_refl _), List.take_length]
theorem admit1_less {tot : Int} {all all' : List Ent} (h : admit1 tot all = some all') : (ids isQ all').length + 1 = (ids isQ all).length ∧ all'.length = all.length := by
  unfold admit1 at h
  split at h
  · split at h
    · cases h
    · rename_i hz
      split at h
      · cases h
      · cases h
        refine ⟨?_, upd_len _ _ _⟩
        have hne : ids isQ all ≠ [] := by intro e; rw [e] at hz; exact hz rfl
        obtain ⟨j, e, hx, hj, he, hp⟩ := mem_ids (minF_mem (aheadC all) _ hne)
        rw [hx, upd_at _ he, ids_count, ids_count, List.countP_set hj]
        have e1 : all[j] = e := by rw [List.getElem?_eq_getElem hj] at he; exact Option.some.inj he
        have : 0 < all.countP isQ := List.countP_pos_iff.2 ⟨e, List.mem_of_getElem? he, hp⟩
        rw [e1, hp]
        have : isQ (runE e) = false := rfl
        rw [this]; simp; omega
  · cases h

theorem loop_upd {r : Sl} {l : List Int} {f : Ent → Ent} (T : Tab h b lv av c pos all) (V : Vec h r (eI .i64) l) (hr : ∀ x, r.on x → ¬ own b av x) (hl : all.length ≤ 1000000) (hll : l.length ≤ 1000000) (hm : ∀ x ∈ l, ∃ i : Nat, x = ((i + 1 : Nat) : Int) ∧ i < all.length)
    {step : Int → (Int → HProp) → HProp} {Q : HProp}
    (hstep : ∀ (j : Nat) (h' : H) (all' : List Ent) (i : Nat) (e : Ent) (k : Int → HProp), (hj : j < l.length) → l[j] = ((i + 1 : Nat) : Int) → all'[i]? = some e → all'.length = all.length → Tab h' b lv av c pos all' → Vec h' r (eI .i64) l →
      (∀ h'', Tab h'' b lv av c pos (all'.set i (f e)) → Fr (own b av) h' h'' → k ((j : Int) + 1) h'') → step (j : Int) k h')
    (hQ : ∀ h', Tab h' b lv av c pos (l.foldl (upd f) all) → Vec h' r (eI .i64) l → Fr (own b av) h h' → Q h') :
    loopW (0 : Int) (fun (s : Int) (k : Int → HProp) => iteW (decide (s < (r.len : Int))) (step s k) Q) h := by
  simp only [V.len]
  refine loop_i (fun (s : Int) h' => ∃ j : Nat, s = j ∧ j ≤ l.length ∧ Tab h' b lv av c pos ((l.take j).foldl (upd f) all) ∧ Vec h' r (eI .i64) l ∧ Fr (own b av) h h') (fun s => ((l.length : Int) - s).toNat) ⟨0, rfl, Nat.zero_le _, T, V, Fr.refl _ _⟩ ?_
  rintro s h' ⟨j, rfl, hj, T', V', F'⟩ k hk
  refine ite_i (fun hlt => ?_) fun hge => ?_
  · have hlt : j < l.length := by simpa using hlt
    obtain ⟨i, hi, hil⟩ := hm _ (List.getElem_mem hlt)
    have hlen : ((l.take j).foldl (upd f) all).length = all.length := foldl_len f _ _
    have he := List.getElem?_eq_getElem (show i < ((l.take j).foldl (upd f) all).length by omega)
    refine hstep j h' _ i _ k hlt hi he hlen T' V' fun h2 T2 F2 => ?_
    refine hk _ _ ⟨j + 1, by simp, by omega, ?_, V'.fr F2 hr, F'.trans F2⟩ (by omega)
    rw [foldl_take _ _ _ _ hlt, hi, upd_at _ he]
    exact T2
  · have : j = l.length := by have : ¬ (j < l.length) := (by simpa using hge); omega
    subst this
    rw [List.take_length] at T'
    exact hQ h' T' V' F'
theorem ids_on {p : Ent → Bool} : ∀ x ∈ ids p all, ∃ i : Nat, x = ((i + 1 : Nat) : Int) ∧ i < all.length := fun x hx => by
  obtain ⟨j, e, h1, h2, _⟩ := mem_ids hx
  exact ⟨j, h1, h2⟩
theorem new_own {r : Sl} {h0 : H} (T : Tab h0 b lv av c pos all) (N : New h0 r) : ∀ x, r.on x → ¬ own b av x := fun x hx ho => by
  have := T.apart (N x hx)
  rcases ho with ho | ho
  · exact this.1 ho
  · exact this.2.1 ho
theorem sub1 {i : Nat} (hi : i < 1000000) : sub .i64 ((i + 1 : Nat) : Int) 1 = (i : Int) := by rw [sub_i64 (by omega) (by omega)]; omega
theorem tick_spec (T : Tab h b lv av c pos all) (hn : 1 ≤ c.n) (hk0 : c.k ≠ 0) (hl : all.length ≤ 900000) {fault : Int} {Q : Int × Int × Int × Int → HProp}
    (hQ : ∀ h', Tab h' b lv av c (tickF c pos all fault).pos (tickF c pos all fault).all → Fr (own b av) h h' → Q (tickF c pos all fault).ev h') : table_Table_tick (some (at0 b), fault) Q h := by
  unfold table_Table_tick
  simp only [ltI_eq, eqI_eq]
  have hl' : all.length ≤ 1000000 := by omega
  refine those_spec T hl' does_queued fun r h1 V1 N1 E1 => ?_
  have T1 := T.ext E1
  refine loop_upd (f := incE) T1 V1 (new_own T N1) hl' (Nat.le_trans (ids_len _ _) hl') ids_on
    (step := fun s k => indexW s r 1 fun (a : Addr) =>
          loadI IntKind.i64 a fun (x : Int) =>
            derefW (some (at0 b)) fun (a : Addr) =>
              loadL (a.add 5) fun (x_1 : Sl) =>
                indexW (sub IntKind.i64 x 1) x_1 13 fun (a : Addr) =>
                  loadI IntKind.i64 (a.add 9) fun (x_2 : Int) =>
                    indexW (sub IntKind.i64 x 1) x_1 13 fun (a : Addr) =>
                      storeW (a.add 9) (Value.int IntKind.i64 (add IntKind.i64 x_2 1)) (k (add IntKind.i64 s 1))) ?_ ?_
  · intro j h' all' i e k hj hx he hlen T' V' hk
    refine V'.arr.num hj ?_
    have hi := (List.getElem?_eq_some_iff.1 he).1
    have hjl := ids_len isQ all
    rw [hx, sub1 (by omega)]
    refine T'.all_ld (T'.index hi fun a ha => loadI_i (T'.cell (j := 9) ha he rfl) (T'.index hi fun a2 ha2 => ?_))
    refine T'.st (e' := incE e) ha2 he (by decide) rfl fun h2 T2 F2 => ?_
    rw [add_i64 (by omega) (by omega)]
    exact hk h2 T2 F2
  intro h2 T2 V2 F2
  have F02 : Fr (own b av) h h2 := E1.fr.trans F2
  have hl2 : (tick1 all).length = all.length := foldl_len _ _ _
  change Tab h2 b lv av c pos (tick1 all) at T2
  -- who is admitted
  refine with_i (fun _ h3 => Tab h3 b lv av c pos (admitF c.tot (tick1 all)) ∧ Fr (own b av) h h3) (fun k hk => ?_) ?_
  · refine loop_n (fun g _ h3 => ∃ all3, Tab h3 b lv av c pos all3 ∧ Fr (own b av) h h3 ∧ all3.length = all.length ∧ g = (ids isQ all3).length ∧ admitN c.tot g all3 = admitF c.tot (tick1 all)) _ ⟨_, T2, F02, hl2, rfl, rfl⟩ ?_
    rintro g ⟨⟩ h3 ⟨all3, T3, F3, hl3, rfl, hadm⟩ k1 hk1
    have hl3' : all3.length ≤ 1000000 := by omega
    -- how it goes on
    have hend : admit1 c.tot all3 = none → all3 = admitF c.tot (tick1 all) := fun hno => by
      rw [← hadm]
      generalize (ids isQ all3).length = g
      cases g with
      | zero => rfl
      | succ g => simp only [admitN, hno]
    have hstop : ∀ h4, Ext h3 h4 → admit1 c.tot all3 = none → k () h4 := fun h4 E4 hno => hk () h4 ⟨by rw [← hend hno]; exact T3.ext E4, F3.trans E4.fr⟩
    refine those_spec T3 hl3' does_attached fun r4 h4 V4 N4 E4 => ?_
    rw [V4.len]
    have T4 := T3.ext E4
    refine ite_i (fun hlt => ?_) fun hge => ?_
    · have hlt : (ids isA all3).length < 4 := by have : ((ids isA all3).length : Int) < 4 := (by simpa using hlt); omega
      refine those_spec T4 hl3' does_queued fun r5 h5 V5 N5 E5 => ?_
      rw [V5.len]
      have T5 := T4.ext E5
      refine ite_i (fun hz => ?_) fun hnz => ?_
      · have hz : (ids isQ all3).length = 0 := by simpa using hz
        exact hstop h5 (E4.trans E5) (by unfold admit1; rw [if_pos hlt, if_pos hz])
      · have hnz : ¬ ((ids isQ all3).length = 0) := by simpa using hnz
        have hne : ids isQ all3 ≠ [] := fun e => hnz (by rw [e]; rfl)
        refine deref_i (loadL_i (v := av) (T5.ob.ld (j := 5) rfl) ?_)
        refine minfunc_spec (g := aheadC all3) V5.arr hne (Nat.le_trans (ids_len _ _) hl3') (fun h' E' x y hx hy Q hQ => ?_) fun h6 E6 => ?_
        · obtain ⟨i, ex, rfl, _, hex, _⟩ := mem_ids hx
          obtain ⟨j, ey, rfl, _, hey, _⟩ := mem_ids hy
          exact ahead_spec (T5.ext E') hl3' hex hey hQ
        · have T6 := T5.ext E6
          refine keeps1 (T6.ob.ld (j := 5) rfl) ?_
          have hmem := minF_mem (aheadC all3) _ hne
          generalize hmm : minF (aheadC all3) (ids isQ all3) = m at hmem
          obtain ⟨i, e, rfl, hi, he, hq⟩ := mem_ids hmem
          rw [sub1 (by omega)]
          refine T6.index hi fun a ha => ?_
          rw [add0]
          have hneed : needAt all3 ((i + 1 : Nat) : Int) = e.need := by unfold needAt; rw [show (((i + 1 : Nat) : Int) - 1).toNat = i by omega, he]
          refine loadI_i (T6.cell (j := 3) ha he rfl) (deref_i (loadI_i (T6.ob.ld (j := 2) rfl) ?_))
          refine used_spec T6 hn hl3' fun h7 E7 => ?_
          have T7 := T6.ext E7
          refine keeps1 (T7.cell (j := 3) ha he rfl) (keeps1 (T7.ob.ld (j := 2) rfl) ?_)
          refine ite_i (fun hb => ?_) fun hb => ?_
          · refine hstop h7 (((E4.trans E5).trans E6).trans E7) ?_
            unfold admit1
            rw [if_pos hlt, if_neg hnz, hmm, hneed, if_pos (by simpa using hb)]
          · refine T7.st (e' := { e with state := 2 }) ha he (by decide) rfl fun h8 T8 F8 => ?_
            refine T8.st (e := { e with state := 2 }) (e' := runE e) ha (by simp [hi]) (by decide) rfl fun h9 T9 F9 => ?_
            rw [List.set_set] at T9
            have hsome : admit1 c.tot all3 = some (all3.set i (runE e)) := by
              unfold admit1
              rw [if_pos hlt, if_neg hnz, hmm, hneed, if_neg (by simpa using hb), upd_at _ he]
            obtain ⟨a1, a2⟩ := admit1_less hsome
            refine hk1 (ids isQ (all3.set i (runE e))).length () h9 (by omega) ⟨_, T9, (F3.trans (((E4.trans E5).trans E6).trans E7).fr).trans (F8.trans F9), by omega, rfl, ?_⟩
            rw [← hadm, ← a1]
            simp only [admitN, hsome]
    · exact hstop h4 E4 (by unfold admit1; rw [if_neg (by have : ¬ (((ids isA all3).length : Int) < 4) := (by simpa using hge); omega)])
  · rintro _ h3 ⟨T3, F3⟩
    generalize hall2 : admitF c.tot (tick1 all) = all2 at T3
    have hlen2 : all2.length = all.length := by
      rw [← hall2, ← hl2]
      unfold admitF
      generalize (ids isQ (tick1 all)).length = g
      generalize tick1 all = l
      induction g generalizing l with
      | zero => rfl
      | succ g ih =>
        simp only [admitN]
        split
        · rfl
        · rename_i l' hl'
          rw [ih l', (admit1_less hl').2]
    have hlen2' : all2.length ≤ 1000000 := by omega
    unfold tickF at hQ
    rw [hall2] at hQ
    simp only [] at hQ
    refine those_spec T3 hlen2' does_attached fun r4 h4 V4 N4 E4 => ?_
    rw [V4.len]
    have T4 := T3.ext E4
    have F4 := F3.trans E4.fr
    refine ite_i (fun hz => ?_) fun hnz => ?_
    · have hz : (ids isA all2).length = 0 := by simpa using hz
      rw [if_pos hz] at hQ
      exact hQ h4 T4 F4
    · have hnz : ¬ ((ids isA all2).length = 0) := by simpa using hnz
      rw [if_neg hnz] at hQ
      refine deref_i (loadI_i (T4.ob.ld (j := 4) rfl) (deref_i (loadI_i (T4.ob.ld (j := 1) rfl) (must_i hk0 (deref_i ?_)))))
      refine T4.ob.st (j := 4) (by simp) fun h5 o5 F5 => ?_
      have T5 : Tab h5 b lv av c (rem (add .i64 pos 1) c.k) all2 := ⟨o5, T4.al.frn F5 (fun hl x hx => (T4.lb hl x hx).1), T4.va.fr F5 (fun x hx e => T4.ab (e ▸ hx)), T4.lb, T4.ab⟩
      have F5' : Fr (own b av) h h5 := F4.trans (F5.mono fun k hk => .inl hk)
      have hr := new_own T3 N4
      have V5 : Vec h5 r4 (eI .i64) (ids isA all2) := V4.fr F5 fun x hx e => hr x hx (.inl e)
      have hjl := ids_len isA all2
      rw [← V4.len]
      by_cases hf : fault = 0
      · subst hf
        rw [if_neg (by simp)] at hQ
        refine loop_upd (f := expE) T5 V5 hr hlen2' (Nat.le_trans hjl hlen2') ids_on
          (step := fun s k => withK (fun (t : PUnit) => k (add IntKind.i64 s 1))
                                    fun (k : PUnit → HProp) =>
                                    indexW s r4 1 fun (a : Addr) =>
                                      loadI IntKind.i64 a fun (x : Int) =>
                                        iteW (!decide ((0 : Int) = 0))
                                          (derefW (some (at0 b)) fun (a : Addr) =>
                                            loadL (a.add 5) fun (x_2 : Sl) =>
                                              indexW (sub IntKind.i64 x 1) x_2 13 fun (a : Addr) =>
                                                table_entry_ends (some a, 5, 0) fun (r : PUnit) => k ())
                                          (derefW (some (at0 b)) fun (a : Addr) =>
                                            loadL (a.add 5) fun (x_2 : Sl) =>
                                              indexW (sub IntKind.i64 x 1) x_2 13 fun (a : Addr) =>
                                                storeW (a.add 11) (Value.bool true) (k ()))) ?_ ?_
        · intro j h' all' i e k hj hx he hlen T' V' hk
          refine with_u (V'.arr.num hj ?_)
          have hi := (List.getElem?_eq_some_iff.1 he).1
          rw [hx, sub1 (by omega)]
          refine ite_f rfl (T'.all_ld (T'.index hi fun a ha => ?_))
          refine T'.st (e' := expE e) ha he (by decide) rfl fun h2 T2 F2 => ?_
          rw [add_i64 (by omega) (by omega)]
          exact hk h2 T2 F2
        · intro h6 T6 V6 F6
          refine ite_f rfl (deref_i (loadI_i (T6.ob.ld (j := 4) rfl) ?_))
          exact hQ h6 T6 (F5'.trans F6)
      · rw [if_pos hf] at hQ
        refine loop_upd (f := endE 5 fault) T5 V5 hr hlen2' (Nat.le_trans hjl hlen2') ids_on
          (step := fun s k => withK (fun (t : PUnit) => k (add IntKind.i64 s 1))
                                    fun (k : PUnit → HProp) =>
                                    indexW s r4 1 fun (a : Addr) =>
                                      loadI IntKind.i64 a fun (x : Int) =>
                                        iteW (!decide (fault = 0))
                                          (derefW (some (at0 b)) fun (a : Addr) =>
                                            loadL (a.add 5) fun (x_2 : Sl) =>
                                              indexW (sub IntKind.i64 x 1) x_2 13 fun (a : Addr) =>
                                                table_entry_ends (some a, 5, fault) fun (r : PUnit) => k ())
                                          (derefW (some (at0 b)) fun (a : Addr) =>
                                            loadL (a.add 5) fun (x_2 : Sl) =>
                                              indexW (sub IntKind.i64 x 1) x_2 13 fun (a : Addr) =>
                                                storeW (a.add 11) (Value.bool true) (k ()))) ?_ ?_
        · intro j h' all' i e k hj hx he hlen T' V' hk
          refine with_u (V'.arr.num hj ?_)
          have hi := (List.getElem?_eq_some_iff.1 he).1
          rw [hx, sub1 (by omega)]
          refine ite_t (by simp [hf]) (T'.all_ld (T'.index hi fun a ha => ?_))
          refine ends_spec T' ha he fun h2 T2 F2 => ?_
          rw [add_i64 (by omega) (by omega)]
          exact hk h2 T2 F2
        · intro h6 T6 V6 F6
          refine ite_t (by simp [hf]) (deref_i (loadI_i (T6.ob.ld (j := 4) rfl) ?_))
          exact hQ h6 T6 (F5'.trans F6)
end
end Go.Cz.S

namespace Go.Cz.S
set_option maxRecDepth 100000
set_option maxHeartbeats 1000000
set_option linter.unusedSimpArgs false
set_option linter.unusedVariables false
section
variable {h : H} {b : Nat} {lv av : Sl} {c : Cfg} {pos : Int} {all : List Ent}
structure Res5 where
  ev : Int × Int × Int × Int × Int
  pos : Int
  all : List Ent
def stepF (c : Cfg) (pos : Int) (all : List Ent) (pk fault : Int) : Res5 :=
  if (ids isX all).length = 0 then ⟨((tickF c pos all fault).ev.1, (tickF c pos all fault).ev.2.1, (tickF c pos all fault).ev.2.2.1, (tickF c pos all fault).ev.2.2.2, 0), (tickF c pos all fault).pos, (tickF c pos all fault).all⟩
  else if pk < 0 ∨ ((ids isX all).length : Int) ≤ pk then ⟨(0, 0, 0, 0, 2), pos, all⟩
  else match (ids isX all)[pk.toNat]? with
    | some id => ⟨(3, pos, id, fault, 0), pos, upd (serveE c.k fault) all id⟩
    | none => ⟨(0, 0, 0, 0, 2), pos, all⟩
theorem step_spec (T : Tab h b lv av c pos all) (hn : 1 ≤ c.n) (hk0 : c.k ≠ 0) (hl : all.length ≤ 900000) {pk fault : Int} {Q : Int × Int × Int × Int × Int → HProp}
    (hQ : ∀ h', Tab h' b lv av c (stepF c pos all pk fault).pos (stepF c pos all pk fault).all → Fr (own b av) h h' → Q (stepF c pos all pk fault).ev h') : table_Table_Step (some (at0 b), pk, fault) Q h := by
  unfold table_Table_Step
  simp only [ltI_eq, eqI_eq, leI_eq]
  have hl' : all.length ≤ 1000000 := by omega
  unfold stepF at hQ
  refine none_spec T hn (ite_f rfl (those_spec T hl' does_expected fun r h1 V1 N1 E1 => ?_))
  have T1 := T.ext E1
  simp only [V1.len]
  refine ite_i (fun hz => ?_) fun hnz => ?_
  · rw [if_pos (by simpa using hz)] at hQ
    exact tick_spec T1 hn hk0 hl fun h2 T2 F2 => hQ h2 T2 (E1.fr.trans F2)
  · rw [if_neg (by simpa using hnz)] at hQ
    refine with_u (ite_i (fun h1 => ite_t rfl ?_) fun h1 => ite_i (fun h2 => ?_) fun h2 => ?_)
    · rw [if_pos (.inl (by simpa using h1))] at hQ
      exact hQ _ T1 E1.fr
    · rw [if_pos (.inr (by simpa using h2))] at hQ
      exact hQ _ T1 E1.fr
    · have h1 : ¬ (pk < 0) := by simpa using h1
      have h2 : ¬ (((ids isX all).length : Int) ≤ pk) := by simpa using h2
      rw [if_neg (fun hh => hh.elim h1 h2)] at hQ
      obtain ⟨q, rfl⟩ : ∃ q : Nat, pk = q := ⟨pk.toNat, by omega⟩
      have hq : q < (ids isX all).length := by omega
      rw [Int.toNat_natCast, List.getElem?_eq_getElem hq] at hQ
      simp only [] at hQ
      refine T1.all_ld (V1.arr.num hq ?_)
      obtain ⟨i, e, hx, hi, he, _⟩ := mem_ids (List.getElem_mem hq)
      rw [hx, upd_at _ he] at hQ
      rw [hx, sub1 (by omega)]
      refine T1.index hi fun a ha => deref_i (loadI_i (T1.ob.ld (j := 1) rfl) ?_)
      refine serve_spec T1 ha he fun h2 T2 F2 => ?_
      refine deref_i (loadI_i (T2.ob.ld (j := 4) rfl) ?_)
      have V2 : Vec h2 r (eI .i64) (ids isX all) := V1.fr F2 (new_own T N1)
      refine V2.arr.num hq ?_
      rw [hx]
      exact hQ h2 T2 (E1.fr.trans F2)
end

/-! ## a new table -/
theorem clone_spec {v : Sl} {L : List (Int × Int)} {h : H} (A : Arr h v eP L) (hL : L.length ≤ 100000) {Q : Sl → HProp} (hQ : ∀ u h', Arr h' u eP L → Ext h h' → Q u h') : slices_Clone_api_Edge_api_Edge v Q h := by
  unfold slices_Clone_api_Edge_api_Edge
  cases ha : v.a with
  | none =>
    have h0 : L = [] := List.length_eq_zero_iff.1 (by have := A.nil ha; have := A.le; have := A.len; omega)
    subst h0
    exact ite_t isNilP_none (hQ _ h Vec.nil0.arr (Ext.refl h))
  | some a =>
    refine ite_f (isNilP_some _) (Obj.new fun b0 h1 o1 n1 e1 => ?_)
    refine (A.ext e1).row (w := 2) rfl ?_
    rw [A.len]
    have V0 : Vec h1 ⟨some ⟨b0, 0, none⟩, 0, 0⟩ eP [] := ⟨rfl, Nat.le_refl _, (fun e => by cases e), fun a ha => by
      cases ha
      exact ⟨rfl, [], o1, by simp, by simp [Enc.all]⟩⟩
    refine V0.append_new e1 (fun x hx => by obtain ⟨a, ha, rfl⟩ := hx; cases ha; exact n1) (m := L) rfl rfl rfl (by simp; omega) fun u h2 V2 E2 N2 _ _ => ?_
    exact hQ u h2 V2.arr E2
def cutOk (n k : Int) : Bool := decide (1 ≤ n) && decide (n ≤ 256) && decide (1 ≤ k) && decide (k ≤ 16) && decide (k ≤ n)
theorem cut_spec {n k : Int} {h : H} {Q : Sl × Int → HProp} (hno : cutOk n k = false → Q (Sl.mk none 0 0, 2) h) (hyes : cutOk n k = true → ∀ v h', Ext h h' → Q (v, 0) h') : parts_Cut (n, k) Q h := by
  unfold parts_Cut
  simp only [ltI_eq, minI_eq]
  refine with_b (!cutOk n k) (fun kk hk => ?_) ?_
  · unfold cutOk at hk
    refine ite_i (fun h1 => ?_) fun h1 => ite_i (fun h2 => ?_) fun h2 => ite_i (fun h3 => ?_) fun h3 => ?_
    · have h1 : n < 1 := by simpa using h1
      rw [decide_eq_false (show ¬ (1 ≤ n) by omega)] at hk
      exact hk
    · have h2 : 256 < n := by simpa using h2
      rw [decide_eq_false (show ¬ (n ≤ 256) by omega)] at hk
      simpa using hk
    · have h3 : k < 1 := by simpa using h3
      rw [decide_eq_false (show ¬ (1 ≤ k) by omega)] at hk
      simpa using hk
    · have h1 : ¬ n < 1 := by simpa using h1
      have h2 : ¬ 256 < n := by simpa using h2
      have h3 : ¬ k < 1 := by simpa using h3
      rw [decide_eq_true (show 1 ≤ n by omega), decide_eq_true (show n ≤ 256 by omega), decide_eq_true (show 1 ≤ k by omega)] at hk
      simp only [Bool.true_and] at hk
      have e : (!(decide (k ≤ 16) && decide (k ≤ n))) = decide ((if 16 < n then 16 else n) < k) := by
        by_cases ha : k ≤ 16 <;> by_cases hb : k ≤ n <;> simp [ha, hb] <;> split <;> omega
      rw [e] at hk
      exact hk
  · refine ite_i (fun hc => hno (by simpa using hc)) fun hc => ?_
    have hc : cutOk n k = true := by simpa using hc
    have hc' := hc
    unfold cutOk at hc'
    simp at hc'
    obtain ⟨k', rfl⟩ : ∃ k' : Nat, k = k' := ⟨k.toNat, by omega⟩
    refine make_i (E := eP) (x0 := (0, 0)) rfl (by omega) (Int.le_refl _) (by omega) (by omega) fun v h1 V1 _ N1 E1 hne => ?_
    refine loop_i (fun (s : Int) h' => ∃ (j : Nat) (l : List (Int × Int)), s = j ∧ j ≤ k' ∧ l.length = k' ∧ Vec h' v eP l ∧ Ext h h') (fun s => ((k' : Int) - s).toNat) ⟨0, _, rfl, Nat.zero_le _, by simp, V1, E1⟩ ?_
    rintro s h' ⟨j, l, rfl, hj, hll, V, E⟩ k hk
    rw [V.len, hll]
    refine ite_i (fun hlt => ?_) fun hge => hyes hc v h' E
    have hlt : j < k' := by simpa using hlt
    refine must_i (by omega) (must_i (by omega) ?_)
    refine V.arr.index (by omega) (by omega) fun a ha => ?_
    refine V.stores (E := eP) (i := j) (x := (_, _)) (by simpa [eP] using ha) (by omega) rfl fun h2 V2 F2 => ?_
    rw [add_i64 (by omega) (by omega)]
    exact hk _ _ ⟨j + 1, _, by simp, by omega, by simp [hll], V2, E.of_new F2 N1⟩ (by omega)
def newOk (n : Int) (L : List (Int × Int)) (k tot : Int) : Prop := Valid n L ∧ cutOk n k = true ∧ 1 ≤ tot ∧ tot ≤ 1099511627776
theorem new_spec {n : Int} {v : Sl} {L : List (Int × Int)} {k tot : Int} {h : H} (A : Arr h v eP L) (hL : L.length ≤ 4096) {Q : Option Addr × Int → HProp}
    (hno : ¬ newOk n L k tot → ∀ h', Ext h h' → Q (none, 2) h')
    (hyes : newOk n L k tot → ∀ b lv h', Tab h' b lv ⟨none, 0, 0⟩ ⟨n, k, tot, L⟩ (-1) [] → Ext h h' → h b = none → Q (some (at0 b), 0) h') : table_New (n, v, k, tot) Q h := by
  unfold table_New truth_Of
  simp only [eqI_eq, ltI_eq]
  refine run_spec A hL (fun hx h1 E1 => ?_) fun hv hok r m h1 outL V1 hl1 N1 E1 _ _ _ => ?_
  · refine ite_t rfl (hno (fun hy => hx ⟨hy.1, ?_⟩) h1 E1)
    obtain ⟨a, b⟩ := hy.1.n
    unfold okReq
    simp [a, b]
  · refine ite_f rfl (cut_spec (fun hc => ?_) fun hc u h2 E2 => ?_)
    · exact ite_t rfl (hno (fun hy => by rw [hy.2.1] at hc; cases hc) h1 E1)
    · refine ite_f rfl ?_
      have E12 := E1.trans E2
      have key : (¬ (1 ≤ tot ∧ tot ≤ 1099511627776) → Q (none, 2) h2) := fun ht => hno (fun hy => ht hy.2.2) h2 E12
      refine with_b (!decide (1 ≤ tot ∧ tot ≤ 1099511627776)) (fun k hk => ?_) ?_
      · refine ite_i (fun h1 => ?_) fun h1 => ?_
        · have h1 : tot < 1 := by simpa using h1
          rw [decide_eq_false (show ¬ (1 ≤ tot ∧ tot ≤ 1099511627776) by omega)] at hk
          exact hk
        · have h1 : ¬ tot < 1 := by simpa using h1
          have e : (!decide (1 ≤ tot ∧ tot ≤ 1099511627776)) = decide (1099511627776 < tot) := by
            by_cases h2 : tot ≤ 1099511627776
            · rw [decide_eq_true (show 1 ≤ tot ∧ tot ≤ 1099511627776 from ⟨by omega, h2⟩), decide_eq_false (show ¬ (1099511627776 < tot) by omega)]; rfl
            · rw [decide_eq_false (show ¬ (1 ≤ tot ∧ tot ≤ 1099511627776) by omega), decide_eq_true (show 1099511627776 < tot by omega)]; rfl
          rw [e] at hk
          exact hk
      · refine ite_i (fun ht => key (fun hh => by rw [decide_eq_true hh] at ht; cases ht)) fun ht => ?_
        have ht : 1 ≤ tot ∧ tot ≤ 1099511627776 := by simpa using ht
        refine clone_spec (A.ext E12) (by omega) fun u h3 A3 E3 => ?_
        refine Obj.new fun b h4 o4 n4 e4 => ?_
        refine hyes ⟨hv, hc, ht⟩ b u h4 ⟨o4, A3.ext e4, Vec.nil0, fun hl x hx => ⟨fun e => ?_, fun ⟨a, ha, _⟩ => by cases ha⟩, fun ⟨a, ha, _⟩ => by cases ha⟩ ((E12.trans E3).trans e4) ((E12.trans E3).none n4)
        subst e
        obtain ⟨o, ho⟩ := A3.there hl hx
        rw [n4] at ho; cases ho

/-! ## Submit -/
def subErr (c : Cfg) (all : List Ent) (kind arg prio need : Int) : Int :=
  if okReq kind arg prio c.n = false then 2 else if need < 256 then 2 else if c.tot < need then 3 else if 999999 ≤ all.length ∨ 8 ≤ (ids isQ all).length then 230 else 0
def newE (kind arg prio need takes : Int) : Ent := ⟨kind, arg, prio, need, 1, 0, takes, 0, 0, 0, false, false⟩
theorem submit_spec {h : H} {b : Nat} {lv av : Sl} {c : Cfg} {pos : Int} {all : List Ent} (T : Tab h b lv av c pos all) (hv : Valid c.n c.L) (hL : c.L.length ≤ 4096) (hl : all.length ≤ 900000) {kind arg prio need : Int} {Q : Int × Int → HProp}
    (hno : subErr c all kind arg prio need ≠ 0 → ∀ h', Ext h h' → Q (0, subErr c all kind arg prio need) h')
    (hyes : subErr c all kind arg prio need = 0 → ∀ m h' av', Tab h' b lv av' c pos (all ++ [newE kind arg prio need m]) → Fr (own b av) h h' → (∀ x, av'.on x → av.on x ∨ h x = none) → 1 ≤ m → m ≤ 300 → (kind = 2 → m = arg) → Q ((all.length : Int) + 1, 0) h') :
    table_Table_Submit (some (at0 b), kind, arg, prio, need) Q h := by
  have hn := hv.n.1
  have hl' : all.length ≤ 1000000 := by omega
  unfold table_Table_Submit
  simp only [eqI_eq, ltI_eq, leI_eq]
  unfold subErr at hno hyes
  refine none_spec T hn (ite_f rfl (deref_i (loadI_i (T.ob.ld (j := 0) rfl) (check_spec ?_))))
  by_cases hok : okReq kind arg prio c.n = false
  · rw [if_pos hok] at hno
    rw [if_neg (by rw [hok]; decide)]
    exact ite_t rfl (hno (by decide) h (Ext.refl h))
  have hok' : okReq kind arg prio c.n = true := by simpa using hok
  rw [if_neg hok] at hno hyes
  rw [if_pos hok']
  refine ite_f rfl (ite_i (fun h1 => ?_) fun h1 => ?_)
  · rw [if_pos (by simpa using h1)] at hno
    exact hno (by decide) h (Ext.refl h)
  have h1 : ¬ need < 256 := by simpa using h1
  rw [if_neg h1] at hno hyes
  refine deref_i (loadI_i (T.ob.ld (j := 2) rfl) (ite_i (fun h2 => ?_) fun h2 => ?_))
  · rw [if_pos (by simpa using h2)] at hno
    exact hno (by decide) h (Ext.refl h)
  have h2 : ¬ c.tot < need := by simpa using h2
  rw [if_neg h2] at hno hyes
  have hav : av.len = all.length := T.va.len
  refine with_u (T.all_ld ?_)
  rw [hav]
  refine ite_f (by simp; omega) (those_spec T hl' does_queued fun r h3 V3 N3 E3 => ?_)
  rw [V3.len]
  have T3 := T.ext E3
  refine ite_i (fun hq => ?_) fun hq => ?_
  · have hq : (8 : Int) ≤ ((ids isQ all).length : Int) := by simpa using hq
    rw [if_pos (.inr (by omega))] at hno
    exact hno (by decide) h3 E3
  have hq : ¬ ((8 : Int) ≤ ((ids isQ all).length : Int)) := by simpa using hq
  rw [if_neg (by rintro (h | h) <;> omega)] at hyes
  refine deref_i (loadI_i (T3.ob.ld (j := 0) rfl) (deref_i (loadL_i (v := lv) (T3.ob.ld (j := 3) rfl) ?_)))
  unfold truth_Rounds
  refine run_spec T3.al hL (fun hx => absurd ⟨hv, hok'⟩ hx) fun _ _ r4 m h4 outL _ _ _ E4 m1 m2 m3 => ?_
  have T4 := T3.ext E4
  refine ite_f rfl (deref_i (loadL_i (v := av) (T4.ob.ld (j := 5) rfl) (keeps1 (T4.ob.ld (j := 5) rfl) ?_)))
  refine T4.va.append (m := [newE kind arg prio need m]) rfl (by simp [Enc.all]; rfl) rfl (by omega) fun u h5 V5 F5 hu5 => ?_
  have ob5 := T4.ob.fr F5 T4.ab
  refine deref_i (ob5.st (j := 5) (by simp) fun h6 o6 F6 => ?_)
  have hub : ¬ u.on b := fun hu => by
    rcases hu5 b hu with h | h
    · exact T.ab h
    · have := T4.ob; unfold Obj at this; rw [h] at this; cases this
  have T6 : Tab h6 b lv u c pos (all ++ [newE kind arg prio need m]) := by
    refine ⟨o6, (T4.al.frn F5 fun hl x hx => (T4.lb hl x hx).2).frn F6 fun hl x hx => (T4.lb hl x hx).1, V5.fr F6 (fun x hx e => hub (e ▸ hx)), fun hl x hx => ⟨(T4.lb hl x hx).1, fun hu => ?_⟩, hub⟩
    rcases hu5 x hu with h | h
    · exact (T4.lb hl x hx).2 h
    · obtain ⟨o, ho⟩ := T4.al.there hl hx; rw [h] at ho; cases ho
  refine deref_i (loadL_i (v := u) (T6.ob.ld (j := 5) rfl) ?_)
  have hul : (u.len : Int) = (all.length : Int) + 1 := by rw [V5.len]; simp
  rw [hul]
  refine hyes rfl m h6 u T6 ?_ ?_ m1 m2 m3
  · exact ((E3.trans E4).fr.trans (F5.mono fun x hx => .inr hx)).trans (F6.mono fun x hx => .inl hx)
  · intro x hx
    rcases hu5 x hx with h | h
    · exact .inl h
    · exact .inr ((E3.trans E4).none h)
end Go.Cz.S
