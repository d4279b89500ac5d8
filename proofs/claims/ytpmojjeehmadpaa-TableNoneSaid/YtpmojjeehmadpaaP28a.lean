/- Part of the proof of a law of 28: an engine that runs a function over an abstract heap, and what the functions compute; own work. -/
import Derived.Test.YtpmojjeehmadpaaD28
import Derived.Test.YtpmojjeehmadpaaSpec2
set_option linter.unusedVariables false
set_option linter.unusedSimpArgs false
set_option linter.unusedSectionVars false
namespace Go.Cz.S
set_option maxRecDepth 100000
set_option maxHeartbeats 1000000
set_option linter.unusedSimpArgs false
set_option linter.unusedVariables false

/-! ## slices.Repeat of one number -/
theorem mul64_small : ∀ n : Fin 257, math_bits_Mul64 (1, (n.val : Int)) = fun Q => math_bits_Mul64 (1, (n.val : Int)) Q := fun _ => rfl
def hiOf (a b : Int) : Int := add IntKind.u64
                  (add IntKind.u64 (mul IntKind.u64 (shr IntKind.u64 a 32) (shr IntKind.u64 b 32))
                    (shr IntKind.u64
                      (add IntKind.u64 (mul IntKind.u64 (shr IntKind.u64 a 32) (andI IntKind.u64 b 4294967295))
                        (shr IntKind.u64
                          (mul IntKind.u64 (andI IntKind.u64 a 4294967295) (andI IntKind.u64 b 4294967295)) 32))
                      32))
                  (shr IntKind.u64
                    (add IntKind.u64
                      (andI IntKind.u64
                        (add IntKind.u64
                          (mul IntKind.u64 (shr IntKind.u64 a 32) (andI IntKind.u64 b 4294967295))
                          (shr IntKind.u64
                            (mul IntKind.u64 (andI IntKind.u64 a 4294967295) (andI IntKind.u64 b 4294967295))
                            32))
                        4294967295)
                      (mul IntKind.u64 (andI IntKind.u64 a 4294967295) (shr IntKind.u64 b 32)))
                    32)
theorem hiOf_small : ∀ n : Fin 257, hiOf 1 (n.val : Int) = 0 ∧ mul IntKind.u64 1 (n.val : Int) = n.val ∧ cnv .u64 (n.val : Int) = n.val ∧ cnv .i64 (n.val : Int) = n.val := by
  unfold hiOf add mul shr andI cnv
  decide +kernel
theorem mul_spec {n : Nat} (hn : n ≤ 256) {Q : Int × Int → HProp} {h : H} (hQ : Q (0, (n : Int)) h) : math_bits_Mul (1, (n : Int)) Q h := by
  obtain ⟨h1, h2, _⟩ := hiOf_small ⟨n, by omega⟩
  simp only at h1 h2
  unfold math_bits_Mul math_bits_Mul64
  refine must_i (by decide) (must_i (by decide) (must_i (by decide) (must_i (by decide) (must_i (by decide) ?_))))
  show Q (hiOf 1 (n : Int), mul IntKind.u64 1 (n : Int)) h
  rw [h1, h2]
  exact hQ

theorem copy_raw {h : H} {b b2 o1 o2 l1 l2 c1 c2 : Nat} {cs cs2 : List Value} {K : Int → HProp} (O : Obj h b cs) (O2 : Obj h b2 cs2) (hm : 0 < min l2 l1) (h2 : o2 + min l2 l1 ≤ cs2.length) (h1 : o1 + min l2 l1 ≤ cs.length) (ho : Go.Cz.ones cs2)
    (hK : ∀ h', Obj h' b (cs.take o1 ++ (cs2.drop o2).take (min l2 l1) ++ cs.drop (o1 + min l2 l1)) → Fr (fun k => k = b) h h' → K ((min l2 l1 : Nat) : Int) h') : copyW ⟨some ⟨b, o1, none⟩, l1, c1⟩ ⟨some ⟨b2, o2, none⟩, l2, c2⟩ 1 K h := by
  unfold copyW
  have hl : ((cs2.drop o2).take (min l2 l1)).length = min l2 l1 := by simp; omega
  refine ⟨(cs2.drop o2).take (min l2 l1), ?_, fun v hv => ho v (List.mem_of_mem_drop (List.mem_of_mem_take hv)), ?_⟩
  · unfold H.row?
    rw [Nat.mul_one, if_neg (show ¬ min l2 l1 = 0 by omega)]
    unfold Obj at O2
    simp only [O2]
    simp [h2]
  · rw [if_neg (by intro e; rw [e] at hl; simp at hl; omega)]
    refine ⟨_, rfl, ?_⟩
    unfold storesW
    unfold Obj at O
    simp only [O]
    rw [hl]
    exact ⟨trivial, h1, hK _ (set_same ..) Fr.set⟩
theorem rep_ones (k : IntKind) (n : Nat) (x : Int) : Go.Cz.ones (List.replicate n (Value.int k x)) := fun v hv => by rw [(List.mem_replicate.1 hv).2]; trivial

theorem fill_raw {n : Nat} {x : Int} (h1 : 1 ≤ n) (h2 : n ≤ 256) {Q : Sl → HProp} {h : H} (hQ : ∀ b h', Obj h' b (List.replicate n (.int .u64 x)) → h b = none → Ext h h' → Q ⟨some ⟨b, 0, none⟩, n, n⟩ h') : truth_fill ((n : Int), x) Q h := by
  unfold truth_fill slices_Repeat_uint64_uint64
  refine Obj.new fun b0 h1' o0 hb0 e0 => ?_
  obtain ⟨_, _, c1, c2⟩ := hiOf_small ⟨n, by omega⟩
  obtain ⟨_, _, d1, _⟩ := hiOf_small ⟨1, by omega⟩
  simp only at c1 c2 d1
  simp only [ltI_eq]
  refine with_u (ite_f (by simp) ?_)
  have e1 : cnv .u64 ((1 : Nat) : Int) = 1 := d1
  simp only []
  rw [e1, c1]
  refine mul_spec h2 (with_u (with_u (ite_f (by simp) (ite_f (by simp; omega) ?_))))
  simp only []
  rw [c2]
  unfold makeW
  refine ⟨by omega, Int.le_refl _, by omega, by omega, fun b hb => ?_⟩
  have hbb : b ≠ b0 := fun e => by rw [e] at hb; rw [show h1' b0 = _ from o0] at hb; cases hb
  have O : Obj (h1'.set b (.cells (List.replicate n (Value.int .u64 0)) true)) b (List.replicate n (Value.int .u64 0)) := set_same ..
  have E1 : Ext h (h1'.set b (.cells (List.replicate n (Value.int .u64 0)) true)) := e0.trans (Ext.set hb)
  have hfl : (List.replicate (n : Int).toNat [Value.int .u64 0]).flatten = List.replicate n (Value.int .u64 0) := by
    simp
  rw [hfl]
  have O0 : Obj (h1'.set b (.cells (List.replicate n (Value.int .u64 0)) true)) b0 [.int .u64 x] := o0.ext (Ext.set hb)
  have hnone : h b = none := e0.none hb
  refine copy_raw O O0 (by omega) (by simp; omega) (by simp; omega) (fun v hv => by simp at hv; subst hv; trivial) fun h3 O3 F3 => ?_
  have E3 : Ext h h3 := E1.of_new F3 (fun k hk => by rw [hk]; exact hnone)
  have hm : min 1 (n : Int).toNat = 1 := by omega
  rw [hm] at O3 ⊢
  simp only [Int.toNat_natCast]
  refine loop_i (fun (s : Int) h' => ∃ m : Nat, s = m ∧ 1 ≤ m ∧ m ≤ n ∧ Obj h' b (List.replicate m (.int .u64 x) ++ List.replicate (n - m) (.int .u64 0)) ∧ Ext h h') (fun s => ((n : Int) - s).toNat) ?_ ?_
  · refine ⟨1, rfl, Nat.le_refl _, h1, ?_, E3⟩
    simpa using O3
  · rintro s h' ⟨m, rfl, m1, m2, Om, Em⟩ k hk
    try simp only [ltI_eq]
    refine ite_i (fun hlt => ?_) fun hge => ?_
    · have hlt : m < n := by simpa using hlt
      unfold sliceW
      refine ⟨by omega, by simp; omega, by simp, ?_⟩
      refine ⟨by omega, by omega, by simp; omega, ?_⟩
      simp only [Int.toNat_natCast, Int.toNat_zero, Nat.sub_zero, Nat.mul_one, Option.map_some, if_neg (show ¬ n = m by omega), if_neg (show ¬ n = 0 by omega), Nat.zero_mul]
      rw [show (Addr.mk b 0 none).add m = ⟨b, m, none⟩ by rw [add_eq rfl]; simp, add0]
      refine copy_raw Om Om (by omega) (by simp; omega) (by simp; omega) ?_ fun h4 O4 F4 => ?_
      · intro v hv
        rcases List.mem_append.1 hv with hv | hv
        · exact rep_ones _ _ _ v hv
        · exact rep_ones _ _ _ v hv
      · rw [add_i64 (by omega) (by omega)]
        refine hk _ _ ⟨m + min m (n - m), by omega, by omega, by omega, ?_, Em.of_new F4 (fun k hk => by rw [hk]; exact hnone)⟩ (by omega)
        have : (List.replicate m (Value.int IntKind.u64 x) ++ List.replicate (n - m) (Value.int IntKind.u64 0)).take m ++ ((List.replicate m (Value.int IntKind.u64 x) ++ List.replicate (n - m) (Value.int IntKind.u64 0)).drop 0).take (min m (n - m)) ++ (List.replicate m (Value.int IntKind.u64 x) ++ List.replicate (n - m) (Value.int IntKind.u64 0)).drop (m + min m (n - m)) = List.replicate (m + min m (n - m)) (Value.int IntKind.u64 x) ++ List.replicate (n - (m + min m (n - m))) (Value.int IntKind.u64 0) := by
          rw [List.drop_zero, List.take_append_of_le_length (by simp), List.take_append_of_le_length (by simp; omega), List.drop_append, List.take_replicate, List.take_replicate, List.drop_replicate, List.drop_replicate, List.length_replicate]
          rw [show min m m = m by omega, show min (min m (n - m)) m = min m (n - m) by omega, show m - (m + min m (n - m)) = 0 by omega, List.replicate_append_replicate]
          simp only [List.replicate_zero, List.nil_append]
          congr 2; omega
        rw [this] at O4
        exact O4
    · have : m = n := by simp at hge; omega
      subst this
      exact hQ b h' (by simpa using Om) hnone Em
theorem fill_spec {n : Nat} {x : Int} (h1 : 1 ≤ n) (h2 : n ≤ 256) {Q : Sl → HProp} {h : H} (hQ : ∀ v h', Vec h' v (eI .u64) (List.replicate n x) → v.a ≠ none → New h v → Ext h h' → Q v h') : truth_fill ((n : Int), x) Q h := by
  refine fill_raw h1 h2 fun b h' O hb E => hQ _ _ ⟨by simp, Nat.le_refl _, (fun e => by cases e), fun a ha => ?_⟩ (by simp) ?_ E
  · cases ha
    refine ⟨rfl, _, O, by simp [eI], ?_⟩
    rw [eI_all]
    show ((List.replicate n (Value.int .u64 x)).drop 0).take ((List.replicate n x).length * 1) = _
    simp
  · rintro b' ⟨a, ha, rfl⟩
    cases ha; exact hb
end Go.Cz.S
