/- Part of the proof of a law of 28: an engine that runs a function over an abstract heap, and what the functions compute; own work. -/
import Derived.Test.YtpmojjeehmadpaaP28b
set_option linter.unusedVariables false
set_option linter.unusedSimpArgs false
set_option linter.unusedSectionVars false
namespace Go.Cz.S
set_option maxRecDepth 100000
set_option maxHeartbeats 1000000
set_option linter.unusedSimpArgs false
set_option linter.unusedVariables false

def DistV (l : List Int) : Prop := ∀ x ∈ l, x = FAR ∨ 0 ≤ x ∧ x ≤ 256
theorem small_cnv : ∀ n : Fin 257, cnv .i64 (n.val : Int) = n.val := fun n => (hiOf_small n).2.2.2
theorem greatest_spec {r : Sl} {outL : List Int} {h : H} (A : Arr h r (eI .u64) outL) (hl : outL.length ≤ 256) (hv : DistV outL) {Q : Int → HProp} (hQ : ∀ g, 0 ≤ g → g ≤ 256 → Q g h) : truth_greatest r Q h := by
  unfold truth_greatest
  simp only [A.len, ltI_eq, eqI_eq]
  refine loop_i (fun (p : Int × Int) h' => h' = h ∧ 0 ≤ p.1 ∧ p.1 ≤ 256 ∧ ∃ i : Nat, p.2 = i ∧ i ≤ outL.length) (fun p => ((outL.length : Int) - p.2).toNat) ⟨rfl, by decide, by decide, 0, rfl, Nat.zero_le _⟩ ?_
  rintro ⟨g, i⟩ h' ⟨rfl, g0, g1, i, rfl, hi⟩ k hk
  simp only at *
  refine ite_i (fun hlt => ?_) fun hge => ?_
  · have hlt : i < outL.length := by simpa using hlt
    refine with_u (A.num hlt ?_)
    refine ite_i (fun hx => ?_) fun hx => ?_
    · have hx : outL[i] ≠ FAR := by simpa using hx
      rcases hv _ (List.getElem_mem hlt) with h | ⟨a, b⟩
      · exact absurd h hx
      · rw [add_i64 (by omega) (by omega)]
        refine hk _ _ ⟨rfl, ?_, ?_, i + 1, by simp, by omega⟩ (by simp; omega) <;> (simp only [maxI_eq]; split <;> omega)
    · rw [add_i64 (by omega) (by omega)]
      exact hk _ _ ⟨rfl, g0, g1, i + 1, by simp, by omega⟩ (by simp; omega)
  · obtain ⟨m, rfl⟩ : ∃ m : Nat, g = m := ⟨g.toNat, by omega⟩
    have := small_cnv ⟨m, by omega⟩
    simp only at this
    rw [this]
    exact hQ _ g0 g1

theorem labels_spec {n : Nat} {vo va : Sl} {h : H} (h1 : 1 ≤ n) (h2 : n ≤ 256) (R : Rows n h va) {Q : Sl × Int → HProp}
    (hQ : ∀ r m h' outL, Vec h' r (eI .u64) outL → outL.length = n → 0 ≤ m → m ≤ 256 → New h r → Ext h h' → Q (r, m) h') : truth_graph_labels ((n : Int), vo, va) Q h := by
  unfold truth_graph_labels
  simp only [ltI_eq, eqI_eq]
  refine fill_spec h1 h2 fun r ha V0 hra N0 E0 => ?_
  refine loop_i (fun (p : Int × Int) h' => ∃ (i : Nat) (outL : List Int), p.2 = i ∧ i ≤ n ∧ 0 ≤ p.1 ∧ p.1 ≤ 256 ∧ Vec h' r (eI .u64) outL ∧ outL.length = n ∧ Ext h h') (fun p => ((n : Int) - p.2).toNat) ⟨0, _, rfl, Nat.zero_le _, by decide, by decide, V0, by simp, E0⟩ ?_
  rintro ⟨m, i⟩ h' ⟨i, outL, rfl, hi, m0, m1, V, hlen, E⟩ k hk
  simp only at *
  refine ite_i (fun hlt => ?_) fun hge => ?_
  · have hlt : i < n := by simpa using hlt
    refine with_u (V.arr.num (by omega) ?_)
    rw [add_i64 (by omega) (by omega)]
    refine ite_i (fun hx => ?_) fun hx => ?_
    · exact hk _ _ ⟨i + 1, outL, by simp, by omega, m0, m1, V, hlen, E⟩ (by simp; omega)
    · refine far_spec h1 h2 hlt (R.ext E) fun r1 h3 outL1 V1 hl1 hv1 N1 E1 => ?_
      have V3 := V.ext E1
      have hne : ∀ b, r1.on b → ¬ r.on b := fun b hb hr => by obtain ⟨o, ho⟩ := V.there hr; rw [N1 b hb] at ho; cases ho
      simp only [V1.len, hl1]
      refine loop_i (fun (j : Int) h4 => ∃ (jn : Nat) (outL' : List Int), j = jn ∧ jn ≤ n ∧ Vec h4 r (eI .u64) outL' ∧ outL'.length = n ∧ Vec h4 r1 (eI .u64) outL1 ∧ Ext h h4) (fun j => ((n : Int) - j).toNat) ⟨0, outL, rfl, Nat.zero_le _, V3, hlen, V1, E.trans E1⟩ ?_
      rintro j h4 ⟨j, outL', rfl, hj, V4, hlen4, V14, E4⟩ k1 hk1
      refine ite_i (fun hjlt => ?_) fun hjge => ?_
      · have hjlt : j < n := by simpa using hjlt
        refine with_u (V14.arr.num (by omega) ?_)
        rw [add_i64 (by omega) (by omega)]
        refine ite_i (fun hx => ?_) fun hx => ?_
        · have := small_cnv ⟨i, by omega⟩
          refine V4.put (by omega) fun h5 V5 F5 => ?_
          exact hk1 _ _ ⟨j + 1, _, by simp, by omega, V5, by simp [hlen4], V14.fr F5 (fun b hb hr => hne b hb hr), E4.of_new F5 N0⟩ (by omega)
        · exact hk1 _ _ ⟨j + 1, outL', by simp, by omega, V4, hlen4, V14, E4⟩ (by omega)
      · refine greatest_spec V14.arr (by omega) hv1 fun g g0 g1 => ?_
        refine hk _ _ ⟨i + 1, outL', by simp, by omega, ?_, ?_, V4, hlen4, E4⟩ (by simp; omega) <;> (simp only [maxI_eq]; split <;> omega)
  · exact hQ r m h' outL V hlen m0 m1 N0 E

theorem cores_spec {n : Nat} {c : Int} {vo va : Sl} {h : H} (h1 : 1 ≤ n) (h2 : n ≤ 256) (R : Rows n h va) {Q : Sl × Int → HProp}
    (hQ : ∀ r m h' outL, Vec h' r (eI .u64) outL → outL.length = n → 0 ≤ m → m ≤ 256 → New h r → Ext h h' → Q (r, m) h') : truth_graph_cores ((n : Int), vo, va, c) Q h := by
  unfold truth_graph_cores
  simp only [ltI_eq, eqI_eq]
  refine fill_spec h1 h2 fun r ha V0 hra N0 E0 => ?_
  refine loop_n (fun T (s : Int) h' => ∃ outL : List Int, Vec h' r (eI .u64) outL ∧ outL.length = n ∧ Ext h h' ∧ T = outL.count 1 ∧ 0 ≤ s ∧ s + T ≤ n) n ⟨_, V0, by simp, E0, by simp, by decide, by omega⟩ ?_
  rintro T s h' ⟨outL, V, hlen, E, rfl, s0, s1⟩ k hk
  refine loop_i (fun (p : Sl × Int) h3 => ∃ (i : Nat) (gL : List Int), p.2 = i ∧ i ≤ n ∧ Vec h3 r (eI .u64) outL ∧ Vec h3 p.1 (eI .i64) gL ∧ gL.length ≤ i ∧ (∀ g ∈ gL, ∃ j : Nat, g = j ∧ j < n ∧ outL[j]? = some 1) ∧ (∀ b, p.1.on b → h b = none ∧ ¬ r.on b) ∧ Ext h h3) (fun p => ((n : Int) - p.2).toNat)
    ⟨0, [], rfl, Nat.zero_le _, V, Vec.nil0, Nat.zero_le _, (fun g hg => by cases hg), (fun b ⟨a, ha, _⟩ => by cases ha), E⟩ ?_
  rintro ⟨gs, i⟩ h3 ⟨i, gL, rfl, hi, V3, W3, hgl, hg, hgs, E3⟩ k1 hk1
  simp only at *
  refine ite_i (fun hlt => ?_) fun hge => ?_
  · have hlt : i < n := by simpa using hlt
    refine with_u (R.row E3 hlt fun x l A hl8 hl => ?_)
    have A3 := A.ext E3
    simp only [A.len]
    refine loop_i (fun (p : Int × Int) h4 => h4 = h3 ∧ ∃ jn : Nat, p.2 = jn ∧ jn ≤ l.length) (fun p => ((l.length : Int) - p.2).toNat) ⟨rfl, 0, rfl, Nat.zero_le _⟩ ?_
    rintro ⟨d, j⟩ h4 ⟨rfl, j, rfl, hj⟩ k2 hk2
    simp only at *
    refine ite_i (fun hjlt => ?_) fun hjge => ?_
    · have hjlt : j < l.length := by simpa using hjlt
      refine A3.num hjlt ?_
      obtain ⟨y0, y1⟩ := hl _ (List.getElem_mem hjlt)
      obtain ⟨vv, hvv⟩ : ∃ vv : Nat, l[j] = vv := ⟨l[j].toNat, by omega⟩
      rw [hvv] at y0 y1 ⊢
      refine V3.arr.num (by omega) ?_
      rw [show add .i64 (j : Int) 1 = (j : Int) + 1 from add_i64 (by omega) (by omega)]
      exact hk2 _ _ ⟨rfl, j + 1, by simp, by omega⟩ (by simp; omega)
    · refine with_u (V3.arr.num (by omega) ?_)
      rw [show add .i64 (i : Int) 1 = (i : Int) + 1 from add_i64 (by omega) (by omega)]
      refine ite_i (fun hx => ?_) fun hx => ?_
      · have hx : outL[i] = 1 := by simpa using hx
        refine ite_i (fun hc => ?_) fun hc => ?_
        · refine W3.append_new E3 (fun b hb => (hgs b hb).1) (m := [(i : Int)]) rfl (by simp [eI_all]) rfl (by omega) fun u h5 V5 E5 N5 F5 hu5 => ?_
          refine hk1 _ _ ⟨i + 1, gL ++ [(i : Int)], by simp, by omega, V3.fr F5 (fun b hb hr => (hgs b hr).2 hb), V5, by simp; omega, ?_, ?_, E5⟩ (by simp; omega)
          · intro g hgm
            rcases List.mem_append.1 hgm with hgm | hgm
            · exact hg g hgm
            · simp at hgm; subst hgm
              exact ⟨i, rfl, hlt, by rw [List.getElem?_eq_getElem (by omega), hx]⟩
          · intro b hb
            refine ⟨N5 b hb, fun hr => ?_⟩
            rcases hu5 b hb with h | h
            · exact (hgs b h).2 hr
            · obtain ⟨o, ho⟩ := V3.there hr; rw [h] at ho; cases ho
        · exact hk1 _ _ ⟨i + 1, gL, by simp, by omega, V3, W3, by omega, hg, hgs, E3⟩ (by simp; omega)
      · refine ite_f rfl ?_
        exact hk1 _ _ ⟨i + 1, gL, by simp, by omega, V3, W3, by omega, hg, hgs, E3⟩ (by simp; omega)
  · simp only [W3.len]
    refine ite_i (fun hz => ?_) fun hnz => ?_
    · exact hQ r s h3 outL V3 hlen s0 (by omega) N0 E3
    · have hpos : 0 < gL.length := by have : ¬ (gL.length = 0) := (by simpa using hnz); omega
      refine loop_i (fun (j : Int) h4 => ∃ (jn : Nat) (outL' : List Int), j = jn ∧ jn ≤ gL.length ∧ Vec h4 r (eI .u64) outL' ∧ outL'.length = n ∧ Vec h4 gs (eI .i64) gL ∧ Ext h h4 ∧ (jn = 0 → outL' = outL) ∧ (0 < jn → outL'.count 1 < outL.count 1)) (fun j => ((gL.length : Int) - j).toNat) ⟨0, outL, rfl, Nat.zero_le _, V3, hlen, W3, E3, fun _ => rfl, fun h => by omega⟩ ?_
      rintro j h4 ⟨j, outL', rfl, hj, V4, hlen4, W4, E4, hj0, hj1⟩ k2 hk2
      refine ite_i (fun hjlt => ?_) fun hjge => ?_
      · have hjlt : j < gL.length := by simpa using hjlt
        refine W4.arr.num hjlt ?_
        obtain ⟨q, hq, hqn, hq1⟩ := hg _ (List.getElem_mem hjlt)
        rw [hq]
        rw [add_i64 (by omega) (by omega)]
        refine V4.put (by omega) fun h5 V5 F5 => ?_
        refine hk2 _ _ ⟨j + 1, _, by simp, by omega, V5, by simp [hlen4], W4.fr F5 (fun b hb hr => (hgs b hb).2 hr), E4.of_new F5 N0, (fun h => by omega), fun _ => ?_⟩ (by omega)
        rw [List.count_set (by omega)]
        simp only [show ((0 : Int) == 1) = false from rfl, Bool.false_eq_true, if_false, Nat.add_zero]
        by_cases hz : j = 0
        · have := hj0 hz
          subst this
          have e1 : outL'[q] = 1 := by rw [List.getElem?_eq_getElem (by omega)] at hq1; exact Option.some.inj hq1
          have : 0 < outL'.count 1 := List.count_pos_iff.2 (List.mem_of_getElem? hq1)
          rw [e1]; simp; omega
        · have := hj1 (by omega)
          omega
      · have hjj : j = gL.length := by have : ¬ (j < gL.length) := (by simpa using hjge); omega
        have hlt := hj1 (by omega)
        rw [add_i64 (by omega) (by omega)]
        exact hk _ _ _ hlt ⟨outL', V4, hlen4, E4, rfl, by omega, by omega⟩
end Go.Cz.S
