/- Part of the proof of a law of 28: an engine that runs a function over an abstract heap, and what the functions compute; own work. -/
import Derived.Test.YtpmojjeehmadpaaP28c
set_option linter.unusedVariables false
set_option linter.unusedSimpArgs false
set_option linter.unusedSectionVars false
namespace Go.Cz.S
set_option maxRecDepth 100000
set_option maxHeartbeats 1000000
set_option linter.unusedSimpArgs false
set_option linter.unusedVariables false

/-! ## ranks -/
theorem cnvu_pos : ∀ n : Fin 257, cnv .u64 (n.val : Int) = n.val := fun n => (hiOf_small n).2.2.1
theorem cnv_u64 {n : Int} (h1 : 0 ≤ n) (h2 : n ≤ 18446744073709551615) : cnv .u64 n = n := by unfold cnv; exact wrapu h1 h2
theorem rank_spec {n : Nat} {c : Int} {vo va : Sl} {h : H} (h1 : 1 ≤ n) (h2 : n ≤ 256) (hc : c ≤ 1000) (R : Rows n h vo) {Q : Sl → HProp}
    (hQ : ∀ r h' outL, Vec h' r (eI .u64) outL → outL.length = n → New h r → Ext h h' → Q r h') : truth_graph_rank ((n : Int), vo, va, c) Q h := by
  unfold truth_graph_rank
  simp only [ltI_eq, eqI_eq]
  refine fill_spec h1 h2 fun r ha V0 hra N0 E0 => ?_
  refine loop_i (fun (s : Int) h' => ∃ outL : List Int, 0 ≤ s ∧ Vec h' r (eI .u64) outL ∧ outL.length = n ∧ Ext h h') (fun s => (c - s).toNat) ⟨_, Int.le_refl _, V0, by simp, E0⟩ ?_
  rintro s h' ⟨outL, s0, V, hlen, E⟩ k hk
  refine ite_i (fun hlt => ?_) fun hge => ?_
  · have hlt : s < c := by simpa using hlt
    refine fill_spec h1 h2 fun r1 hb V1 hra1 N1 E1 => ?_
    have hne : ∀ b, r1.on b → ¬ r.on b := fun b hb hr => by obtain ⟨o, ho⟩ := V.there hr; rw [N1 b hb] at ho; cases ho
    have N1' : New h r1 := fun b hb => E.none (N1 b hb)
    refine loop_i (fun (i : Int) h3 => ∃ (i' : Nat) (sumL : List Int), i = i' ∧ i' ≤ n ∧ Vec h3 r (eI .u64) outL ∧ Vec h3 r1 (eI .u64) sumL ∧ sumL.length = n ∧ Ext h h3) (fun i => ((n : Int) - i).toNat) ⟨0, _, rfl, Nat.zero_le _, V.ext E1, V1, by simp, E.trans E1⟩ ?_
    rintro i h3 ⟨i, sumL, rfl, hi, V3, W3, hls, E3⟩ k1 hk1
    rw [R.len]
    refine ite_i (fun hilt => ?_) fun hige => ?_
    · have hilt : i < n := by simpa using hilt
      refine R.row E3 hilt fun x l A hl8 hl => ?_
      simp only [A.len]
      refine loop_i (fun (j : Int) h4 => ∃ (j' : Nat) (sumL : List Int), j = j' ∧ j' ≤ l.length ∧ Vec h4 r (eI .u64) outL ∧ Vec h4 r1 (eI .u64) sumL ∧ sumL.length = n ∧ Ext h h4) (fun j => ((l.length : Int) - j).toNat) ⟨0, _, rfl, Nat.zero_le _, V3, W3, hls, E3⟩ ?_
      rintro j h4 ⟨j, sumL4, rfl, hj, V4, W4, hl4, E4⟩ k2 hk2
      refine ite_i (fun hjlt => ?_) fun hjge => ?_
      · have hjlt : j < l.length := by simpa using hjlt
        refine (A.ext E4).num hjlt ?_
        obtain ⟨y0, y1⟩ := hl _ (List.getElem_mem hjlt)
        obtain ⟨vv, hvv⟩ : ∃ vv : Nat, l[j] = vv := ⟨l[j].toNat, by omega⟩
        rw [hvv] at y0 y1 ⊢
        refine W4.arr.num (by omega) (V4.arr.num (by omega) (must_i ?_ ?_))
        · rw [cnv_u64 (by omega) (by omega)]; omega
        · refine W4.put (by omega) fun h5 W5 F5 => ?_
          rw [add_i64 (by omega) (by omega)]
          exact hk2 _ _ ⟨j + 1, _, by simp, by omega, V4.fr F5 (fun b hr hb => hne b hb hr), W5, by simp [hl4], E4.of_new F5 N1'⟩ (by omega)
      · rw [add_i64 (by omega) (by omega)]
        exact hk1 _ _ ⟨i + 1, sumL4, by simp, by omega, V4, W4, hl4, E4⟩ (by omega)
    · refine loop_i (fun (j : Int) h4 => ∃ (j' : Nat) (outL : List Int), j = j' ∧ j' ≤ n ∧ Vec h4 r (eI .u64) outL ∧ outL.length = n ∧ Vec h4 r1 (eI .u64) sumL ∧ Ext h h4) (fun j => ((n : Int) - j).toNat) ⟨0, _, rfl, Nat.zero_le _, V3, hlen, W3, E3⟩ ?_
      rintro j h4 ⟨j, outL4, rfl, hj, V4, hl4, W4, E4⟩ k2 hk2
      simp only [W4.len, hls]
      refine ite_i (fun hjlt => ?_) fun hjge => ?_
      · have hjlt : j < n := by simpa using hjlt
        refine W4.arr.num (by omega) (must_i (by decide) ?_)
        refine V4.put (by omega) fun h5 V5 F5 => ?_
        rw [add_i64 (by omega) (by omega)]
        exact hk2 _ _ ⟨j + 1, _, by simp, by omega, V5, by simp [hl4], W4.fr F5 (fun b hb hr => hne b hb hr), E4.of_new F5 N0⟩ (by omega)
      · rw [add_i64 (by omega) (by omega)]
        exact hk _ _ ⟨outL4, by omega, V4, hl4, E4⟩ (by omega)
  · exact hQ r h' outL V hlen N0 E
end Go.Cz.S
namespace Go.Cz
/-! ## a graph's rows, as they are made -/
def InR (n : Nat) (cs : List Value) : Prop := ∀ c ∈ cs, ∃ x : Int, c = .int .i64 x ∧ 0 ≤ x ∧ x < n
/-- a row of numbers below n, in a block that was made since h0 -/
def Rw (h0 : H) (n : Nat) (h : H) (s : Sl) : Prop :=
  s.len ≤ s.cap ∧ ((s.a = none ∧ s.cap = 0) ∨ ∃ b cs, s.a = some ⟨b, 0, none⟩ ∧ h0 b = none ∧ h b = some (.cells cs true) ∧ cs.length = s.cap ∧ InR n cs)
def Keep (h0 : H) (n : Nat) (h h' : H) : Prop :=
  (∀ t, Rw h0 n h t → Rw h0 n h' t) ∧ (∀ b cs wr, h b = some (.cells cs wr) → ¬ InR n cs → h' b = some (.cells cs wr)) ∧ (∀ b o, h b = some o → h0 b ≠ none → h' b = some o)
theorem inR_ints {n : Nat} : ∀ {cs : List Value}, InR n cs → ∃ l : List Int, cs = (eI .i64).all l ∧ ∀ x ∈ l, 0 ≤ x ∧ x < n
  | [], _ => ⟨[], rfl, by simp⟩
  | c :: r, h => by
    obtain ⟨x, rfl, h1, h2⟩ := h c (List.mem_cons_self ..)
    obtain ⟨l, hl, hb⟩ := inR_ints (cs := r) fun c hc => h c (List.mem_cons_of_mem _ hc)
    refine ⟨x :: l, by rw [hl]; simp [Enc.all, eI], fun y hy => ?_⟩
    rcases List.mem_cons.1 hy with rfl | hy
    · exact ⟨h1, h2⟩
    · exact hb y hy
theorem Rw.arr {h0 h : H} {n : Nat} {s : Sl} (R : Rw h0 n h s) : ∃ l : List Int, Arr h s (eI .i64) l ∧ l.length = s.len ∧ ∀ x ∈ l, 0 ≤ x ∧ x < n := by
  obtain ⟨hle, h1 | ⟨b, cs, ha, hb0, hb, hc, hr⟩⟩ := R
  · exact ⟨[], ⟨by simp; omega, hle, fun _ => h1.2, fun a ha hl => absurd rfl hl⟩, by simp; omega, by simp⟩
  · obtain ⟨l, rfl, hb'⟩ := inR_ints hr
    have hll : l.length = s.cap := by rw [← hc, (eI .i64).all_len]; simp [eI]
    refine ⟨l.take s.len, ⟨by simp; omega, hle, (fun e => by rw [ha] at e; cases e), fun a ha' hl => ?_⟩, by simp; omega, fun x hx => hb' x (List.mem_of_mem_take hx)⟩
    rw [ha] at ha'; cases ha'
    refine ⟨rfl, _, _, hb, ?_, ?_⟩
    · rw [(eI .i64).all_len]; simp [eI]; omega
    · rw [List.drop_zero, (eI .i64).all_take]
      congr 1
      rw [List.length_take]
      congr 1; omega
theorem Rw.append {h0 h : H} {n : Nat} {s : Sl} {x : Int} (h1 : 1 ≤ n) (R : Rw h0 n h s) (g : Ext h0 h) (x0 : 0 ≤ x) (x1 : x < n) (hb : s.len ≤ 100000) {K : Sl → HProp}
    (hK : ∀ u h', Rw h0 n h' u → u.len = s.len + 1 → Keep h0 n h h' → K u h') : appendW s [Value.int .i64 0] 8 1 [Value.int .i64 x] K h := by
  obtain ⟨hle, hR⟩ := R
  unfold appendW
  rw [if_neg (by omega)]
  split
  · rename_i hroom
    rcases hR with ⟨_, h2⟩ | ⟨b, cs, ha, hb0, hbl, hc, hr⟩
    · omega
    · refine ⟨_, cs, ha, hbl, rfl, by simp; omega, hK _ _ ⟨by simp; omega, .inr ⟨b, _, ha, hb0, set_same .., by simp; omega, ?_⟩⟩ rfl ?_⟩
      · intro c hcm
        rcases List.mem_append.1 hcm with hcm | hcm
        · rcases List.mem_append.1 hcm with hcm | hcm
          · exact hr c (List.mem_of_mem_take hcm)
          · simp at hcm; exact ⟨x, hcm, x0, x1⟩
        · exact hr c (List.mem_of_mem_drop hcm)
      · have hr' : InR n (cs.take (0 + s.len * [Value.int IntKind.i64 0].length) ++ [Value.int IntKind.i64 x] ++ cs.drop (0 + s.len * [Value.int IntKind.i64 0].length + [Value.int IntKind.i64 x].length)) := by
          intro c hcm
          rcases List.mem_append.1 hcm with hcm | hcm
          · rcases List.mem_append.1 hcm with hcm | hcm
            · exact hr c (List.mem_of_mem_take hcm)
            · simp at hcm; exact ⟨x, hcm, x0, x1⟩
          · exact hr c (List.mem_of_mem_drop hcm)
        refine ⟨?_, ?_, ?_⟩
        · rintro t ⟨t1, t2⟩
          refine ⟨t1, ?_⟩
          rcases t2 with t2 | ⟨b', cs', ta, tb0, tb, tc, tr⟩
          · exact .inl t2
          · by_cases e : b' = b
            · subst e
              rw [hbl] at tb; cases tb
              exact .inr ⟨b', _, ta, tb0, set_same .., by simp; omega, hr'⟩
            · exact .inr ⟨b', cs', ta, tb0, by simp [H.set, e, tb], tc, tr⟩
        · intro b' cs' wr hb' hn
          have e : b' ≠ b := fun e => by subst e; rw [hbl] at hb'; cases hb'; exact hn hr
          simp [H.set, e, hb']
        · intro b' o hb' hn
          have e : b' ≠ b := fun e => by subst e; exact hn hb0
          simp [H.set, e, hb']
  · rename_i hroom
    obtain ⟨l, A, hll, hl⟩ := Rw.arr ⟨hle, hR⟩
    have hrow : h.row? s.a (s.len * 1) = some ((eI .i64).all l) := by
      have := A.row (w := 1) rfl (K := fun l' _ => l' = (eI .i64).all l) rfl
      unfold rowW at this
      obtain ⟨l', q1, _, q2⟩ := this
      rw [q1, q2]
    refine ⟨_, hrow, (eI .i64).all_ones l, by omega, fun cap' b hcap hbn => hK _ _ ⟨hcap, .inr ⟨b, _, rfl, g.none hbn, set_same .., ?_, ?_⟩⟩ rfl ?_⟩
    · simp only [List.length_append, (eI .i64).all_len, hll]
      simp [eI]; omega
    · intro c hcm
      rcases List.mem_append.1 hcm with hcm | hcm
      · rcases List.mem_append.1 hcm with hcm | hcm
        · rw [eI_all] at hcm
          obtain ⟨y, hy, rfl⟩ := List.mem_map.1 hcm
          exact ⟨y, rfl, hl y hy⟩
        · simp at hcm; exact ⟨x, hcm, x0, x1⟩
      · obtain ⟨q, hq, hcm⟩ := List.mem_flatten.1 hcm
        rw [(List.mem_replicate.1 hq).2] at hcm
        simp at hcm
        exact ⟨0, hcm, Int.le_refl _, by omega⟩
    · have ne : ∀ b' o, h b' = some o → b' ≠ b := fun b' o hb' e => by subst e; rw [hbn] at hb'; cases hb'
      refine ⟨?_, fun b' cs wr hb' _ => by simp [H.set, ne _ _ hb', hb'], fun b' o hb' _ => by simp [H.set, ne _ _ hb', hb']⟩
      rintro t ⟨t1, t2⟩
      refine ⟨t1, ?_⟩
      rcases t2 with t2 | ⟨b', cs', ta, tb0, tb, tc, tr⟩
      · exact .inl t2
      · exact .inr ⟨b', cs', ta, tb0, by simp [H.set, ne _ _ tb, tb], tc, tr⟩
end Go.Cz
