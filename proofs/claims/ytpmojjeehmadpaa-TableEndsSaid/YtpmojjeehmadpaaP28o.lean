/- Part of the proof of a law of 28: an engine that runs a function over an abstract heap, and what the functions compute; own work. -/
import Derived.Test.YtpmojjeehmadpaaP28n
set_option linter.unusedVariables false
set_option linter.unusedSimpArgs false
set_option linter.unusedSectionVars false
namespace Go.Cz.S
set_option maxRecDepth 100000
set_option maxHeartbeats 1000000
set_option linter.unusedSimpArgs false
set_option linter.unusedVariables false

theorem cnv_rem {n m : Int} (h0 : 0 ≤ n) (h1 : n ≤ 9223372036854775807) (hm : 0 < m) : rem (cnv IntKind.i64 n) m = n % m := by
  rw [cnv_i64 (by omega) (by omega), rem_nn h0]
theorem turn_valid : Valid 3 [] := ⟨by decide, List.Pairwise.nil⟩
theorem innerF_succ (all : List Ent) (j : Nat) (last : Int) : innerF all (j + 1) last = inner1 all (innerF all j last) j := by
  unfold innerF
  rw [List.range_succ, List.foldl_append]; rfl
theorem innerF_some {all : List Ent} {n : Nat} {last : Int} {r : Int × Int} (h : innerF all n last = some r) : ∀ j, j ≤ n → ∃ r', innerF all j last = some r' := by
  intro j hj
  induction n generalizing r with
  | zero => exact ⟨r, by rw [show j = 0 by omega]; exact h⟩
  | succ n ih =>
    by_cases e : j = n + 1
    · subst e; exact ⟨r, h⟩
    · rw [innerF_succ] at h
      cases hq : innerF all n last with
      | none => rw [hq] at h; cases h
      | some q => exact ih hq (by omega)
theorem inner1_bnd {all : List Ent} {n : Nat} {last : Int} (h0 : 0 ≤ last) : ∀ (j : Nat), j ≤ n → ∀ l r, innerF all j last = some (l, r) → 0 ≤ l ∧ (l ≤ last ∨ l ≤ j) ∧ 0 ≤ r ∧ r ≤ j
  | 0, _, l, r, h => by
    have : (last, (0 : Int)) = (l, r) := Option.some.inj h
    cases this
    omega
  | j + 1, hj, l, r, h => by
    rw [innerF_succ] at h
    cases hq : innerF all j last with
    | none => rw [hq] at h; cases h
    | some q =>
      obtain ⟨l', r'⟩ := q
      obtain ⟨a, b, c, d⟩ := inner1_bnd (n := n) h0 j (by omega) l' r' hq
      rw [hq] at h
      unfold inner1 at h
      simp only [] at h
      split at h
      · split at h
        · cases h
        · cases h
          split <;> omega
      · cases h
        split <;> omega
theorem tableTurn_spec {x y : Int} (x0 : 0 ≤ x) (x1 : x ≤ 255) (y0 : 0 ≤ y) (y1 : y ≤ 65535) {h : H} {Q : Bool → HProp} (hQ : ∀ h', Ext h h' → Q true h') : law28_TableTurn (x, y) Q h := by
  unfold law28_TableTurn
  simp only [eqI_eq, ltI_eq, leI_eq]
  rw [cnv_rem x0 (by omega) (by decide), cnv_rem y0 (by omega) (by decide)]
  have en : add .i64 1 (x % 8) = ((x % 8).toNat + 1 : Nat) := by rw [add_i64 (by omega) (by omega)]; omega
  have ed : add .i64 256 (y % 3000) = 256 + y % 3000 := add_i64 (by omega) (by omega)
  rw [en, ed]
  obtain ⟨n, hn⟩ : ∃ n : Nat, (x % 8).toNat = n := ⟨_, rfl⟩
  have hn8 : n < 8 := by omega
  rw [hn]
  obtain ⟨d, hd⟩ : ∃ d : Int, 256 + y % 3000 = d := ⟨_, rfl⟩
  have d0 : 256 ≤ d := by omega
  have d1 : d ≤ 3255 := by omega
  rw [hd]
  clear en ed hd hn
  obtain ⟨cp, F⟩ : ∃ cp : Fin 4, Fits (cp.val + 1) d := by
    by_cases h4 : 4 * d ≤ 4000
    · exact ⟨3, by decide, by decide, d0, by omega, by show ((4 : Nat) : Int) * d ≤ 4000; omega, .inl rfl⟩
    · by_cases h3 : 3 * d ≤ 4000
      · exact ⟨2, by decide, by decide, d0, by omega, by show ((3 : Nat) : Int) * d ≤ 4000; omega, .inr (by show 4000 < (((3 : Nat) : Int) + 1) * d; omega)⟩
      · by_cases h2 : 2 * d ≤ 4000
        · exact ⟨1, by decide, by decide, d0, by omega, by show ((2 : Nat) : Int) * d ≤ 4000; omega, .inr (by show 4000 < (((2 : Nat) : Int) + 1) * d; omega)⟩
        · exact ⟨0, by decide, by decide, d0, by omega, by show ((1 : Nat) : Int) * d ≤ 4000; omega, .inr (by show 4000 < (((1 : Nat) : Int) + 1) * d; omega)⟩
  have hchk := chk_all ⟨n, hn8⟩ cp
  simp only at hchk
  obtain ⟨cap, hcap⟩ : ∃ cap : Nat, cp.val + 1 = cap := ⟨_, rfl⟩
  rw [hcap] at F hchk
  clear hcap
  have A0 : Arr h ⟨none, 0, 0⟩ eP [] := Vec.nil0.arr
  refine new_spec A0 (by decide) (fun hx => absurd ⟨turn_valid, by decide, by decide, by decide⟩ hx) fun _ b lv h2 T2 e2 nb => ?_
  have M2 : Mine h h2 b lv ⟨none, 0, 0⟩ turnC (-1) [] := ⟨T2, e2, nb, fun x ⟨a, ha, _⟩ => by cases ha⟩
  refine ite_f rfl (must_i (by decide) (must_i (by decide) ?_))
  have hcn : (1 : Int) ≤ turnC.n := by decide
  have hck : turnC.k ≠ 0 := by decide
  have hrep : ∀ j, (List.replicate j (newE 2 2 0 0 2)).map (setN d) = List.replicate j (newE 2 2 0 d 2) := fun j => by rw [List.map_replicate]; rfl
  refine loop_i (fun (s : Int) h' => ∃ (j : Nat) (av : Sl), s = j ∧ j ≤ n + 1 ∧ Mine h h' b lv av turnC (-1) (List.replicate j (newE 2 2 0 d 2))) (fun s => (((n + 1 : Nat) : Int) - s).toNat) ⟨0, _, rfl, Nat.zero_le _, M2⟩ ?_
  rintro s h3 ⟨j, av, rfl, hj, M3⟩ k hk
  refine ite_i (fun hlt => ?_) fun hge => ?_
  · have hlt : j < n + 1 := by have : (j : Int) < ((n + 1 : Nat) : Int) := (by simpa using hlt); omega
    have hlq := ids_len isQ (List.replicate j (newE 2 2 0 d 2))
    rw [List.length_replicate] at hlq
    have hse : subErr turnC (List.replicate j (newE 2 2 0 d 2)) 2 2 0 d = 0 := by
      unfold subErr
      rw [if_neg (by decide), if_neg (by omega), if_neg (show ¬ turnC.tot < d by show ¬ (4000 : Int) < d; omega), if_neg (by rw [List.length_replicate]; omega)]
    refine submit_spec M3.t turn_valid (by decide) (by simp; omega) (fun hx => absurd hse hx) fun _ m h4 av4 T4 F4 hu4 _ _ hm => ?_
    have hm2 := hm rfl
    subst hm2
    have M4 := M3.grow T4 F4 hu4
    rw [show List.replicate j (newE 2 2 0 d 2) ++ [newE 2 2 0 d 2] = List.replicate (j + 1) (newE 2 2 0 d 2) by rw [List.replicate_succ']] at M4
    have ej : add .i64 (j : Int) 1 = (j : Int) + 1 := add_i64 (by omega) (by omega)
    rw [ej]
    refine with_u (ite_f rfl ?_)
    rw [List.length_replicate]
    refine ite_f (by simp) ?_
    exact hk _ _ ⟨j + 1, av4, by simp, by omega, M4⟩ (by omega)
  have hjn : j = n + 1 := by have : ¬ ((j : Int) < ((n + 1 : Nat) : Int)) := (by simpa using hge); omega
  subst hjn
  rw [← hrep] at M3
  refine loop_i (fun (s : Int × Int) h' => ∃ (p : Int) (all : List Ent) (f : Nat), 0 ≤ s.1 ∧ s.1 ≤ ((n + 1 : Nat) : Int) ∧ s.2 + f = 200 ∧ 0 ≤ s.2 ∧ all.length = n + 1 ∧ Mine h h' b lv av turnC p (all.map (setN d)) ∧ chk cap (n + 1) f all s.1 = true) (fun s => (200 - s.2).toNat)
    ⟨-1, _, 200, by decide, by simp; omega, by decide, by decide, by simp, M3, hchk⟩ ?_
  rintro ⟨last, st⟩ h4 ⟨p, all, f, l0, l1, hf, st0, hlen, M4, hc⟩ k2 hk2
  simp only at *
  have hfalse : decide (st < 200) = false → Q false h4 := fun hst => by
    have hst : ¬ (st < 200) := by simpa using hst
    have : f = 0 := by omega
    subst this
    unfold chk at hc; cases hc
  refine ite_i (fun hst => ?_) hfalse
  have hst : st < 200 := by simpa using hst
  obtain ⟨f, rfl⟩ : ∃ g, f = g + 1 := ⟨f - 1, by omega⟩
  unfold chk at hc
  obtain ⟨s1, s2, s3⟩ := step_map' (all := all) F p
  refine step_spec M4.t hcn hck (by simp [hlen]; omega) fun h5 T5 F5 => ?_
  rw [Bool.and_eq_true] at hc
  have he0 : (stepG cap all).ev.2.2.2.2 = 0 := of_decide_eq_true hc.1
  refine ite_f (by rw [s2, he0]; rfl) ?_
  rw [s1]
  have M5 := M4.next T5 F5
  rw [s3] at M5
  have hlen5 : (stepG cap all).all.length = n + 1 := by
    have := congrArg List.length s3
    rw [List.length_map] at this
    rw [← this]
    unfold stepF
    split
    · unfold tickF
      simp only []
      have hadm : (admitF turnC.tot (tick1 (all.map (setN d)))).length = n + 1 := by
        have h1 : (tick1 (all.map (setN d))).length = n + 1 := by unfold tick1; rw [foldl_len, List.length_map, hlen]
        unfold admitF
        generalize (ids isQ (tick1 (all.map (setN d)))).length = g
        generalize tick1 (all.map (setN d)) = l at h1
        induction g generalizing l with
        | zero => exact h1
        | succ g ih =>
          simp only [admitN]
          split
          · exact h1
          · rename_i l' hl'
            exact ih l' (by rw [(admit1_less hl').2, h1])
      split
      · exact hadm
      · rw [if_neg (by decide)]
        exact (foldl_len _ _ _).trans hadm
    · split
      · simp [hlen]
      · split
        · simp only []; rw [upd_len, List.length_map, hlen]
        · simp [hlen]
  by_cases hidle : (stepG cap all).ev.1 = 1
  · rw [if_pos hidle] at hc
    have hl : last = ((n + 1 : Nat) : Int) := of_decide_eq_true hc.2
    refine ite_t (by rw [hidle]; rfl) (with_u (ite_t (by rw [hl]; simp) (keeps_spec fun h' e => ?_)))
    exact hQ h' (M5.e.trans e)
  rw [if_neg hidle] at hc
  refine ite_f (by simp [hidle]) ?_
  generalize hall5 : (stepG cap all).all = all5 at *
  cases hin : innerF all5 (n + 1) last with
  | none => rw [hin] at hc; simp at hc
  | some q =>
  obtain ⟨last', run⟩ := q
  rw [hin] at hc
  simp only [Bool.and_eq_true] at hc
  obtain ⟨_, ⟨hrun, hrc⟩, hchk'⟩ := hc
  have hrun : run ≤ cap := of_decide_eq_true hrun
  have hrc : run = ((ids isA all5).length : Int) := of_decide_eq_true hrc
  refine loop_i (fun (s : Int × Int × Int) h' => h' = h5 ∧ ∃ j : Nat, s.2.2 = (j : Int) + 1 ∧ j ≤ n + 1 ∧ innerF all5 j last = some (s.1, s.2.1)) (fun s => (((n + 2 : Nat) : Int) - s.2.2).toNat) ⟨rfl, 0, rfl, Nat.zero_le _, rfl⟩ ?_
  rintro ⟨la, ru, id⟩ h6 ⟨rfl, j, rfl, hj, hij⟩ k3 hk3
  simp only at *
  obtain ⟨b0, b1, b2, b3⟩ := inner1_bnd (n := n + 1) l0 j hj la ru hij
  refine ite_i (fun hle => ?_) fun hle => ?_
  · have hle : (j : Int) + 1 ≤ ((n + 1 : Nat) : Int) := by simpa using hle
    refine with_u (poll_spec M5.t hcn (by simp [hlen5]; omega) ?_)
    rw [poll_map]
    obtain ⟨r', hr'⟩ := innerF_some hin (j + 1) (by omega)
    have hstep := innerF_succ all5 j last
    rw [hij, hr'] at hstep
    unfold inner1 at hstep
    simp only [] at hstep
    have eru : add .i64 ru 1 = ru + 1 := add_i64 (by omega) (by omega)
    have ela : add .i64 la 1 = la + 1 := add_i64 (by omega) (by omega)
    have eid : add .i64 ((j : Int) + 1) 1 = ((j + 1 : Nat) : Int) + 1 := by rw [add_i64 (by omega) (by omega)]; omega
    rw [eru, ela, eid]
    -- what is counted
    have tail : ∀ ru', ru' = (if (pollF all5 ((j : Int) + 1)).1 = 2 then ru + 1 else ru) →
        withK (fun (t_1 : Bool) => iteW t_1 (iteW (!decide ((j : Int) + 1 = la + 1)) (Q false) (k3 ((j : Int) + 1, ru', ((j + 1 : Nat) : Int) + 1))) (k3 (la, ru', ((j + 1 : Nat) : Int) + 1))) (fun (k : Bool → HProp) =>
          iteW (!decide ((pollF all5 ((j : Int) + 1)).1 = 1)) (k (decide (la < (j : Int) + 1))) (k false)) h6 := by
      intro ru' hru
      rw [← hru] at hstep
      have fin : ∀ l', r' = (l', ru') → k3 (l', ru', ((j + 1 : Nat) : Int) + 1) h6 := fun l' e => hk3 _ _ ⟨rfl, j + 1, rfl, by omega, by rw [hr', e]⟩ (by simp; omega)
      refine with_u (ite_i (fun hq => ite_i (fun hl => ?_) fun hl => ?_) fun hq => ite_f rfl ?_)
      · have hq : ¬ (pollF all5 ((j : Int) + 1)).1 = 1 := by simpa using hq
        have hl : la < (j : Int) + 1 := by simpa using hl
        rw [if_pos ⟨hq, hl⟩] at hstep
        by_cases hx : (j : Int) + 1 = la + 1
        · rw [if_neg (by simp [hx])] at hstep
          exact ite_f (by simp [hx]) (fin _ (Option.some.inj hstep))
        · rw [if_pos hx] at hstep; cases hstep
      · have hl : ¬ la < (j : Int) + 1 := by simpa using hl
        rw [if_neg (fun hh => hl hh.2)] at hstep
        exact fin _ (Option.some.inj hstep)
      · have hq : (pollF all5 ((j : Int) + 1)).1 = 1 := by simpa using hq
        rw [if_neg (fun hh => hh.1 hq)] at hstep
        exact fin _ (Option.some.inj hstep)
    refine with_u (ite_i (fun h2 => ?_) fun h2 => ?_)
    · exact tail _ (by rw [if_pos (by simpa using h2)])
    · exact tail _ (by rw [if_neg (by simpa using h2)])
  · have hj' : j = n + 1 := by have : ¬ ((j : Int) + 1 ≤ ((n + 1 : Nat) : Int)) := (by simpa using hle); omega
    subst hj'
    rw [hij] at hin
    cases hin
    obtain ⟨c1, c4, _, _, f1, _⟩ := F
    have hcases : cap = 1 ∨ cap = 2 ∨ cap = 3 ∨ cap = 4 := by omega
    have hrc4 : run = 0 ∨ run = 1 ∨ run = 2 ∨ run = 3 ∨ run = 4 := by omega
    have hm0 : 0 ≤ run * d := Int.mul_nonneg (by omega) (by omega)
    have hm1 : run * d ≤ 4000 := by
      rcases hcases with rfl | rfl | rfl | rfl <;> rcases hrc4 with h | h | h | h | h <;> subst h <;> simp at hrun f1 ⊢ <;> omega
    rw [mul_i64 (by omega) (by omega)]
    have est : add .i64 st 1 = st + 1 := add_i64 (by omega) (by omega)
    rw [est]
    refine with_u (ite_f (by simp; omega) (ite_f (by simp; omega) (used_spec M5.t hcn (by simp [hlen5]; omega) fun h7 e7 => ?_)))
    rw [used_map (by omega) (by rw [← hrc]; omega), ← hrc]
    refine ite_f (by simp) ?_
    have hb := b1
    exact hk2 _ _ ⟨_, all5, f, by omega, by omega, by omega, by omega, hlen5, M5.ext e7, hchk'⟩ (by simp; omega)
end Go.Cz.S
