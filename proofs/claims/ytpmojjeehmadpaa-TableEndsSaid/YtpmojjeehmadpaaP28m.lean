/- Part of the proof of a law of 28: an engine that runs a function over an abstract heap, and what the functions compute; own work. -/
import Derived.Test.YtpmojjeehmadpaaP28
set_option linter.unusedVariables false
set_option linter.unusedSimpArgs false
set_option linter.unusedSectionVars false
namespace Go.Cz.S
set_option maxRecDepth 100000
set_option maxHeartbeats 1000000
set_option linter.unusedSimpArgs false
set_option linter.unusedVariables false

/-- a table that was made since h0 -/
structure Mine (h0 h : H) (b : Nat) (lv av : Sl) (c : Cfg) (pos : Int) (all : List Ent) : Prop where
  t : Tab h b lv av c pos all
  e : Ext h0 h
  nb : h0 b = none
  na : ∀ x, av.on x → h0 x = none
section
variable {h0 h h' : H} {b : Nat} {lv av av' : Sl} {c : Cfg} {pos pos' : Int} {all all' : List Ent}
theorem Mine.ow (M : Mine h0 h b lv av c pos all) : ∀ x, own b av x → h0 x = none := fun x hx => by
  rcases hx with rfl | hx
  · exact M.nb
  · exact M.na x hx
theorem Mine.next (M : Mine h0 h b lv av c pos all) (T : Tab h' b lv av c pos' all') (F : Fr (own b av) h h') : Mine h0 h' b lv av c pos' all' :=
  ⟨T, M.e.of_new F M.ow, M.nb, M.na⟩
theorem Mine.grow (M : Mine h0 h b lv av c pos all) (T : Tab h' b lv av' c pos' all') (F : Fr (own b av) h h') (hu : ∀ x, av'.on x → av.on x ∨ h x = none) : Mine h0 h' b lv av' c pos' all' :=
  ⟨T, M.e.of_new F M.ow, M.nb, fun x hx => (hu x hx).elim (M.na x) fun hn => M.e.none hn⟩
theorem Mine.ext (M : Mine h0 h b lv av c pos all) (e : Ext h h') : Mine h0 h' b lv av c pos all := ⟨M.t.ext e, M.e.trans e, M.nb, M.na⟩
end
theorem ints_spec {a b : Sl} {L M : List Int} {h : H} (A : Arr h a (eI .i64) L) (B : Arr h b (eI .i64) M) (hL : L.length ≤ 1000000) {Q : Bool → HProp} (hQ : Q (decide (L = M)) h) : law26_Ints (a, b) Q h := by
  unfold law26_Ints
  simp only [A.len, B.len, ltI_eq, eqI_eq]
  refine ite_i (fun hne => ?_) fun heq => ?_
  · have : ¬ (L = M) := fun e => by subst e; simp at hne
    rw [decide_eq_false this] at hQ; exact hQ
  · have heq : L.length = M.length := by have : (L.length : Int) = M.length := (by simpa using heq); omega
    refine loop_i (fun (s : Int) h' => h' = h ∧ ∃ i : Nat, s = i ∧ i ≤ L.length ∧ ∀ j, (hj : j < i) → ∀ hl : j < L.length, ∀ hm : j < M.length, L[j] = M[j]) (fun s => ((L.length : Int) - s).toNat) ⟨rfl, 0, rfl, Nat.zero_le _, fun j hj => by omega⟩ ?_
    rintro s h' ⟨rfl, i, rfl, hi, hp⟩ k hk
    refine ite_i (fun hlt => ?_) fun hge => ?_
    · have hlt : i < L.length := by simpa using hlt
      refine A.num hlt (B.num (by omega) ?_)
      refine ite_i (fun hne => ?_) fun he => ?_
      · have hne : ¬ (L[i] = M[i]) := by
          rw [Bool.not_eq_true'] at hne
          exact of_decide_eq_false hne
        have : ¬ (L = M) := fun e => by subst e; exact hne rfl
        rw [decide_eq_false this] at hQ; exact hQ
      · have he : L[i] = M[i] := by
          rw [Bool.not_eq_false'] at he
          exact of_decide_eq_true he
        rw [add_i64 (by omega) (by omega)]
        refine hk _ _ ⟨rfl, i + 1, by simp, by omega, fun j hj hl hm => ?_⟩ (by omega)
        by_cases e : j = i
        · subst e; exact he
        · exact hp j (by omega) hl hm
    · have hi : i = L.length := by have : ¬ (i < L.length) := (by simpa using hge); omega
      have : L = M := List.ext_getElem heq fun j h1 h2 => hp j (by omega) h1 h2
      rw [decide_eq_true this] at hQ; exact hQ

/-! ## the chapter's graph -/
def ringL : List (Int × Int) := [(0, 1), (1, 2), (2, 0)]
def ringC : Cfg := ⟨4, 2, 600, ringL⟩
theorem ring_valid : Valid 4 ringL := ⟨by decide, by unfold Rising ringL ltP; decide⟩
def k1 (m1 m2 : Int) : List Ent := [⟨1, 0, 0, 300, 2, 0, m1, 0, 0, 1, true, true⟩, ⟨3, 0, 0, 300, 2, 0, m2, 0, 0, 1, true, true⟩]
def k2 (m1 m2 : Int) : List Ent := [⟨1, 0, 0, 300, 2, 0, m1, 0, 0, 1, true, true⟩, ⟨3, 0, 0, 300, 2, 0, m2, 0, 1, 1, true, false⟩]
def k3 (m1 m2 : Int) : List Ent := [⟨1, 0, 0, 300, 5, 60, m1, 0, 0, 1, false, false⟩, ⟨3, 0, 0, 300, 2, 0, m2, 0, 1, 1, true, false⟩]
def k4 (m1 m2 : Int) : List Ent := [⟨1, 0, 0, 300, 5, 60, m1, 0, 0, 1, false, false⟩, ⟨3, 0, 0, 300, 5, 50, m2, 0, 1, 1, false, false⟩]
theorem ks1 (m1 m2 : Int) : stepF ringC (-1) ([] ++ [newE 1 0 0 300 m1] ++ [newE 3 0 0 300 m2]) 0 0 = ⟨(2, 0, 0, 0, 0), 0, k1 m1 m2⟩ := by kernel_rfl
theorem ks2 (m1 m2 : Int) : stepF ringC 0 (k1 m1 m2) 1 0 = ⟨(3, 0, 2, 0, 0), 0, k2 m1 m2⟩ := by kernel_rfl
theorem ks3 (m1 m2 : Int) : stepF ringC 0 (k2 m1 m2) 0 60 = ⟨(3, 0, 1, 60, 0), 0, k3 m1 m2⟩ := by kernel_rfl
theorem ks4 (m1 m2 : Int) : stepF ringC 0 (k3 m1 m2) 0 50 = ⟨(4, 1, 0, 50, 0), 1, k4 m1 m2⟩ := by kernel_rfl
theorem ks5 (m1 m2 : Int) : stepF ringC 1 (k4 m1 m2) 0 0 = ⟨(1, 0, 0, 0, 0), 1, k4 m1 m2⟩ := by kernel_rfl
theorem kw (m1 m2 : Int) : ids isX (k2 m1 m2) = [1] := by kernel_rfl
theorem ku2 (m1 m2 : Int) : usedF (k2 m1 m2) = 600 := by kernel_rfl
theorem ku4 (m1 m2 : Int) : usedF (k4 m1 m2) = 0 := by kernel_rfl
theorem kp1 (m1 m2 : Int) : pollF (k4 m1 m2) 1 = (5, 0, 60, 0) := by kernel_rfl
theorem kp2 (m1 m2 : Int) : pollF (k4 m1 m2) 2 = (5, 0, 50, 0) := by kernel_rfl
theorem kc (m1 m2 : Int) : (cancelF (k4 m1 m2) 1).1 = 270 := by kernel_rfl
theorem keq {l : List (Int × Int)} (h : l.all (fun p => p.1 == p.2) = true) : eqPairs l = true := by
  induction l with
  | nil => rfl
  | cons p r ih =>
    obtain ⟨a, b⟩ := p
    simp only [List.all_cons, Bool.and_eq_true, beq_iff_eq] at h
    have hr := ih h.2
    cases r with
    | nil => simp [eqPairs, eqI_eq, h.1]
    | cons q s => simp only [eqPairs] at hr ⊢; simp [eqI_eq, h.1, hr]
theorem keeps_spec {h : H} {Q : Bool → HProp} (hQ : ∀ h', Ext h h' → Q true h') : law28_keeps () Q h := by
  unfold law28_keeps
  simp only [eqI_eq]
  refine new_i (E := eP) (l := ringL) rfl rfl fun b0 h1 V1 N1 e1 => ?_
  have A1 := V1.arr
  refine new_spec A1 (by decide) (fun hx => absurd ⟨ring_valid, by decide, by decide, by decide⟩ hx) fun _ b lv h2 T2 e2 nb => ?_
  refine new_spec (A1.ext e2) (by decide) (fun _ h3 e3 => ?_) fun hy => absurd hy.2.1 (by decide)
  have M : Mine h h3 b lv ⟨none, 0, 0⟩ ringC (-1) [] := ⟨T2.ext e3, (e1.trans e2).trans e3, e1.none nb, fun x ⟨a, ha, _⟩ => by cases ha⟩
  refine with_u (ite_f rfl (ite_f rfl ?_))
  have hcn : (1 : Int) ≤ ringC.n := by decide
  have hck : ringC.k ≠ 0 := by decide
  refine submit_spec M.t ring_valid (by decide) (by decide) (fun hx => absurd rfl hx) fun _ m1 h4 av4 T4 F4 hu4 _ _ _ => ?_
  have M4 := M.grow T4 F4 hu4
  refine submit_spec M4.t ring_valid (by decide) (by simp) (fun hx => absurd rfl hx) fun _ m2 h5 av5 T5 F5 hu5 _ _ _ => ?_
  have M5 := M4.grow T5 F5 hu5
  refine step_spec M5.t hcn hck (by simp) fun h6 T6 F6 => ?_
  rw [ks1] at T6 ⊢
  have M6 := M5.next T6 F6
  refine step_spec M6.t hcn hck (by simp [k1]) fun h7 T7 F7 => ?_
  rw [ks2] at T7 ⊢
  have M7 := M6.next T7 F7
  refine with_u (ite_f (by simp) (ite_f (by simp) (ite_f (by rw [keq rfl]; rfl) (ite_f (by rw [keq rfl]; rfl) ?_))))
  refine waiting_spec M7.t hcn (by simp [k2]) fun r8 h8 V8 N8 e8 => ?_
  rw [kw] at V8
  refine new_i (E := eI .i64) (l := [1]) rfl rfl fun b9 h9 V9 N9 e9 => ?_
  refine ints_spec (V8.ext e9).arr V9.arr (by decide) ?_
  have M9 := (M7.ext e8).ext e9
  refine ite_f rfl (used_spec M9.t hcn (by simp [k2]) fun h10 e10 => ?_)
  rw [ku2]
  have M10 := M9.ext e10
  refine ite_f rfl ?_
  refine step_spec M10.t hcn hck (by simp [k2]) fun h11 T11 F11 => ?_
  rw [ks3] at T11 ⊢
  have M11 := M10.next T11 F11
  refine step_spec M11.t hcn hck (by simp [k3]) fun h12 T12 F12 => ?_
  rw [ks4] at T12 ⊢
  have M12 := M11.next T12 F12
  refine poll_spec M12.t hcn (by simp [k4]) (poll_spec M12.t hcn (by simp [k4]) ?_)
  rw [kp1, kp2]
  refine step_spec M12.t hcn hck (by simp [k4]) fun h13 T13 F13 => ?_
  rw [ks5] at T13 ⊢
  have M13 := M12.next T13 F13
  refine with_u (ite_t (keq rfl) (ite_t (keq rfl) (ite_t (keq rfl) (ite_t (keq rfl) (ite_t (keq rfl) ?_)))))
  refine used_spec M13.t hcn (by simp [k4]) fun h14 e14 => ?_
  rw [ku4]
  have M14 := M13.ext e14
  refine ite_t rfl (cancel_spec M14.t hcn (by simp [k4]) fun h15 T15 F15 => ?_)
  rw [kc]
  exact hQ h15 (M14.next T15 F15).e

/-! ## a table that is none -/
def Non (h : H) (x : Option Addr) : Prop := ∀ Q : Bool → HProp, Q true h → table_Table_none x Q h
theorem non_nil {h : H} : Non h none := fun Q hQ => none_nil hQ
theorem non_zero {h : H} {b : Nat} {r : List Value} (o : Obj h b (.int .i64 0 :: r)) : Non h (some (at0 b)) := fun Q hQ => by
  unfold table_Table_none
  simp only [eqI_eq]
  exact with_u (ite_f (isNilP_some _) (deref_i (loadI_i (o.ld (j := 0) rfl) hQ)))
section
variable {h : H} {x : Option Addr}
theorem sub_non (N : Non h x) {a b c d : Int} {Q : Int × Int → HProp} (hQ : Q (0, 1) h) : table_Table_Submit (x, a, b, c, d) Q h := by
  unfold table_Table_Submit
  exact N _ (ite_t rfl hQ)
theorem find_non (N : Non h x) {a : Int} {Q : Option Addr × Int → HProp} (hQ : Q (none, 1) h) : table_Table_find (x, a) Q h := by
  unfold table_Table_find
  exact N _ (ite_t rfl hQ)
theorem poll_non (N : Non h x) {a : Int} {Q : Int × Int × Int × Int → HProp} (hQ : Q (0, 0, 0, 1) h) : table_Table_Poll (x, a) Q h := by
  unfold table_Table_Poll
  simp only [eqI_eq]
  exact find_non N (ite_t rfl hQ)
theorem res_non (N : Non h x) {a : Int} {Q : Sl × Int → HProp} (hQ : Q (Sl.mk none 0 0, 1) h) : table_Table_Result (x, a) Q h := by
  unfold table_Table_Result
  simp only [eqI_eq]
  exact find_non N (ite_t rfl hQ)
theorem cancel_non (N : Non h x) {a : Int} {Q : Int → HProp} (hQ : Q 1 h) : table_Table_Cancel (x, a) Q h := by
  unfold table_Table_Cancel
  simp only [eqI_eq]
  exact find_non N (ite_t rfl hQ)
theorem step_non (N : Non h x) {a b : Int} {Q : Int × Int × Int × Int × Int → HProp} (hQ : Q (0, 0, 0, 0, 1) h) : table_Table_Step (x, a, b) Q h := by
  unfold table_Table_Step
  exact N _ (ite_t rfl hQ)
theorem wait_non (N : Non h x) {Q : Sl → HProp} (hQ : Q (Sl.mk none 0 0) h) : table_Table_Waiting x Q h := by
  unfold table_Table_Waiting
  exact N _ (ite_t rfl hQ)
theorem used_non (N : Non h x) {Q : Int → HProp} (hQ : Q 0 h) : table_Table_Used x Q h := by
  unfold table_Table_Used
  exact N _ (ite_t rfl hQ)
end
theorem tableNone_spec {kind arg prio need n : Int} {h : H} {Q : Bool → HProp} (hQ : ∀ h', Ext h h' → Q true h') : law28_TableNone (kind, arg, prio, need, n) Q h := by
  unfold law28_TableNone
  simp only [eqI_eq, ltI_eq]
  refine Obj.new fun b h1 o1 n1 e1 => Obj.new fun b2 h2 o2 n2 e2 => ?_
  refine loop_i (fun (s : Int) h' => h' = h2 ∧ ∃ j : Nat, s = j ∧ j ≤ 2) (fun s => (2 - s).toNat) ⟨rfl, 0, rfl, by decide⟩ ?_
  rintro s h' ⟨rfl, j, rfl, hj⟩ k hk
  refine ite_i (fun hlt => ?_) fun hge => keeps_spec fun h'' e => hQ h'' ((e1.trans e2).trans e)
  have hlt : j < 2 := by have : (j : Int) < 2 := (by simpa using hlt); omega
  refine index_i (by omega) (by show (j : Int) < ((2 : Nat) : Int); omega) (by simp) fun a ha => ?_
  obtain ⟨q, hq, rfl⟩ := ha
  cases hq
  simp only [Int.toNat_natCast, Nat.mul_one]
  have main : ∀ x : Option Addr, Non h' x → (table_Table_Submit (x, kind, arg, prio, need) fun (r : Int × Int) =>
                table_Table_Poll (x, n) fun (r_1 : Int × Int × Int × Int) =>
                  table_Table_Result (x, n) fun (r_2 : Sl × Int) =>
                    table_Table_Step (x, n, 50) fun (r_3 : Int × Int × Int × Int × Int) =>
                      withK (fun (t : Bool) => iteW t (Q false) (k (add IntKind.i64 j 1)))
                        fun (k : Bool → HProp) =>
                        iteW (!decide (r.fst = 0)) (k true)
                          (iteW (!decide (r.snd = 1)) (k true)
                            (table_Table_Cancel (x, n) fun (r : Int) =>
                              iteW (!decide (r = 1)) (k true)
                                (iteW (!eqPairs [(r_1.fst, 0), (r_1.snd.fst, 0), (r_1.snd.snd.fst, 0)]) (k true)
                                  (iteW (!decide (r_1.snd.snd.snd = 1)) (k true)
                                    (iteW (!decide ((r_2.fst.len : Int) = 0)) (k true)
                                      (iteW (!decide (r_2.snd = 1)) (k true)
                                        (iteW
                                          (!eqPairs
                                              [(r_3.fst, 0), (r_3.snd.fst, 0), (r_3.snd.snd.fst, 0),
                                                (r_3.snd.snd.snd.fst, 0)])
                                          (k true)
                                          (iteW (!decide (r_3.snd.snd.snd.snd = 1)) (k true)
                                            (table_Table_Waiting x fun (r : Sl) =>
                                              iteW (!decide ((r.len : Int) = 0)) (k true)
                                                (table_Table_Used x fun (r : Int) => k !decide (r = 0)))))))))))) h' := by
    intro x N
    refine sub_non N (poll_non N (res_non N (step_non N ?_)))
    refine with_u (ite_f rfl (ite_f rfl (cancel_non N (ite_f rfl ?_))))
    refine ite_f (by rw [keq rfl]; rfl) (ite_f rfl (ite_f rfl (ite_f rfl (ite_f (by rw [keq rfl]; rfl) (ite_f rfl (wait_non N (ite_f rfl (used_non N (ite_f rfl ?_)))))))))
    rw [add_i64 (by omega) (by omega)]
    exact hk _ _ ⟨rfl, j + 1, by simp, by omega⟩ (by omega)
  match j, hlt with
  | 0, _ => exact loadP_i (n := none) (o2.ld (j := 0) rfl) (main _ non_nil)
  | 1, _ => exact loadP_i (n := some (at0 b)) (o2.ld (j := 1) rfl) (main _ (non_zero (o1.ext e2)))
end Go.Cz.S
