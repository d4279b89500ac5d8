/- Part of the proof of a law of 28: an engine that runs a function over an abstract heap, and what the functions compute; own work. -/
import Derived.Test.YtpmojjeehmadpaaP28k
set_option linter.unusedVariables false
set_option linter.unusedSimpArgs false
set_option linter.unusedSectionVars false
namespace Go.Cz.S
set_option maxRecDepth 100000
set_option maxHeartbeats 1000000
set_option linter.unusedSimpArgs false
set_option linter.unusedVariables false
section
variable {h : H} {b : Nat} {lv av : Sl} {c : Cfg} {pos : Int} {all : List Ent}
structure Res5 where
  ev : Int × Int × Int × Int × Int
  pos : Int
  all : List Ent
def stepF (c : Cfg) (pos : Int) (all : List Ent) (pk fault : Int) : Res5 :=
  if (ids isX all).length = 0 then ⟨((tickF c pos all fault).ev.1, (tickF c pos all fault).ev.2.1, (tickF c pos all fault).ev.2.2.1, (tickF c pos all fault).ev.2.2.2, 0), (tickF c pos all fault).pos, (tickF c pos all fault).all⟩
  else if pk < 0 ∨ ((ids isX all).length : Int) ≤ pk then ⟨(0, 0, 0, 0, 2), pos, all⟩
  else match (ids isX all)[pk.toNat]? with
    | some id => ⟨(3, pos, id, fault, 0), pos, upd (serveE c.k fault) all id⟩
    | none => ⟨(0, 0, 0, 0, 2), pos, all⟩
theorem step_spec (T : Tab h b lv av c pos all) (hn : 1 ≤ c.n) (hk0 : c.k ≠ 0) (hl : all.length ≤ 900000) {pk fault : Int} {Q : Int × Int × Int × Int × Int → HProp}
    (hQ : ∀ h', Tab h' b lv av c (stepF c pos all pk fault).pos (stepF c pos all pk fault).all → Fr (own b av) h h' → Q (stepF c pos all pk fault).ev h') : table_Table_Step (some (at0 b), pk, fault) Q h := by
  unfold table_Table_Step
  simp only [ltI_eq, eqI_eq, leI_eq]
  have hl' : all.length ≤ 1000000 := by omega
  unfold stepF at hQ
  refine none_spec T hn (ite_f rfl (those_spec T hl' does_expected fun r h1 V1 N1 E1 => ?_))
  have T1 := T.ext E1
  simp only [V1.len]
  refine ite_i (fun hz => ?_) fun hnz => ?_
  · rw [if_pos (by simpa using hz)] at hQ
    exact tick_spec T1 hn hk0 hl fun h2 T2 F2 => hQ h2 T2 (E1.fr.trans F2)
  · rw [if_neg (by simpa using hnz)] at hQ
    refine with_u (ite_i (fun h1 => ite_t rfl ?_) fun h1 => ite_i (fun h2 => ?_) fun h2 => ?_)
    · rw [if_pos (.inl (by simpa using h1))] at hQ
      exact hQ _ T1 E1.fr
    · rw [if_pos (.inr (by simpa using h2))] at hQ
      exact hQ _ T1 E1.fr
    · have h1 : ¬ (pk < 0) := by simpa using h1
      have h2 : ¬ (((ids isX all).length : Int) ≤ pk) := by simpa using h2
      rw [if_neg (fun hh => hh.elim h1 h2)] at hQ
      obtain ⟨q, rfl⟩ : ∃ q : Nat, pk = q := ⟨pk.toNat, by omega⟩
      have hq : q < (ids isX all).length := by omega
      rw [Int.toNat_natCast, List.getElem?_eq_getElem hq] at hQ
      simp only [] at hQ
      refine T1.all_ld (V1.arr.num hq ?_)
      obtain ⟨i, e, hx, hi, he, _⟩ := mem_ids (List.getElem_mem hq)
      rw [hx, upd_at _ he] at hQ
      rw [hx, sub1 (by omega)]
      refine T1.index hi fun a ha => deref_i (loadI_i (T1.ob.ld (j := 1) rfl) ?_)
      refine serve_spec T1 ha he fun h2 T2 F2 => ?_
      refine deref_i (loadI_i (T2.ob.ld (j := 4) rfl) ?_)
      have V2 : Vec h2 r (eI .i64) (ids isX all) := V1.fr F2 (new_own T N1)
      refine V2.arr.num hq ?_
      rw [hx]
      exact hQ h2 T2 (E1.fr.trans F2)
end

/-! ## a new table -/
theorem clone_spec {v : Sl} {L : List (Int × Int)} {h : H} (A : Arr h v eP L) (hL : L.length ≤ 100000) {Q : Sl → HProp} (hQ : ∀ u h', Arr h' u eP L → Ext h h' → Q u h') : slices_Clone_api_Edge_api_Edge v Q h := by
  unfold slices_Clone_api_Edge_api_Edge
  cases ha : v.a with
  | none =>
    have h0 : L = [] := List.length_eq_zero_iff.1 (by have := A.nil ha; have := A.le; have := A.len; omega)
    subst h0
    exact ite_t isNilP_none (hQ _ h Vec.nil0.arr (Ext.refl h))
  | some a =>
    refine ite_f (isNilP_some _) (Obj.new fun b0 h1 o1 n1 e1 => ?_)
    refine (A.ext e1).row (w := 2) rfl ?_
    rw [A.len]
    have V0 : Vec h1 ⟨some ⟨b0, 0, none⟩, 0, 0⟩ eP [] := ⟨rfl, Nat.le_refl _, (fun e => by cases e), fun a ha => by
      cases ha
      exact ⟨rfl, [], o1, by simp, by simp [Enc.all]⟩⟩
    refine V0.append_new e1 (fun x hx => by obtain ⟨a, ha, rfl⟩ := hx; cases ha; exact n1) (m := L) rfl rfl rfl (by simp; omega) fun u h2 V2 E2 N2 _ _ => ?_
    exact hQ u h2 V2.arr E2
def cutOk (n k : Int) : Bool := decide (1 ≤ n) && decide (n ≤ 256) && decide (1 ≤ k) && decide (k ≤ 16) && decide (k ≤ n)
theorem cut_spec {n k : Int} {h : H} {Q : Sl × Int → HProp} (hno : cutOk n k = false → Q (Sl.mk none 0 0, 2) h) (hyes : cutOk n k = true → ∀ v h', Ext h h' → Q (v, 0) h') : parts_Cut (n, k) Q h := by
  unfold parts_Cut
  simp only [ltI_eq, minI_eq]
  refine with_b (!cutOk n k) (fun kk hk => ?_) ?_
  · unfold cutOk at hk
    refine ite_i (fun h1 => ?_) fun h1 => ite_i (fun h2 => ?_) fun h2 => ite_i (fun h3 => ?_) fun h3 => ?_
    · have h1 : n < 1 := by simpa using h1
      rw [decide_eq_false (show ¬ (1 ≤ n) by omega)] at hk
      exact hk
    · have h2 : 256 < n := by simpa using h2
      rw [decide_eq_false (show ¬ (n ≤ 256) by omega)] at hk
      simpa using hk
    · have h3 : k < 1 := by simpa using h3
      rw [decide_eq_false (show ¬ (1 ≤ k) by omega)] at hk
      simpa using hk
    · have h1 : ¬ n < 1 := by simpa using h1
      have h2 : ¬ 256 < n := by simpa using h2
      have h3 : ¬ k < 1 := by simpa using h3
      rw [decide_eq_true (show 1 ≤ n by omega), decide_eq_true (show n ≤ 256 by omega), decide_eq_true (show 1 ≤ k by omega)] at hk
      simp only [Bool.true_and] at hk
      have e : (!(decide (k ≤ 16) && decide (k ≤ n))) = decide ((if 16 < n then 16 else n) < k) := by
        by_cases ha : k ≤ 16 <;> by_cases hb : k ≤ n <;> simp [ha, hb] <;> split <;> omega
      rw [e] at hk
      exact hk
  · refine ite_i (fun hc => hno (by simpa using hc)) fun hc => ?_
    have hc : cutOk n k = true := by simpa using hc
    have hc' := hc
    unfold cutOk at hc'
    simp at hc'
    obtain ⟨k', rfl⟩ : ∃ k' : Nat, k = k' := ⟨k.toNat, by omega⟩
    refine make_i (E := eP) (x0 := (0, 0)) rfl (by omega) (Int.le_refl _) (by omega) (by omega) fun v h1 V1 _ N1 E1 hne => ?_
    refine loop_i (fun (s : Int) h' => ∃ (j : Nat) (l : List (Int × Int)), s = j ∧ j ≤ k' ∧ l.length = k' ∧ Vec h' v eP l ∧ Ext h h') (fun s => ((k' : Int) - s).toNat) ⟨0, _, rfl, Nat.zero_le _, by simp, V1, E1⟩ ?_
    rintro s h' ⟨j, l, rfl, hj, hll, V, E⟩ k hk
    rw [V.len, hll]
    refine ite_i (fun hlt => ?_) fun hge => hyes hc v h' E
    have hlt : j < k' := by simpa using hlt
    refine must_i (by omega) (must_i (by omega) ?_)
    refine V.arr.index (by omega) (by omega) fun a ha => ?_
    refine V.stores (E := eP) (i := j) (x := (_, _)) (by simpa [eP] using ha) (by omega) rfl fun h2 V2 F2 => ?_
    rw [add_i64 (by omega) (by omega)]
    exact hk _ _ ⟨j + 1, _, by simp, by omega, by simp [hll], V2, E.of_new F2 N1⟩ (by omega)
def newOk (n : Int) (L : List (Int × Int)) (k tot : Int) : Prop := Valid n L ∧ cutOk n k = true ∧ 1 ≤ tot ∧ tot ≤ 1099511627776
theorem new_spec {n : Int} {v : Sl} {L : List (Int × Int)} {k tot : Int} {h : H} (A : Arr h v eP L) (hL : L.length ≤ 4096) {Q : Option Addr × Int → HProp}
    (hno : ¬ newOk n L k tot → ∀ h', Ext h h' → Q (none, 2) h')
    (hyes : newOk n L k tot → ∀ b lv h', Tab h' b lv ⟨none, 0, 0⟩ ⟨n, k, tot, L⟩ (-1) [] → Ext h h' → h b = none → Q (some (at0 b), 0) h') : table_New (n, v, k, tot) Q h := by
  unfold table_New truth_Of
  simp only [eqI_eq, ltI_eq]
  refine run_spec A hL (fun hx h1 E1 => ?_) fun hv hok r m h1 outL V1 hl1 N1 E1 _ _ _ => ?_
  · refine ite_t rfl (hno (fun hy => hx ⟨hy.1, ?_⟩) h1 E1)
    obtain ⟨a, b⟩ := hy.1.n
    unfold okReq
    simp [a, b]
  · refine ite_f rfl (cut_spec (fun hc => ?_) fun hc u h2 E2 => ?_)
    · exact ite_t rfl (hno (fun hy => by rw [hy.2.1] at hc; cases hc) h1 E1)
    · refine ite_f rfl ?_
      have E12 := E1.trans E2
      have key : (¬ (1 ≤ tot ∧ tot ≤ 1099511627776) → Q (none, 2) h2) := fun ht => hno (fun hy => ht hy.2.2) h2 E12
      refine with_b (!decide (1 ≤ tot ∧ tot ≤ 1099511627776)) (fun k hk => ?_) ?_
      · refine ite_i (fun h1 => ?_) fun h1 => ?_
        · have h1 : tot < 1 := by simpa using h1
          rw [decide_eq_false (show ¬ (1 ≤ tot ∧ tot ≤ 1099511627776) by omega)] at hk
          exact hk
        · have h1 : ¬ tot < 1 := by simpa using h1
          have e : (!decide (1 ≤ tot ∧ tot ≤ 1099511627776)) = decide (1099511627776 < tot) := by
            by_cases h2 : tot ≤ 1099511627776
            · rw [decide_eq_true (show 1 ≤ tot ∧ tot ≤ 1099511627776 from ⟨by omega, h2⟩), decide_eq_false (show ¬ (1099511627776 < tot) by omega)]; rfl
            · rw [decide_eq_false (show ¬ (1 ≤ tot ∧ tot ≤ 1099511627776) by omega), decide_eq_true (show 1099511627776 < tot by omega)]; rfl
          rw [e] at hk
          exact hk
      · refine ite_i (fun ht => key (fun hh => by rw [decide_eq_true hh] at ht; cases ht)) fun ht => ?_
        have ht : 1 ≤ tot ∧ tot ≤ 1099511627776 := by simpa using ht
        refine clone_spec (A.ext E12) (by omega) fun u h3 A3 E3 => ?_
        refine Obj.new fun b h4 o4 n4 e4 => ?_
        refine hyes ⟨hv, hc, ht⟩ b u h4 ⟨o4, A3.ext e4, Vec.nil0, fun hl x hx => ⟨fun e => ?_, fun ⟨a, ha, _⟩ => by cases ha⟩, fun ⟨a, ha, _⟩ => by cases ha⟩ ((E12.trans E3).trans e4) ((E12.trans E3).none n4)
        subst e
        obtain ⟨o, ho⟩ := A3.there hl hx
        rw [n4] at ho; cases ho

/-! ## Submit -/
def subErr (c : Cfg) (all : List Ent) (kind arg prio need : Int) : Int :=
  if okReq kind arg prio c.n = false then 2 else if need < 256 then 2 else if c.tot < need then 3 else if 999999 ≤ all.length ∨ 8 ≤ (ids isQ all).length then 230 else 0
def newE (kind arg prio need takes : Int) : Ent := ⟨kind, arg, prio, need, 1, 0, takes, 0, 0, 0, false, false⟩
theorem submit_spec {h : H} {b : Nat} {lv av : Sl} {c : Cfg} {pos : Int} {all : List Ent} (T : Tab h b lv av c pos all) (hv : Valid c.n c.L) (hL : c.L.length ≤ 4096) (hl : all.length ≤ 900000) {kind arg prio need : Int} {Q : Int × Int → HProp}
    (hno : subErr c all kind arg prio need ≠ 0 → ∀ h', Ext h h' → Q (0, subErr c all kind arg prio need) h')
    (hyes : subErr c all kind arg prio need = 0 → ∀ m h' av', Tab h' b lv av' c pos (all ++ [newE kind arg prio need m]) → Fr (own b av) h h' → (∀ x, av'.on x → av.on x ∨ h x = none) → 1 ≤ m → m ≤ 300 → (kind = 2 → m = arg) → Q ((all.length : Int) + 1, 0) h') :
    table_Table_Submit (some (at0 b), kind, arg, prio, need) Q h := by
  have hn := hv.n.1
  have hl' : all.length ≤ 1000000 := by omega
  unfold table_Table_Submit
  simp only [eqI_eq, ltI_eq, leI_eq]
  unfold subErr at hno hyes
  refine none_spec T hn (ite_f rfl (deref_i (loadI_i (T.ob.ld (j := 0) rfl) (check_spec ?_))))
  by_cases hok : okReq kind arg prio c.n = false
  · rw [if_pos hok] at hno
    rw [if_neg (by rw [hok]; decide)]
    exact ite_t rfl (hno (by decide) h (Ext.refl h))
  have hok' : okReq kind arg prio c.n = true := by simpa using hok
  rw [if_neg hok] at hno hyes
  rw [if_pos hok']
  refine ite_f rfl (ite_i (fun h1 => ?_) fun h1 => ?_)
  · rw [if_pos (by simpa using h1)] at hno
    exact hno (by decide) h (Ext.refl h)
  have h1 : ¬ need < 256 := by simpa using h1
  rw [if_neg h1] at hno hyes
  refine deref_i (loadI_i (T.ob.ld (j := 2) rfl) (ite_i (fun h2 => ?_) fun h2 => ?_))
  · rw [if_pos (by simpa using h2)] at hno
    exact hno (by decide) h (Ext.refl h)
  have h2 : ¬ c.tot < need := by simpa using h2
  rw [if_neg h2] at hno hyes
  have hav : av.len = all.length := T.va.len
  refine with_u (T.all_ld ?_)
  rw [hav]
  refine ite_f (by simp; omega) (those_spec T hl' does_queued fun r h3 V3 N3 E3 => ?_)
  rw [V3.len]
  have T3 := T.ext E3
  refine ite_i (fun hq => ?_) fun hq => ?_
  · have hq : (8 : Int) ≤ ((ids isQ all).length : Int) := by simpa using hq
    rw [if_pos (.inr (by omega))] at hno
    exact hno (by decide) h3 E3
  have hq : ¬ ((8 : Int) ≤ ((ids isQ all).length : Int)) := by simpa using hq
  rw [if_neg (by rintro (h | h) <;> omega)] at hyes
  refine deref_i (loadI_i (T3.ob.ld (j := 0) rfl) (deref_i (loadL_i (v := lv) (T3.ob.ld (j := 3) rfl) ?_)))
  unfold truth_Rounds
  refine run_spec T3.al hL (fun hx => absurd ⟨hv, hok'⟩ hx) fun _ _ r4 m h4 outL _ _ _ E4 m1 m2 m3 => ?_
  have T4 := T3.ext E4
  refine ite_f rfl (deref_i (loadL_i (v := av) (T4.ob.ld (j := 5) rfl) (keeps1 (T4.ob.ld (j := 5) rfl) ?_)))
  refine T4.va.append (m := [newE kind arg prio need m]) rfl (by simp [Enc.all]; rfl) rfl (by omega) fun u h5 V5 F5 hu5 => ?_
  have ob5 := T4.ob.fr F5 T4.ab
  refine deref_i (ob5.st (j := 5) (by simp) fun h6 o6 F6 => ?_)
  have hub : ¬ u.on b := fun hu => by
    rcases hu5 b hu with h | h
    · exact T.ab h
    · have := T4.ob; unfold Obj at this; rw [h] at this; cases this
  have T6 : Tab h6 b lv u c pos (all ++ [newE kind arg prio need m]) := by
    refine ⟨o6, (T4.al.frn F5 fun hl x hx => (T4.lb hl x hx).2).frn F6 fun hl x hx => (T4.lb hl x hx).1, V5.fr F6 (fun x hx e => hub (e ▸ hx)), fun hl x hx => ⟨(T4.lb hl x hx).1, fun hu => ?_⟩, hub⟩
    rcases hu5 x hu with h | h
    · exact (T4.lb hl x hx).2 h
    · obtain ⟨o, ho⟩ := T4.al.there hl hx; rw [h] at ho; cases ho
  refine deref_i (loadL_i (v := u) (T6.ob.ld (j := 5) rfl) ?_)
  have hul : (u.len : Int) = (all.length : Int) + 1 := by rw [V5.len]; simp
  rw [hul]
  refine hyes rfl m h6 u T6 ?_ ?_ m1 m2 m3
  · exact ((E3.trans E4).fr.trans (F5.mono fun x hx => .inr hx)).trans (F6.mono fun x hx => .inl hx)
  · intro x hx
    rcases hu5 x hx with h | h
    · exact .inl h
    · exact .inr ((E3.trans E4).none h)
end Go.Cz.S
