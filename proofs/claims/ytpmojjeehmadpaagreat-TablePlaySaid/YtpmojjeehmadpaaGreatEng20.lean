/- Part of the proof of a law of 28: an engine that runs a function over an abstract heap, and what the functions compute; own work. -/
import Derived.Test.YtpmojjeehmadpaaGreatEng19
set_option linter.unusedVariables false
set_option linter.unusedSimpArgs false
set_option linter.unusedSectionVars false
namespace Go.Cz
variable [Inhabited DrawnP]
open Go
set_option linter.unusedSimpArgs false
set_option linter.unusedVariables false
set_option linter.unusedSectionVars false
section
variable {G : Gl} {s : St}

theorem locVal_run (g : Good G s) {t : TypeId} {a : Nat} {x : SV} (hx : locVal G.P t s.e (s.e.get a) = x) (hne : x ≠ .und) :
    ∃ v, (do loadVar t (← asAddr (s.a.tmps.getD a undef))).run G.P s.w = .ok v s.w ∧ rel G.P s.β x v := by
  obtain ⟨y, hy, hr⟩ := rel_get g a
  generalize hq : s.e.get a = q at hx hr
  cases q <;> simp only [locVal] at hx <;> try (exact absurd hx.symm hne)
  rename_i id off
  simp only [rel] at hr
  subst hr
  split at hx
  · exact absurd hx.symm hne
  rename_i hnn
  cases hD : G.P.underlying t with
  | none => simp [noneT, hD] at hnn
  | some D =>
  unfold Env.loc at hx
  cases hloc : look s.e.locs id with
  | none =>
    simp only [hloc] at hx
    split at hx
    · split at hx
      · rename_i h; simp [Nat.blt] at h
      · exact absurd hx.symm hne
    · simp at hx; exact absurd hx.symm hne
  | some c =>
    simp only [hloc] at hx
    obtain ⟨h1, h2, h3, cs, T, h4, h5, h6, h7⟩ := g.locs id c hloc
    have hlen := relL_length h5
    simp at hlen
    cases hg : isAggT G.P t with
    | true =>
      simp only [hg, if_true] at hx
      split at hx
      · rename_i hb
        simp only [Bool.and_eq_true] at hb
        have hb1 := Nat.le_of_ble_eq_true hb.1
        subst hx
        obtain ⟨i, hi⟩ := underlying_info hD
        have hsz : sizeT G.P t = i.size := by simp [sizeT, hi]
        have hl : ((cs.toList.drop off).take i.size).length = i.size := by simp; omega
        have hc : ∀ j v, ((cs.toList.drop off).take i.size)[j]? = some v → s.w.cell? ((⟨s.β id, off, none⟩ : Addr).add j) = some v := by
          intro j v hj
          have hj' : cs[off + j]? = some v := by
            rw [List.getElem?_take] at hj
            split at hj
            · simpa using hj
            · cases hj
          have : (⟨s.β id, off, none⟩ : Addr).add j = ⟨s.β id, off + j, none⟩ := by unfold Addr.add; split <;> simp_all
          rw [this]
          simp [World.cell?, h4, hj']
        have hrun := run_loadCells_list (P := G.P) (w := s.w) ⟨s.β id, off, none⟩ ((cs.toList.drop off).take i.size) hc
        rw [hl] at hrun
        refine ⟨.agg ((cs.toList.drop off).take i.size).toArray, ?_, ?_⟩
        · rw [hy]
          simp [asAddr, loadVar, run_isAggT hD, hg, run_size hi, hrun]
        · simp only [rel]
          rw [hsz]
          exact ⟨_, rfl, relL_take _ (relL_drop _ h5)⟩
      · exact absurd hx.symm hne
    | false =>
      simp only [hg] at hx
      split at hx
      · rename_i h; cases h
      · cases hy' : c.drop off with
        | nil => simp [hy'] at hx; exact absurd hx.symm hne
        | cons z r =>
          simp only [hy'] at hx
          subst hx
          obtain ⟨v, hv, hrv⟩ := relL_get h5 hy'
          have hv' : cs[off]? = some v := by simpa using hv
          refine ⟨v, ?_, hrv⟩
          rw [hy]
          have hc : s.w.cell? ⟨s.β id, off, none⟩ = some v := by simp [World.cell?, h4, hv']
          simp [asAddr, loadVar, run_isAggT hD, hg, load, Sem.run, hc]

def resVar (tmps : Array Value) : ResultVar → Sem Value
  | .tmp t => pure (tmps.getD t undef)
  | .cell a t => do loadVar t (← asAddr (tmps.getD a undef))
theorem resVals_run (g : Good G s) : ∀ l : List ResultVar, noUnd (resVals G.P s.e l) = true → ∃ vs, (l.mapM (resVar s.a.tmps)).run G.P s.w = .ok vs s.w ∧ relL G.P s.β (resVals G.P s.e l) vs
  | [], _ => ⟨[], by simp, by simp [resVals, relL]⟩
  | .tmp t :: r, h => by
    simp only [resVals, noUnd, Bool.and_eq_true] at h
    obtain ⟨vs, h1, h2⟩ := resVals_run g r h.2
    obtain ⟨x, hx, hr⟩ := rel_get g t
    refine ⟨s.a.tmps.getD t undef :: vs, ?_, relL_cons.2 ⟨_, _, rfl, by rw [hx]; exact hr, h2⟩⟩
    simp [List.mapM_cons, resVar, h1]
  | .cell a t :: r, h => by
    simp only [resVals, noUnd, Bool.and_eq_true] at h
    obtain ⟨vs, h1, h2⟩ := resVals_run g r h.2
    obtain ⟨v, hv, hr⟩ := locVal_run g rfl (a := a) (t := t) (fun e => by rw [e] at h; simp at h)
    refine ⟨v :: vs, ?_, relL_cons.2 ⟨_, _, rfl, hr, h2⟩⟩
    simp only [List.mapM_cons, resVar, Sem.run_bind]
    simp only [Sem.run_bind] at hv
    rw [hv]
    simp [h1]
theorem results_run (g : Good G s) {fn : Func} (h : noUnd (resVals G.P s.e fn.results.toList) = true) : ∃ v, (results fn s.a.tmps).run G.P s.w = .ok v s.w ∧ rel G.P s.β (retSV (resVals G.P s.e fn.results.toList)) v := by
  obtain ⟨vs, h1, h2⟩ := resVals_run g fn.results.toList h
  have hlen := relL_length h2
  have e : (fn.results.mapM (resVar s.a.tmps)).run G.P s.w = .ok vs.toArray s.w := by
    rw [Array.mapM_eq_mapM_toList]
    simp [h1]
  have e2 : results fn s.a.tmps = (do let vs ← fn.results.mapM (resVar s.a.tmps); pure (if h : vs.size = 1 then vs[0] else .tuple vs)) := by
    unfold results
    congr 1
  refine ⟨if h : vs.toArray.size = 1 then vs.toArray[0] else .tuple vs.toArray, ?_, ?_⟩
  · rw [e2]; simp [e]
  · by_cases h1 : vs.toArray.size = 1
    · rw [dif_pos h1]
      match hr : resVals G.P s.e fn.results.toList, vs, h2, h1 with
      | [x], [v], h2, _ =>
        obtain ⟨u, us, e, k1, _⟩ := relL_cons.1 h2
        cases e
        simpa [retSV] using k1
      | [], [v], h2, _ => simp [relL] at h2
      | x :: y :: r, [v], h2, _ =>
        obtain ⟨u, us, e, _, k2⟩ := relL_cons.1 h2
        cases e
        obtain ⟨_, _, e, _⟩ := relL_cons.1 k2
        cases e
    · rw [dif_neg h1]
      have : (resVals G.P s.e fn.results.toList).length ≠ 1 := by rw [hlen]; simpa using h1
      unfold retSV
      split
      · rename_i x e; rw [e] at this; simp at this
      · simp only [rel]; exact ⟨_, rfl, h2⟩
end
end Go.Cz
