/- Part of the proof of a law of 28: an engine that runs a function over an abstract heap, and what the functions compute; own work. -/
import Derived.Test.YtpmojjeehmadpaaGreatEngE
import Derived.Test.YtpmojjeehmadpaaGreatEng18
set_option linter.unusedVariables false
set_option linter.unusedSimpArgs false
set_option linter.unusedSectionVars false
namespace Go.Cz
variable [Inhabited DrawnP]
open Go
set_option linter.unusedSimpArgs false
set_option linter.unusedVariables false
set_option linter.unusedSectionVars false

structure RecOk (s : St) (c : Rec) : Prop where
  heap : ∀ a, c.pl = .heap a → ∀ j u, c.vs[j]? = some u → s.h.cell? (a.add j) = some u
  loc : ∀ id off, c.pl = .loc id off → ∃ l, look s.e.locs id = some l ∧ toVs ((l.drop off).take c.vs.length) = some c.vs
def Con (s : St) (c : Rec) : Nat × (World → Prop) := (c.i, fun w => Reads w (c.pl.addr s.β) c.vs)

section
variable {G : Gl} {s : St}
theorem RecOk.reads {c : Rec} (g : Good G s) (h : RecOk s c) : Reads s.w (c.pl.addr s.β) c.vs := by
  cases hp : c.pl with
  | heap a => intro j u hj; exact g.part.cell (h.heap a hp j u hj)
  | loc id off =>
    obtain ⟨l, hl, hv⟩ := h.loc id off hp
    obtain ⟨h1, h2, h3, cs, T, h4, h5, h6, h7⟩ := g.locs id l hl
    have e := toVs_rel hv (relL_take c.vs.length (relL_drop off h5))
    intro j u hj
    have hj' : ((cs.toList.drop off).take c.vs.length)[j]? = some u := by rw [e]; exact hj
    have hc : cs[off + j]? = some u := by
      rw [List.getElem?_take] at hj'
      split at hj'
      · simpa using hj'
      · cases hj'
    show s.w.cell? ((⟨s.β id, off, none⟩ : Addr).add j) = some u
    rw [loc_add]
    simp [World.cell?, h4, hc]

theorem guarded_spec {ops : Array Oper} {o : Oper} {run pass : Env → HProp} (g : Good G s) (hK : guarded ops.toList o s.e run pass s.h) :
    ∃ e1, Good G { s with e := e1 } ∧ Le s { s with e := e1 } ∧ e1.locs = s.e.locs ∧ e1.nloc = s.e.nloc ∧
      ((Region.wanted o (yielded ops s.a.tmps) = true ∧ run e1 s.h) ∨ (Region.wanted o (yielded ops s.a.tmps) = false ∧ pass e1 s.h)) := by
  unfold guarded at hK
  cases hg : o.guard with
  | none =>
    simp only [hg] at hK
    exact ⟨s.e, g, Le.refl s, rfl, rfl, .inl ⟨by simp [Region.wanted, hg], hK⟩⟩
  | some jw =>
    obtain ⟨j, want⟩ := jw
    simp only [hg] at hK
    cases hoj : ops.toList[j]? with
    | none => simp [hoj, stuckW] at hK
    | some oj =>
    simp only [hoj] at hK
    cases hds : oj.dst with
    | none => simp [hds, stuckW] at hK
    | some d =>
      simp only [hds] at hK
      have hdst : dstOf ops j = some d := by simp [dstOf, hoj, hds]
      obtain ⟨x, hx, hr⟩ := rel_get g d
      have hsl : s.e.get d ≠ .und → s.a.tmps[d]? = some x := by
        intro hne
        unfold Env.get at hne hr
        cases hl : look s.e.slots d with
        | none => simp [hl] at hne
        | some v =>
          obtain ⟨y, hy, _⟩ := g.slots d v hl
          simp [Array.getD_eq_getD_getElem?, hy] at hx
          rw [hy, hx]
      generalize hq : s.e.get d = q at hK hr hsl
      cases q <;> first | (simp [stuckW] at hK; done) | skip
      case tup l =>
        cases l with
        | cons x r => simp [stuckW] at hK
        | nil =>
          simp only [] at hK
          simp only [rel] at hr
          obtain ⟨vs, rfl, hvs⟩ := hr
          have hvs : vs.toList = [] := by simpa [relL] using hvs
          have hvs : vs = #[] := by simpa using hvs
          subst hvs
          have hy := yielded_undef (ops := ops) hdst hx
          exact ⟨s.e, g, Le.refl s, rfl, rfl, .inr ⟨by simp [Region.wanted, hg, hy], hK⟩⟩
      case t c =>
        simp only [] at hK
        simp only [rel] at hr
        subst hr
        have hy := yielded_of (ops := ops) hdst hx
        refine ⟨s.e, g, Le.refl s, rfl, rfl, ?_⟩
        by_cases hcw : c = want
        · subst hcw
          simp only [if_true] at hK
          exact .inl ⟨by simp [Region.wanted, hg, hy], hK⟩
        · rw [if_neg hcw] at hK
          exact .inr ⟨by simp [Region.wanted, hg, hy, hcw], hK⟩
      case b c =>
        simp only [] at hK
        simp only [rel] at hr
        subst hr
        have hy := yielded_of (ops := ops) hdst hx
        have hv := hsl (by simp)
        refine ⟨s.e.put (some d) (.t c), g.learn hv, Le.learn, rfl, rfl, ?_⟩
        unfold iteW at hK
        cases c <;> cases want <;> simp only [if_true, Bool.false_eq_true, if_false] at hK
        · exact .inl ⟨by simp [Region.wanted, hg, hy], hK⟩
        · exact .inr ⟨by simp [Region.wanted, hg, hy], hK⟩
        · exact .inr ⟨by simp [Region.wanted, hg, hy], hK⟩
        · exact .inl ⟨by simp [Region.wanted, hg, hy], hK⟩

theorem sameW_spec {e e' : Env} {K : HProp} {h : H} : ∀ {l : List Rec}, sameW e e' l K h → K h ∧ ∀ c ∈ l, (∀ a, c.pl = .heap a → ∀ j u, c.vs[j]? = some u → h.cell? (a.add j) = some u) ∧
    (∀ id off, c.pl = .loc id off → (newKeys (e'.locs.length - e.locs.length) e'.locs).elem id = false)
  | [], hK => ⟨hK, fun c hc => by simp at hc⟩
  | c :: r, hK => by
    simp only [sameW] at hK
    cases hp : c.pl with
    | heap a =>
      simp only [hp] at hK
      unfold keepsW at hK
      obtain ⟨h1, h2⟩ := hK
      obtain ⟨h3, h4⟩ := sameW_spec h2
      refine ⟨h3, fun c' hc' => ?_⟩
      rcases List.mem_cons.1 hc' with rfl | hc'
      · exact ⟨fun b hb => by rw [hp] at hb; cases hb; exact h1, fun id off hb => by rw [hp] at hb; cases hb⟩
      · exact h4 c' hc'
    | loc id off =>
      simp only [hp] at hK
      cases he : (newKeys (e'.locs.length - e.locs.length) e'.locs).elem id with
      | true => simp only [he, if_true] at hK; simp [stuckW] at hK
      | false =>
        simp only [he, Bool.false_eq_true, if_false] at hK
        obtain ⟨h3, h4⟩ := sameW_spec hK
        refine ⟨h3, fun c' hc' => ?_⟩
        rcases List.mem_cons.1 hc' with rfl | hc'
        · exact ⟨fun b hb => (by rw [hp] at hb; cases hb), fun id' off' hb => (by rw [hp] at hb; cases hb; exact he)⟩
        · exact h4 c' hc'

theorem fold_both {F : Nat → Option HProp} {h : H} : ∀ {l : List Nat}, ((l.foldr (fun j acc => match F j with | some A => drawOps.bothL A acc | none => drawOps.stuckO) none).getD stuckW) h → ∀ j ∈ l, ∃ A, F j = some A ∧ A h
  | [], hK => by simp [stuckW] at hK
  | j :: r, hK => by
    simp only [List.foldr_cons] at hK
    generalize hacc : r.foldr (fun j acc => match F j with | some A => drawOps.bothL A acc | none => drawOps.stuckO) none = acc at hK
    cases hF : F j with
    | none => simp [hF, drawOps.stuckO, stuckW] at hK
    | some A =>
      simp only [hF] at hK
      intro k hk
      cases acc with
      | none =>
        simp only [drawOps.bothL, Option.getD_some] at hK
        rcases List.mem_cons.1 hk with rfl | hk
        · exact ⟨A, hF, hK⟩
        · -- the rest is empty
          cases r with
          | nil => simp at hk
          | cons x r =>
            simp only [List.foldr_cons] at hacc
            cases hFx : F x with
            | none => simp [hFx, drawOps.stuckO] at hacc
            | some B =>
              simp only [hFx] at hacc
              generalize List.foldr (fun j acc => match F j with | some A => drawOps.bothL A acc | none => drawOps.stuckO) none r = y at hacc
              cases y <;> simp [drawOps.bothL] at hacc
      | some B =>
        simp only [drawOps.bothL, Option.getD_some] at hK
        unfold bothW at hK
        rcases List.mem_cons.1 hk with rfl | hk
        · exact ⟨A, hF, hK.1⟩
        · refine fold_both (l := r) ?_ k hk
          rw [hacc]
          exact hK.2
theorem fold_ne {F : Nat → Option HProp} {h : H} {l : List Nat} (hK : ((l.foldr (fun j acc => match F j with | some A => drawOps.bothL A acc | none => drawOps.stuckO) none).getD stuckW) h) : l ≠ [] := by
  rintro rfl
  simp [stuckW] at hK
end
end Go.Cz
