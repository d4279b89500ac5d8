/- Part of the proof of a law of 28: an engine that runs a function over an abstract heap, and what the functions compute; own work. -/
import Derived.Test.YtpmojjeehmadpaaGreatEng16
set_option linter.unusedVariables false
set_option linter.unusedSimpArgs false
set_option linter.unusedSectionVars false
namespace Go.Cz
variable [Inhabited DrawnP]
open Go
set_option linter.unusedSimpArgs false
set_option linter.unusedVariables false
set_option linter.unusedSectionVars false
section
variable {G : Gl} {s : St} {K : Env → HProp} {Q : Exit → Act → World → Prop} {o : Oper}

/-- where a guard looks -/
theorem yielded_of {ops : Array Oper} {tmps : Array Value} {j d : Nat} {b : Bool} (hd : dstOf ops j = some d) (hv : tmps.getD d undef = .bool b) : yielded ops tmps j = some b := by
  unfold dstOf at hd
  cases ho : ops.toList[j]? with
  | none => simp [ho] at hd
  | some o =>
    simp only [ho] at hd
    have ho' : ops[j]? = some o := by simpa using ho
    simp [yielded, ho', hd]
    simp [Array.getD_eq_getD_getElem?] at hv
    cases hx : tmps[d]? with
    | none => simp [hx, undef] at hv
    | some v => simp [hx] at hv; subst hv; simp [hx]
end
end Go.Cz
namespace Go.Cz
variable [Inhabited DrawnP]
open Go
section
variable {G : Gl} {s : St} {K : Env → HProp} {Q : Exit → Act → World → Prop} {o : Oper}

theorem Good.learn (g : Good G s) {d : Nat} {b : Bool} (hv : s.a.tmps[d]? = some (.bool b)) : Good G { s with e := s.e.put (some d) (.t b) } := by
  refine ⟨g.size, ?_, ?_, g.locs, g.inj, g.part, g.keeps⟩
  · intro n u hn
    simp only [Env.put, slotPut, look_cons] at hn
    by_cases e : d = n
    · subst e
      simp at hn; subst hn
      exact ⟨_, hv, by simp [rel]⟩
    · rw [if_neg e] at hn
      exact g.slots n u hn
  · intro n u hn
    simp only [Env.put, slotPut, look_cons] at hn
    by_cases e : d = n
    · subst e; simp at hn; subst hn; simp [below]
    · rw [if_neg e] at hn; exact g.wf n u hn
theorem Le.learn {d : Nat} {v : SV} : Le s { s with e := s.e.put (some d) v } := ⟨fun _ _ => rfl, Nat.le_refl _, ⟨[(d, v)], rfl⟩, ⟨[], rfl⟩, rfl⟩

theorem rel_tup0 {P : Program} {β : Nat → Nat} : rel P β (.tup []) undef := by
  simp only [rel]; exact ⟨#[], rfl, by simp [relL]⟩
theorem below_tup0 {n : Nat} : below n (.tup []) = true := by simp [below, belowL]
theorem yielded_undef {ops : Array Oper} {tmps : Array Value} {j d : Nat} (hd : dstOf ops j = some d) (hv : tmps.getD d undef = undef) : yielded ops tmps j = none := by
  unfold dstOf at hd
  cases ho : ops.toList[j]? with
  | none => simp [ho] at hd
  | some o =>
    simp only [ho] at hd
    have ho' : ops[j]? = some o := by simpa using ho
    simp [yielded, ho', hd]
    simp [Array.getD_eq_getD_getElem?] at hv
    cases hx : tmps[d]? with
    | none => simp [hx]
    | some v => simp [hx] at hv; subst hv; simp [hx, undef]
theorem doOps_sound {C : Ctx} (hC : C.P = G.P) (hE : ∀ x ∈ C.eqs, eqStructT G.P x.1 x.2 = true) (hΦ : ∀ en ∈ C.Φ, Linked G.P en) (hQ : LetsOut Q → False) {ops : Array Oper} : ∀ (l : List Oper) (s : St), Good G s → (∀ o ∈ l, ∀ n, o.dst = some n → n < G.N) →
    doOps C ops l s.e K s.h → (∀ s', K s'.e s'.h → Good G s' → Le s s' → Q .normal s'.a s'.w) → wpList G.P ops Q l s.a s.w
  | [], s, g, _, hK, hn => wpList_nil (hn s hK g (Le.refl s))
  | o :: rest, s, g, hd, hK, hn => by
    have hd0 := hd o (by simp)
    have hdr : ∀ o ∈ rest, ∀ n, o.dst = some n → n < G.N := fun o ho => hd o (by simp [ho])
    -- one that runs
    have run : ∀ (s1 : St), Good G s1 → Le s s1 → s1.a = s.a → s1.w = s.w → doOp C o s1.e (fun e' => doOps C ops rest e' K) s1.h → o.wp G.P s.a s.w (wpList G.P ops Q rest) Q := by
      intro s1 g1 le e1 e2 hK
      rw [← e1, ← e2]
      exact doOp_sound hC hE hΦ hQ g1 hd0 (fun s' hK' g' le' => doOps_sound hC hE hΦ hQ rest s' g' hdr hK' fun s'' hK'' g'' le'' => hn s'' hK'' g'' (le.trans (le'.trans le''))) hK
    -- one that is passed by
    have pass : ∀ (s1 : St), Good G s1 → Le s s1 → s1.a = s.a → s1.w = s.w → doOps C ops rest (s1.e.put o.dst (.tup [])) K s1.h → wpList G.P ops Q rest (s.a.put o.dst undef) s.w := by
      intro s1 g1 le e1 e2 hK
      rw [← e1, ← e2]
      exact doOps_sound hC hE hΦ hQ rest _ (g1.put (v := .tup []) (x := undef) rel_tup0 hd0 below_tup0) hdr hK fun s'' hK'' g'' le'' => hn s'' hK'' g'' (le.trans ((Le.put _ _ _).trans le''))
    unfold wpList
    simp only [doOps] at hK
    cases hg : o.guard with
    | none =>
      simp only [hg] at hK
      rw [if_pos (by simp [Region.wanted, hg])]
      exact .inl (run s g (Le.refl s) rfl rfl hK)
    | some jw =>
      obtain ⟨j, want⟩ := jw
      simp only [hg] at hK
      cases hds : dstOf ops j with
      | none => simp [hds, stuckW] at hK
      | some d =>
        simp only [hds] at hK
        obtain ⟨x, hx, hr⟩ := rel_get g d
        have hsl : s.e.get d ≠ .und → s.a.tmps[d]? = some x := by
          intro hne
          unfold Env.get at hne hr
          cases hl : look s.e.slots d with
          | none => simp [hl] at hne
          | some v =>
            obtain ⟨y, hy, _⟩ := g.slots d v hl
            simp [Array.getD_eq_getD_getElem?, hy] at hx
            rw [hy, hx]
        generalize hq : s.e.get d = q at hK hr hsl
        cases q <;> first | (simp [stuckW] at hK; done) | skip
        case tup l =>
          cases l with
          | cons x r => simp [stuckW] at hK
          | nil =>
            simp only [] at hK
            simp only [rel] at hr
            obtain ⟨vs, rfl, hvs⟩ := hr
            have hvs : vs.toList = [] := by simpa [relL] using hvs
            have hvs : vs = #[] := by simpa using hvs
            subst hvs
            have hy := yielded_undef (ops := ops) hds hx
            rw [if_neg (by simp [Region.wanted, hg, hy])]
            exact pass s g (Le.refl s) rfl rfl hK
        case t c =>
          simp only [] at hK
          simp only [rel] at hr
          subst hr
          have hy := yielded_of (ops := ops) hds hx
          by_cases hcw : c = want
          · subst hcw
            simp only [if_true] at hK
            rw [if_pos (by simp [Region.wanted, hg, hy])]
            exact .inl (run s g (Le.refl s) rfl rfl hK)
          · rw [if_neg hcw] at hK
            rw [if_neg (by simp [Region.wanted, hg, hy, hcw])]
            exact pass s g (Le.refl s) rfl rfl hK
        case b c =>
          simp only [] at hK
          simp only [rel] at hr
          subst hr
          have hy := yielded_of (ops := ops) hds hx
          have hv := hsl (by simp)
          unfold iteW at hK
          cases c with
          | true =>
            simp only [if_true] at hK
            cases want with
            | true =>
              simp only [if_true] at hK
              rw [if_pos (by simp [Region.wanted, hg, hy])]
              exact .inl (run _ (g.learn hv) Le.learn rfl rfl hK)
            | false =>
              simp only [Bool.false_eq_true, if_false] at hK
              rw [if_neg (by simp [Region.wanted, hg, hy])]
              exact pass _ (g.learn hv) Le.learn rfl rfl hK
          | false =>
            simp only [Bool.false_eq_true, if_false] at hK
            cases want with
            | true =>
              simp only [if_true] at hK
              rw [if_neg (by simp [Region.wanted, hg, hy])]
              exact pass _ (g.learn hv) Le.learn rfl rfl hK
            | false =>
              simp only [Bool.false_eq_true, if_false] at hK
              rw [if_pos (by simp [Region.wanted, hg, hy])]
              exact .inl (run _ (g.learn hv) Le.learn rfl rfl hK)
end
end Go.Cz
