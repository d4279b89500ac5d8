/- Part of the proof of a law of 28: an engine that runs a function over an abstract heap, and what the functions compute; own work. -/
import Derived.Test.YtpmojjeehmadpaaGreatEng17
set_option linter.unusedVariables false
set_option linter.unusedSimpArgs false
set_option linter.unusedSectionVars false
namespace Go.Cz
variable [Inhabited DrawnP]
open Go
set_option linter.unusedSimpArgs false
set_option linter.unusedVariables false
set_option linter.unusedSectionVars false
section
variable {P : Program} {ops : Array Oper} {Q : Exit → Act → World → Prop}

/-- like wpAny, with constraints on the worlds: what an operation that is not yet taken needs -/
def wpC (P : Program) (ops : Array Oper) (Q : Exit → Act → World → Prop) (dep : Nat → Nat → Bool) : Nat → List (Nat × (World → Prop)) → Array Bool → Act → World → Prop
  | 0, _, listed, a, w => Region.ready .any ops listed = [] ∧ Q .normal a w
  | f + 1, cs, listed, a, w => (Region.ready .any ops listed = [] → Q .normal a w) ∧
    ∀ j ∈ Region.ready .any ops listed, wpOp P ops Q j (fun a' w' => (∀ c ∈ cs, dep j c.1 = false → c.2 w') ∧ wpC P ops Q dep f (cs.filter fun c => !dep j c.1) (listed.setIfInBounds j true) a' w') a w

theorem wpC_any {dep : Nat → Nat → Bool} : ∀ (f : Nat) (cs : List (Nat × (World → Prop))) (listed : Array Bool) (a : Act) (w : World), wpC P ops Q dep f cs listed a w → wpAny P .any ops Q f listed a w
  | 0, cs, listed, a, w, h => h
  | f + 1, cs, listed, a, w, h => ⟨h.1, fun j hj => wpOp_mono (fun a' w' h' => wpC_any f _ _ a' w' h'.2) (h.2 j hj)⟩
theorem wpC_sub {dep : Nat → Nat → Bool} : ∀ (f : Nat) (cs ds : List (Nat × (World → Prop))) (listed : Array Bool) (a : Act) (w : World), (∀ c ∈ ds, c ∈ cs) → wpC P ops Q dep f cs listed a w → wpC P ops Q dep f ds listed a w
  | 0, cs, ds, listed, a, w, _, h => h
  | f + 1, cs, ds, listed, a, w, hs, h => ⟨h.1, fun j hj => wpOp_mono (fun a' w' h' => ⟨fun c hc hd => h'.1 c (hs c hc) hd, wpC_sub f _ _ _ a' w' (fun c hc => by
      rw [List.mem_filter] at hc ⊢
      exact ⟨hs c hc.1, hc.2⟩) h'.2⟩) (h.2 j hj)⟩

/-- an operation gives a value in each world that meets S -/
def YieldsS (P : Program) (ops : Array Oper) (S : World → Prop) (o : Oper) (v : Value) (a : Act) : Prop :=
  (Region.wanted o (yielded ops a.tmps) = true ∧ ∀ w, S w → (execOp a.eval o).run P w = .ok (.value v) w) ∨
  (Region.wanted o (yielded ops a.tmps) = false ∧ v = undef)
theorem YieldsS.wpOp {S : World → Prop} {i : Nat} {o : Oper} {v : Value} {a : Act} (hi : ops[i]? = some o) (hy : YieldsS P ops S o v a)
    {K : Act → World → Prop} {w : World} (hs : S w) (h : K (a.put o.dst v) w) : wpOp P ops Q i K a w := by
  unfold Go.wpOp
  simp only [hi]
  rcases hy with ⟨hw, hv⟩ | ⟨hw, rfl⟩
  · simp only [hw, if_true, Oper.wp, hv w hs, Oper.upon]; exact .inl h
  · simp only [hw, Bool.false_eq_true, if_false]; exact h
theorem YieldsS.of_same {S : World → Prop} {o : Oper} {v : Value} {a a' : Act} (hy : YieldsS P ops S o v a) (he : execOp a'.eval o = execOp a.eval o)
    (hw : Region.wanted o (yielded ops a'.tmps) = Region.wanted o (yielded ops a.tmps)) : YieldsS P ops S o v a' := by
  unfold YieldsS at *
  rw [he, hw]
  exact hy
theorem wpOp_putS {S : World → Prop} {j : Nat} {oi oj : Oper} {v : Value} (hj : ops[j]? = some oj) (hap : oi.apart ops oj = true)
    (hsi : ∀ cs b, oi.op ≠ .select cs b) (hsj : ∀ cs b, oj.op ≠ .select cs b)
    (hQ : ∀ c a w, Q (.panic c) (a.put oi.dst v) w → Q (.panic c) a w) {K : Act → World → Prop} {a : Act} {w : World}
    (hy : YieldsS P ops S oi v a) (h : wpOp P ops Q j K (a.put oi.dst v) w) :
    wpOp P ops Q j (fun a' w' => YieldsS P ops S oi v a' ∧ K (a'.put oi.dst v) w') a w := by
  obtain ⟨h1, h2, h3⟩ := Oper.apart_spec hap
  have keep : ∀ (a : Act), YieldsS P ops S oi v a → ∀ u, YieldsS P ops S oi v (a.put oj.dst u) := fun a hy u =>
    hy.of_same (execOp_put oi hsi a oj.dst u h3) (wanted_put oi a oj.dst u h3)
  have keepD : ∀ d, YieldsS P ops S oi v { a with defers := d :: a.defers } := fun d => hy.of_same rfl rfl
  unfold wpOp at *
  simp only [hj] at *
  rw [wanted_put oj a oi.dst v h1] at h
  split
  · rename_i hw
    simp only [hw, if_true] at h
    rcases h with h | ⟨hasks, hlets⟩
    case inr => exact .inr ⟨by unfold Oper.asks at *; rw [execOp_put oj hsj a oi.dst v h1] at hasks; exact hasks, hlets⟩
    refine .inl ?_
    unfold Oper.wp at *
    rw [execOp_put oj hsj a oi.dst v h1] at h
    generalize (execOp a.eval oj).run P w = r at *
    cases r with
    | ok n w' =>
      cases n <;> simp only [Oper.upon] at h ⊢
      case value u => exact ⟨keep a hy u, by rw [← Act.put_comm a v u h2]; exact h⟩
      case skip => exact ⟨keep a hy _, by rw [← Act.put_comm a v undef h2]; exact h⟩
      case defer d =>
        refine ⟨keep _ (keepD d) _, ?_⟩
        rw [← Act.put_comm _ v undef h2, ← Act.put_defers]
        exact h
      case enter f args =>
        refine Calls.mono h fun e w'' he => ?_
        cases e with
        | returned u => exact ⟨keep a hy u, by rw [← Act.put_comm a v u h2]; exact he⟩
        | panicked c => exact hQ _ _ _ he
        | outgrown => exact he
      case row row args => exact Rows.mono h fun u w'' he => ⟨keep a hy u, by rw [← Act.put_comm a v u h2]; exact he⟩
    | halt x w' =>
      cases x <;> simp only [Oper.upon] at h ⊢
      case panic u => exact hQ _ _ _ h
  · rename_i hw
    simp only [hw] at h
    exact ⟨keep a hy _, by rw [← Act.put_comm a v undef h2]; exact h⟩

/-- what is listed is closed -/
def Closed (ops : Array Oper) (listed : Array Bool) : Prop := ∀ (k : Nat) (o : Oper), ops[k]? = some o → listed.getD k false = true → ∀ e ∈ o.after, Region.binds .any e = true → listed.getD e.on false = true
theorem Closed.set {listed : Array Bool} {j : Nat} (hc : Closed ops listed) (hj : j ∈ Region.ready .any ops listed) : Closed ops (listed.setIfInBounds j true) := by
  intro k o hk hl e he hb
  by_cases e' : j = k
  · subst e'
    obtain ⟨_, o', ho', h⟩ := mem_ready.1 hj
    rw [hk] at ho'; cases ho'
    exact getD_set_true (h e he hb)
  · rw [getD_set_ne false e'] at hl
    exact getD_set_true (hc k o hk hl e he hb)

/-- AN OPERATION MAY BE TAKEN FIRST that gives its value in each world in which the others may leave it. -/
theorem wpC_first {dep : Nat → Nat → Bool} {S : World → Prop} {i : Nat} {oi : Oper} {v : Value} (hi : ops[i]? = some oi) (hsel : ∀ (j : Nat) (o : Oper) cs b, ops[j]? = some o → o.op ≠ .select cs b)
    (hdep : ∀ (listed : Array Bool) (j k : Nat), Closed ops listed → j ∈ Region.ready .any ops listed → dep j k = true → listed.getD k false = true)
    (hap : ∀ (j : Nat) (oj : Oper), ops[j]? = some oj → j ≠ i → dep j i = false → dep i j = false → oi.apart ops oj = true)
    (hQ : ∀ c a w, Q (.panic c) (a.put oi.dst v) w → Q (.panic c) a w) :
    ∀ (f : Nat) (cs : List (Nat × (World → Prop))) (listed : Array Bool) (a : Act) (w : World), Closed ops listed →
      i ∈ Region.ready .any ops listed → YieldsS P ops S oi v a → S w → (∀ c ∈ cs, c.2 w) →
      wpC P ops Q dep f (cs ++ [(i, S)]) (listed.setIfInBounds i true) (a.put oi.dst v) w → wpC P ops Q dep (f + 1) cs listed a w := by
  intro f
  have unl : ∀ {listed : Array Bool} {k : Nat}, k ∈ Region.ready .any ops listed → listed.getD k false = false := by
    intro listed k hk
    have h0 := (mem_ready.1 hk).1
    rcases Nat.lt_or_ge k listed.size with h' | h'
    · simp [h'] at h0 ⊢; exact h0
    · simp [Array.getElem?_eq_none h'] at h0
  induction f with
  | zero =>
    intro cs listed a w hcl hr hy hs hcs H
    refine ⟨fun h => (by rw [h] at hr; cases hr), fun j hj => ?_⟩
    by_cases hji : j = i
    · subst hji; exact hy.wpOp hi hs ⟨fun c hc _ => hcs c hc, H⟩
    · have := ready_mono hj hji
      rw [H.1] at this
      cases this
  | succ f ih =>
    intro cs listed a w hcl hr hy hs hcs H
    refine ⟨fun h => (by rw [h] at hr; cases hr), fun j hj => ?_⟩
    by_cases hji : j = i
    · subst hji
      refine hy.wpOp hi hs ⟨fun c hc _ => hcs c hc, wpC_sub _ _ _ _ _ _ (fun c hc => ?_) H⟩
      rw [List.mem_filter] at hc
      exact List.mem_append.2 (.inl hc.1)
    · have h1 := H.2 j (ready_mono hj hji)
      obtain ⟨hjun, oj, hoj, hall⟩ := mem_ready.1 hj
      have d1 : dep j i = false := by
        cases hd : dep j i with
        | false => rfl
        | true => have := hdep listed j i hcl hj hd; rw [unl hr] at this; cases this
      have d2 : dep i j = false := by
        cases hd : dep i j with
        | false => rfl
        | true => have := hdep listed i j hcl hr hd; rw [unl hj] at this; cases this
      have h2 := wpOp_putS hoj (hap j oj hoj hji d1 d2) (fun cs b => hsel i oi cs b hi) (fun cs b => hsel j oj cs b hoj) hQ hy h1
      refine wpOp_mono (fun a' w' h3 => ?_) h2
      obtain ⟨h3, h4, h5⟩ := h3
      have hf : (cs ++ [(i, S)]).filter (fun c => !dep j c.1) = cs.filter (fun c => !dep j c.1) ++ [(i, S)] := by
        rw [List.filter_append]
        congr 1
        simp [d1]
      rw [hf] at h5
      refine ⟨fun c hc hd => h4 c (List.mem_append.2 (.inl hc)) hd, ih _ _ a' w' (hcl.set hj) (ready_mono hr (Ne.symm hji)) h3 (h4 (i, S) (by simp) d1) (fun c hc => ?_) ?_⟩
      · rw [List.mem_filter] at hc
        exact h4 c (List.mem_append.2 (.inl hc.1)) (by simpa using hc.2)
      · rw [Array.setIfInBounds_comm _ _ hji]
        exact h5
end
end Go.Cz
