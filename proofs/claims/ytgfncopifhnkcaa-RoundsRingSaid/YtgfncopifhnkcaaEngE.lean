/- Part of the proof of a law of 22: an engine that runs a function over an abstract heap, and what the functions compute; own work. -/
import Derived.Test.YtgfncopifhnkcaaEngD
set_option linter.unusedVariables false
set_option linter.unusedSimpArgs false
set_option linter.unusedSectionVars false
namespace Go.Cz
open Go
set_option linter.unusedSimpArgs false
set_option linter.unusedVariables false

theorem wpC_weak {P : Program} {ops : Array Oper} {Q : Exit → Act → World → Prop} {dep : Nat → Nat → Bool} : ∀ (f : Nat) (cs ds : List (Nat × (World → Prop))) (listed : Array Bool) (a : Act) (w : World), (∀ c ∈ ds, c ∈ cs ∨ ∀ w, c.2 w) → wpC P ops Q dep f cs listed a w → wpC P ops Q dep f ds listed a w
  | 0, cs, ds, listed, a, w, _, h => h
  | f + 1, cs, ds, listed, a, w, hs, h => ⟨h.1, fun j hj => wpOp_mono (fun a' w' h' => ⟨fun c hc hd => (hs c hc).elim (fun hc => h'.1 c hc hd) (fun ht => ht w'), wpC_weak f _ _ _ a' w' (fun c hc => by
      rw [List.mem_filter] at hc
      rcases hs c hc.1 with h | h
      · exact .inl (List.mem_filter.2 ⟨h, hc.2⟩)
      · exact .inr h) h'.2⟩) (h.2 j hj)⟩

/-! ### closures of the order -/
theorem clos_prefix : ∀ (l : List Oper) (acc : List (List Nat)) (e : Nat), e < acc.length → (clos l acc).getD e [] = acc.getD e []
  | [], acc, e, h => rfl
  | o :: r, acc, e, h => by
    rw [clos, clos_prefix r _ e (by simp; omega)]
    simp [List.getD_eq_getElem?_getD, List.getElem?_append_left h]
theorem fold_mem {acc : List (List Nat)} {k : Nat} : ∀ {es : List Nat}, k ∈ es.foldr (fun i l => i :: (acc.getD i [] ++ l)) [] → ∃ e ∈ es, k = e ∨ k ∈ acc.getD e []
  | [], h => by simp at h
  | e :: r, h => by
    simp only [List.foldr_cons, List.mem_cons, List.mem_append] at h
    rcases h with h | h | h
    · exact ⟨e, by simp, .inl h⟩
    · exact ⟨e, by simp, .inr h⟩
    · obtain ⟨e', he', h⟩ := fold_mem h
      exact ⟨e', by simp [he'], h⟩
theorem clos_spec : ∀ (l : List Oper) (acc : List (List Nat)) (j k : Nat), acc.length ≤ j → k ∈ (clos l acc).getD j [] → ∃ o, l[j - acc.length]? = some o ∧ ∃ e ∈ edgesOf o, k = e ∨ (e < j ∧ k ∈ (clos l acc).getD e [])
  | [], acc, j, k, hj, h => by
    simp [clos, List.getD_eq_getElem?_getD, List.getElem?_eq_none hj] at h
  | o :: r, acc, j, k, hj, h => by
    rw [clos] at h ⊢
    by_cases hj' : j = acc.length
    · subst hj'
      rw [clos_prefix _ _ _ (by simp)] at h
      have : (acc ++ [(edgesOf o).foldr (fun i l => i :: (acc.getD i [] ++ l)) []]).getD acc.length [] = (edgesOf o).foldr (fun i l => i :: (acc.getD i [] ++ l)) [] := by simp [List.getD_eq_getElem?_getD]
      rw [this] at h
      obtain ⟨e, he, h⟩ := fold_mem h
      refine ⟨o, by simp, e, he, h.imp id fun h => ?_⟩
      have hlt : e < acc.length := by
        rcases Nat.lt_or_ge e acc.length with h' | h'
        · exact h'
        · simp [List.getD_eq_getElem?_getD, List.getElem?_eq_none h'] at h
      refine ⟨hlt, ?_⟩
      rw [clos_prefix _ _ _ (by simp; omega)]
      simpa [List.getD_eq_getElem?_getD, List.getElem?_append_left hlt] using h
    · obtain ⟨o', h1, h2⟩ := clos_spec r _ j k (by simp; omega) h
      refine ⟨o', ?_, h2⟩
      have : j - acc.length = (j - (acc.length + 1)) + 1 := by omega
      rw [this]
      simpa using h1
theorem edges_listed {ops : Array Oper} {listed : Array Bool} {o : Oper} (h : ∀ e ∈ o.after, Region.binds .any e = true → listed.getD e.on false = true) : ∀ e ∈ edgesOf o, listed.getD e false = true := by
  intro e he
  unfold edgesOf at he
  obtain ⟨x, hx, rfl⟩ := List.mem_map.1 he
  rw [List.mem_filter] at hx
  exact h x (by simpa using hx.1) hx.2
theorem dep_listed {ops : Array Oper} {listed : Array Bool} (hcl : Closed ops listed) : ∀ (j k : Nat), (∀ o, ops[j]? = some o → ∀ e ∈ edgesOf o, listed.getD e false = true) → depB (clos ops.toList []) j k = true → listed.getD k false = true := by
  intro j
  induction j using Nat.strongRecOn with
  | _ j ih =>
    intro k hj hd
    unfold depB at hd
    have hd : k ∈ (clos ops.toList []).getD j [] := by simpa using hd
    obtain ⟨o, ho, e, he, h⟩ := clos_spec ops.toList [] j k (by simp) hd
    have ho' : ops[j]? = some o := by simpa using ho
    have hel := hj o ho' e he
    rcases h with rfl | ⟨hlt, h⟩
    · exact hel
    · exact ih e hlt k (fun o' ho'' => edges_listed (ops := ops) (hcl e o' ho'' hel)) (by unfold depB; simpa using h)
theorem dep_ready {ops : Array Oper} (listed : Array Bool) (j k : Nat) (hcl : Closed ops listed) (hj : j ∈ Region.ready .any ops listed) (hd : depB (clos ops.toList []) j k = true) : listed.getD k false = true := by
  obtain ⟨_, o, ho, h⟩ := mem_ready.1 hj
  exact dep_listed hcl j k (fun o' ho' => by rw [ho] at ho'; cases ho'; exact edges_listed (ops := ops) h) hd

/-- the two lists of what is taken -/
structure LR (ops : Array Oper) (arr : Array Bool) (L : List Nat) : Prop where
  size : arr.size = ops.size
  mem : ∀ i, arr.getD i false = L.elem i
theorem LR.ready {ops : Array Oper} {arr : Array Bool} {L : List Nat} (h : LR ops arr L) (i : Nat) : i ∈ Region.ready .any ops arr ↔ readyB ops.toList L i = true := by
  rw [mem_ready]
  unfold readyB
  have e0 : ops.toList[i]? = ops[i]? := by simp
  rw [e0]
  cases ho : ops[i]? with
  | none => simp
  | some o =>
    have hlt : i < arr.size := by rw [h.size]; exact (Array.getElem?_eq_some_iff.1 ho).1
    have e1 : arr.getD i true = arr.getD i false := by simp [hlt]
    rw [e1, h.mem]
    simp only [Bool.and_eq_true, Bool.not_eq_true', Option.some.injEq, exists_eq_left']
    constructor
    · rintro ⟨h1, h2⟩
      refine ⟨h1, ?_⟩
      rw [List.all_eq_true]
      intro e he
      have := edges_listed (ops := ops) h2 e he
      rw [h.mem] at this
      exact this
    · rintro ⟨h1, h2⟩
      refine ⟨h1, fun e he hb => ?_⟩
      rw [List.all_eq_true] at h2
      rw [h.mem]
      exact h2 e.on (by unfold edgesOf; exact List.mem_map.2 ⟨e, List.mem_filter.2 ⟨by simpa using he, hb⟩, rfl⟩)
theorem LR.set {ops : Array Oper} {arr : Array Bool} {L : List Nat} (h : LR ops arr L) {i : Nat} (hi : i ∈ Region.ready .any ops arr) : LR ops (arr.setIfInBounds i true) (i :: L) := by
  obtain ⟨_, o, ho, _⟩ := mem_ready.1 hi
  have hlt : i < arr.size := by rw [h.size]; exact (Array.getElem?_eq_some_iff.1 ho).1
  refine ⟨by simp [h.size], fun k => ?_⟩
  by_cases e : i = k
  · subst e; simp [hlt]
  · rw [getD_set_ne false e, h.mem]
    have : ¬ k = i := fun h => e h.symm
    simp [this]
theorem firstN_spec {P : Program} {ops : List Oper} {L : List Nat} : ∀ {l : List Nat} {i : Nat} {o : Oper}, firstN P ops L l = some (i, o) → ops[i]? = some o ∧ readyB ops L i = true ∧ (isN P o.op || isLoad o.op) = true
  | [], i, o, h => by simp [firstN] at h
  | k :: r, i, o, h => by
    simp only [firstN] at h
    cases ho : ops[k]? with
    | none => simp only [ho] at h; exact firstN_spec h
    | some o' =>
      simp only [ho] at h
      split at h
      · rename_i hc
        simp only [Bool.and_eq_true] at hc
        cases h
        exact ⟨ho, hc.1, hc.2⟩
      · exact firstN_spec h
theorem apart_of {ops : Array Oper} {x y : Oper} (h : apartL ops.toList x y = true) : x.apart ops y = true := by
  have looks : ∀ z : Oper, z.looksAt ops = looksL ops.toList z := by
    intro z
    unfold Oper.looksAt looksL
    congr 1
    · generalize z.op.operands.toList = l
      induction l with
      | nil => rfl
      | cons a r ih => cases a <;> simp [List.filterMap_cons, looksL.tmpsOf, ← ih]
    · cases z.guard with
      | none => rfl
      | some p =>
        obtain ⟨g, b⟩ := p
        simp only []
        have e : ops.toList[g]? = ops[g]? := by simp
        rw [e]
        cases ops[g]? with
        | none => rfl
        | some o => cases hd : o.dst <;> simp [hd]
  unfold apartL at h
  unfold Oper.apart
  simp only [Bool.and_eq_true] at h ⊢
  obtain ⟨h1, h2⟩ := h
  rw [looks x, looks y]
  constructor
  · cases hx : x.dst with
    | none => simp [hx]
    | some d =>
      simp only [hx, Bool.and_eq_true] at h1 ⊢
      refine ⟨by simpa using h1.1, ?_⟩
      cases hy : y.dst with
      | none => simp
      | some e =>
        have := h1.2
        simp only [hy, Bool.not_eq_true'] at this
        have hne : e ≠ d := fun e' => by subst e'; simp at this
        simp [hne]
  · cases hy : y.dst with
    | none => simp [hy]
    | some d => simp only [hy] at h2 ⊢; simpa using h2
theorem noSel_of : ∀ {l : List Oper}, noSelL l = true → ∀ o ∈ l, ∀ cs b, o.op ≠ .select cs b
  | [], _, o, ho, cs, b => by simp at ho
  | x :: r, h, o, ho, cs, b => by
    simp only [noSelL, Bool.and_eq_true] at h
    rcases List.mem_cons.1 ho with rfl | ho
    · intro e; rw [e] at h; simp at h
    · exact noSel_of h.2 o ho cs b
end Go.Cz
