/- Part of the proof of a law of 28: an engine that runs a function over an abstract heap, and what the functions compute; own work. -/
import Derived.Test.YtpmojjeehmadpaaGreatEngD
set_option linter.unusedVariables false
set_option linter.unusedSimpArgs false
set_option linter.unusedSectionVars false
namespace Go.Cz
variable [Inhabited DrawnP]
open Go
set_option linter.unusedSimpArgs false
set_option linter.unusedVariables false
set_option linter.unusedSectionVars false

theorem wpC_weak {P : Program} {ops : Array Oper} {Q : Exit → Act → World → Prop} {dep : Nat → Nat → Bool} : ∀ (f : Nat) (cs ds : List (Nat × (World → Prop))) (listed : Array Bool) (a : Act) (w : World), (∀ c ∈ ds, c ∈ cs ∨ ∀ w, c.2 w) → wpC P ops Q dep f cs listed a w → wpC P ops Q dep f ds listed a w
  | 0, cs, ds, listed, a, w, _, h => h
  | f + 1, cs, ds, listed, a, w, hs, h => ⟨h.1, fun j hj => wpOp_mono (fun a' w' h' => ⟨fun c hc hd => (hs c hc).elim (fun hc => h'.1 c hc hd) (fun ht => ht w'), wpC_weak f _ _ _ a' w' (fun c hc => by
      rw [List.mem_filter] at hc
      rcases hs c hc.1 with h | h
      · exact .inl (List.mem_filter.2 ⟨h, hc.2⟩)
      · exact .inr h) h'.2⟩) (h.2 j hj)⟩

/-! ### sets as bits -/
theorem hasBit_eq (m i : Nat) : hasBit m i = m.testBit i := by
  unfold hasBit
  rw [Nat.testBit_eq_decide_div_mod_eq]
  show Nat.beq ((m >>> i) &&& 1) 1 = _
  rw [Nat.and_one_is_mod, Nat.shiftRight_eq_div_pow]
  rw [Bool.eq_iff_iff, Nat.beq_eq, decide_eq_true_iff]
theorem tb1 (n : Nat) : Nat.testBit 1 n = decide (n = 0) := by
  cases n with
  | zero => rfl
  | succ n => rw [Nat.testBit_succ]; simp
theorem maskOf_bit : ∀ (l : List Nat) (i : Nat), (maskOf l).testBit i = l.elem i
  | [], i => by simp [maskOf]
  | k :: r, i => by
    have e : maskOf (k :: r) = (1 <<< k) ||| maskOf r := rfl
    rw [e, Nat.testBit_or, maskOf_bit r, Nat.testBit_shiftLeft]
    by_cases h : i = k
    · subst h; simp
    · by_cases h2 : k ≤ i
      · have h3 : ¬ i - k = 0 := by omega
        have h4 : Nat.testBit 1 (i - k) = false := by rw [tb1]; simp [h3]
        simp [h4, h]
      · simp [h2, h]
theorem hasBit_mask (l : List Nat) (i : Nat) : hasBit (maskOf l) i = l.elem i := by rw [hasBit_eq, maskOf_bit]
theorem within_iff (a b : Nat) : within a b = true ↔ ∀ i, a.testBit i = true → b.testBit i = true := by
  unfold within
  rw [Nat.beq_eq]
  show a &&& b = a ↔ _
  constructor
  · intro h i hi
    have : (a &&& b).testBit i = true := by rw [h]; exact hi
    rw [Nat.testBit_and] at this
    simp at this; exact this.2
  · intro h
    apply Nat.eq_of_testBit_eq
    intro i
    rw [Nat.testBit_and]
    cases ha : a.testBit i with
    | false => rfl
    | true => rw [h i ha]; rfl
theorem within_mask (a b : List Nat) : within (maskOf a) (maskOf b) = a.all fun i => b.elem i := by
  rw [Bool.eq_iff_iff, within_iff, List.all_eq_true]
  constructor
  · intro h i hi
    have := h i (by rw [maskOf_bit]; simpa using hi)
    rw [maskOf_bit] at this; exact this
  · intro h i hi
    rw [maskOf_bit] at hi ⊢
    exact h i (by simpa using hi)
/-! ### closures of the order -/
theorem clos_prefix : ∀ (l : List Oper) (acc : List Nat) (e : Nat), e < acc.length → (clos l acc).getD e 0 = acc.getD e 0
  | [], acc, e, h => rfl
  | o :: r, acc, e, h => by
    rw [clos, clos_prefix r _ e (by simp; omega)]
    simp [List.getD_eq_getElem?_getD, List.getElem?_append_left h]
theorem closE_mem {acc : List Nat} {k : Nat} : ∀ {es : List Nat}, (closE acc es).testBit k = true → ∃ e ∈ es, k = e ∨ (acc.getD e 0).testBit k = true
  | [], h => by simp [closE] at h
  | e :: r, h => by
    have eq : closE acc (e :: r) = ((1 <<< e) ||| acc.getD e 0) ||| closE acc r := rfl
    rw [eq, Nat.testBit_or, Nat.testBit_or, Bool.or_eq_true, Bool.or_eq_true] at h
    rcases h with (h | h) | h
    · refine ⟨e, by simp, .inl ?_⟩
      rw [Nat.testBit_shiftLeft] at h
      simp only [Bool.and_eq_true, decide_eq_true_eq] at h
      have := h.2
      rw [tb1] at this
      simp at this; omega
    · exact ⟨e, by simp, .inr h⟩
    · obtain ⟨e', he', h⟩ := closE_mem h
      exact ⟨e', by simp [he'], h⟩
theorem clos_spec : ∀ (l : List Oper) (acc : List Nat) (j k : Nat), acc.length ≤ j → ((clos l acc).getD j 0).testBit k = true → ∃ o, l[j - acc.length]? = some o ∧ ∃ e ∈ edgesOf o, k = e ∨ (e < j ∧ ((clos l acc).getD e 0).testBit k = true)
  | [], acc, j, k, hj, h => by
    simp [clos, List.getD_eq_getElem?_getD, List.getElem?_eq_none hj] at h
  | o :: r, acc, j, k, hj, h => by
    rw [clos] at h ⊢
    by_cases hj' : j = acc.length
    · subst hj'
      rw [clos_prefix _ _ _ (by simp)] at h
      have : (acc ++ [closE acc (edgesOf o)]).getD acc.length 0 = closE acc (edgesOf o) := by simp [List.getD_eq_getElem?_getD]
      rw [this] at h
      obtain ⟨e, he, h⟩ := closE_mem h
      refine ⟨o, by simp, e, he, h.imp id fun h => ?_⟩
      have hlt : e < acc.length := by
        rcases Nat.lt_or_ge e acc.length with h' | h'
        · exact h'
        · simp [List.getD_eq_getElem?_getD, List.getElem?_eq_none h'] at h
      refine ⟨hlt, ?_⟩
      rw [clos_prefix _ _ _ (by simp; omega)]
      simpa [List.getD_eq_getElem?_getD, List.getElem?_append_left hlt] using h
    · obtain ⟨o', h1, h2⟩ := clos_spec r _ j k (by simp; omega) h
      refine ⟨o', ?_, h2⟩
      have : j - acc.length = (j - (acc.length + 1)) + 1 := by omega
      rw [this]
      simpa using h1
theorem edges_listed {ops : Array Oper} {listed : Array Bool} {o : Oper} (h : ∀ e ∈ o.after, Region.binds .any e = true → listed.getD e.on false = true) : ∀ e ∈ edgesOf o, listed.getD e false = true := by
  intro e he
  unfold edgesOf at he
  obtain ⟨x, hx, rfl⟩ := List.mem_map.1 he
  rw [List.mem_filter] at hx
  exact h x (by simpa using hx.1) hx.2
theorem dep_listed {ops : Array Oper} {listed : Array Bool} (hcl : Closed ops listed) : ∀ (j k : Nat), (∀ o, ops[j]? = some o → ∀ e ∈ edgesOf o, listed.getD e false = true) → depB (clos ops.toList []) j k = true → listed.getD k false = true := by
  intro j
  induction j using Nat.strongRecOn with
  | _ j ih =>
    intro k hj hd
    unfold depB at hd
    rw [hasBit_eq] at hd
    obtain ⟨o, ho, e, he, h⟩ := clos_spec ops.toList [] j k (by simp) hd
    have ho' : ops[j]? = some o := by simpa using ho
    have hel := hj o ho' e he
    rcases h with rfl | ⟨hlt, h⟩
    · exact hel
    · exact ih e hlt k (fun o' ho'' => edges_listed (ops := ops) (hcl e o' ho'' hel)) (by unfold depB; rw [hasBit_eq]; exact h)
theorem dep_ready {ops : Array Oper} (listed : Array Bool) (j k : Nat) (hcl : Closed ops listed) (hj : j ∈ Region.ready .any ops listed) (hd : depB (clos ops.toList []) j k = true) : listed.getD k false = true := by
  obtain ⟨_, o, ho, h⟩ := mem_ready.1 hj
  exact dep_listed hcl j k (fun o' ho' => by rw [ho] at ho'; cases ho'; exact edges_listed (ops := ops) h) hd

/-- the two lists of what is taken -/
structure LR (ops : Array Oper) (arr : Array Bool) (L : List Nat) : Prop where
  size : arr.size = ops.size
  mem : ∀ i, arr.getD i false = L.elem i
theorem LR.ready {ops : Array Oper} {arr : Array Bool} {L : List Nat} (h : LR ops arr L) (i : Nat) : i ∈ Region.ready .any ops arr ↔ readyB ops.toList L i = true := by
  rw [mem_ready]
  unfold readyB edgesM
  simp only [hasBit_mask, within_mask]
  have e0 : ops.toList[i]? = ops[i]? := by simp
  rw [e0]
  cases ho : ops[i]? with
  | none => simp
  | some o =>
    have hlt : i < arr.size := by rw [h.size]; exact (Array.getElem?_eq_some_iff.1 ho).1
    have e1 : arr.getD i true = arr.getD i false := by simp [hlt]
    rw [e1, h.mem]
    simp only [Bool.and_eq_true, Bool.not_eq_true', Option.some.injEq, exists_eq_left']
    constructor
    · rintro ⟨h1, h2⟩
      refine ⟨h1, ?_⟩
      rw [List.all_eq_true]
      intro e he
      have := edges_listed (ops := ops) h2 e he
      rw [h.mem] at this
      exact this
    · rintro ⟨h1, h2⟩
      refine ⟨h1, fun e he hb => ?_⟩
      rw [List.all_eq_true] at h2
      rw [h.mem]
      exact h2 e.on (by unfold edgesOf; exact List.mem_map.2 ⟨e, List.mem_filter.2 ⟨by simpa using he, hb⟩, rfl⟩)
theorem LR.set {ops : Array Oper} {arr : Array Bool} {L : List Nat} (h : LR ops arr L) {i : Nat} (hi : i ∈ Region.ready .any ops arr) : LR ops (arr.setIfInBounds i true) (i :: L) := by
  obtain ⟨_, o, ho, _⟩ := mem_ready.1 hi
  have hlt : i < arr.size := by rw [h.size]; exact (Array.getElem?_eq_some_iff.1 ho).1
  refine ⟨by simp [h.size], fun k => ?_⟩
  by_cases e : i = k
  · subst e; simp [hlt]
  · rw [getD_set_ne false e, h.mem]
    have : ¬ k = i := fun h => e h.symm
    simp [this]
theorem firstN_spec {P : Program} {ops : List Oper} {L : List Nat} : ∀ {l : List Nat} {i : Nat} {o : Oper}, firstN P ops L l = some (i, o) → ops[i]? = some o ∧ readyB ops L i = true ∧ (isN P o.op || isLoad o.op) = true
  | [], i, o, h => by simp [firstN] at h
  | k :: r, i, o, h => by
    simp only [firstN] at h
    cases ho : ops[k]? with
    | none => simp only [ho] at h; exact firstN_spec h
    | some o' =>
      simp only [ho] at h
      split at h
      · rename_i hc
        simp only [Bool.and_eq_true] at hc
        cases h
        exact ⟨ho, hc.1, hc.2⟩
      · exact firstN_spec h
theorem apart_of {ops : Array Oper} {x y : Oper} (h : apartL ops.toList x y = true) : x.apart ops y = true := by
  have looks : ∀ z : Oper, z.looksAt ops = looksL ops.toList z := by
    intro z
    unfold Oper.looksAt looksL
    congr 1
    · generalize z.op.operands.toList = l
      induction l with
      | nil => rfl
      | cons a r ih => cases a <;> simp [List.filterMap_cons, looksL.tmpsOf, ← ih]
    · cases z.guard with
      | none => rfl
      | some p =>
        obtain ⟨g, b⟩ := p
        simp only []
        have e : ops.toList[g]? = ops[g]? := by simp
        rw [e]
        cases ops[g]? with
        | none => rfl
        | some o => cases hd : o.dst <;> simp [hd]
  unfold apartL at h
  unfold Oper.apart
  simp only [Bool.and_eq_true] at h ⊢
  obtain ⟨h1, h2⟩ := h
  rw [looks x, looks y]
  constructor
  · cases hx : x.dst with
    | none => simp [hx]
    | some d =>
      simp only [hx, Bool.and_eq_true] at h1 ⊢
      refine ⟨by simpa using h1.1, ?_⟩
      cases hy : y.dst with
      | none => simp
      | some e =>
        have := h1.2
        simp only [hy, Bool.not_eq_true'] at this
        have hne : e ≠ d := fun e' => by subst e'; simp at this
        simp [hne]
  · cases hy : y.dst with
    | none => simp [hy]
    | some d => simp only [hy] at h2 ⊢; simpa using h2
theorem noSel_of : ∀ {l : List Oper}, noSelL l = true → ∀ o ∈ l, ∀ cs b, o.op ≠ .select cs b
  | [], _, o, ho, cs, b => by simp at ho
  | x :: r, h, o, ho, cs, b => by
    simp only [noSelL, Bool.and_eq_true] at h
    rcases List.mem_cons.1 ho with rfl | ho
    · intro e; rw [e] at h; simp at h
    · exact noSel_of h.2 o ho cs b
end Go.Cz
