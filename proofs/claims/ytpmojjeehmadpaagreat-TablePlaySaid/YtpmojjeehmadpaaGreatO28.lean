/- Part of the proof of a law of 28: an engine that runs a function over an abstract heap, and what the functions compute; own work. -/
import Derived.Test.YtpmojjeehmadpaaGreatD28
import Derived.Test.YtpmojjeehmadpaaGreatSpec1
set_option linter.unusedVariables false
set_option linter.unusedSimpArgs false
set_option linter.unusedSectionVars false
namespace Go.Cz.S
set_option maxRecDepth 100000
set_option linter.unusedVariables false
def cf1 (a b : Int) : Int := if a < b then -1 else if b < a then 1 else 0
theorem cf1_neg {a b : Int} : cf1 a b < 0 ↔ a < b := by unfold cf1; split <;> (try split) <;> simp_all
theorem cf1_zero {a b : Int} : cf1 a b = 0 ↔ a = b := by unfold cf1; split <;> (try split) <;> simp_all <;> omega
theorem cmp_spec {a b : Int} {Q : Int → HProp} {h : H} (hQ : Q (cf1 a b) h) : cmp_Compare_int (a, b) Q h := by
  unfold cmp_Compare_int cmp_isNaN_int
  simp only [ltI_eq, eqI_eq, decide_true, Bool.not_true]
  refine ite_f rfl (ite_f rfl (ite_i (fun h1 => ?_) fun h1 => ite_i (fun h2 => ?_) fun h2 => ?_))
  · have : cf1 a b = -1 := by simp at h1; simp [cf1, h1]
    rw [this] at hQ; exact hQ
  · have : cf1 a b = 1 := by simp at h1 h2; simp [cf1, Int.not_lt.2 h1, h2]
    rw [this] at hQ; exact hQ
  · have : cf1 a b = 0 := by simp at h1 h2; simp [cf1, Int.not_lt.2 h1, Int.not_lt.2 h2]
    rw [this] at hQ; exact hQ
theorem or_spec {b : Nat} {x y : Int} {Q : Int → HProp} {h : H} (o : Obj h b [.int .i64 x, .int .i64 y]) (hQ : Q (if x ≠ 0 then x else y) h) : cmp_Or_int (Sl.mk (some (Addr.mk b 0 none)) 2 2) Q h := by
  unfold cmp_Or_int
  refine loop_i (fun s h' => h' = h ∧ (s = 0 ∨ s = 1 ∧ x = 0 ∨ s = 2 ∧ x = 0 ∧ y = 0)) (fun s => (2 - s).toNat) ⟨rfl, .inl rfl⟩ ?_
  rintro s h' ⟨rfl, hs⟩
  simp only [ltI_eq, eqI_eq]
  intro k hk
  refine ite_i (fun h1 => ?_) fun h1 => ?_
  · simp only [decide_eq_true_eq] at h1
    refine index_i (by omega) (by simpa using h1) (by simp) ?_
    rintro a ⟨b', hb', rfl⟩
    cases hb'
    rcases hs with rfl | ⟨rfl, rfl⟩ | ⟨rfl, rfl, rfl⟩
    · refine loadI_i (o.ld (j := 0) rfl) (ite_i (fun h2 => ?_) fun h2 => ?_)
      · rw [if_pos (by simpa using h2)] at hQ; exact hQ
      · have : x = 0 := by simpa using h2
        rw [show add .i64 0 1 = 1 by rw [add_i64 (by decide) (by decide)]; rfl]
        exact hk _ _ ⟨rfl, .inr (.inl ⟨rfl, this⟩)⟩ (by decide)
    · refine loadI_i (o.ld (j := 1) rfl) (ite_i (fun h2 => ?_) fun h2 => ?_)
      · rw [if_neg (by simp)] at hQ; exact hQ
      · have : y = 0 := by simpa using h2
        rw [show add .i64 1 1 = 2 by rw [add_i64 (by decide) (by decide)]; rfl]
        exact hk _ _ ⟨rfl, .inr (.inr ⟨rfl, rfl, this⟩)⟩ (by decide)
    · simp at h1
  · have h1 : ¬ (s < 2) := by simpa using h1
    rcases hs with rfl | ⟨rfl, rfl⟩ | ⟨rfl, rfl, rfl⟩
    · omega
    · omega
    · rw [if_neg (by simp)] at hQ; exact hQ
end Go.Cz.S
