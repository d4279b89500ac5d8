/- Part of the proof of a law of 28: an engine that runs a function over an abstract heap, and what the functions compute; own work. -/
import Derived.Test.YtpmojjeehmadpaaGreatEng14
import Derived.Laws.StructEq
set_option linter.unusedVariables false
set_option linter.unusedSimpArgs false
set_option linter.unusedSectionVars false
namespace Go.Cz
variable [Inhabited DrawnP]
open Go
set_option linter.unusedSimpArgs false
set_option linter.unusedVariables false
set_option linter.unusedSectionVars false
section
variable {P : Program} {w : World}
theorem eqT {t : TypeId} {n : Nat} (h : eqStructT P t n = true) : ∃ fs, P.underlying t = some (.struct fs) ∧ fs.toList.length = n ∧ intFields P 0 fs.toList = true ∧ P.stoodInHeld t = false ∧ P.eqGuardType P.depth t = false := by
  unfold eqStructT at h
  split at h
  · rename_i fs hfs
    simp only [Bool.and_eq_true, Bool.not_eq_true'] at h
    exact ⟨fs, hfs, Nat.eq_of_beq_eq_true h.1.1.1, h.1.1.2, h.1.2, h.2⟩
  · cases h
theorem eqPairs_cons (a b : Int) (r : List (Int × Int)) : eqPairs ((a, b) :: r) = (eqI a b && eqPairs r) := by
  cases r <;> simp [eqPairs]
theorem run_part_int {t : TypeId} {k : IntKind} {cs : Array Value} {n : Nat} {v : Value} (ht : P.underlying t = some (.int k)) (hv : cs[n]? = some v) : (part t cs n).run P w = .ok v w := by
  have : isAggT P t = false := by simp [isAggT, ht]
  simp [part, run_isAggT ht, this, hv]
theorem run_eqFields_ints {β : Nat → Nat} (d : Nat) (xs ys : Array Value) : ∀ (fs : List Field) (n : Nat) (la lb : List SV) (l : List (Int × Int)), intFields P n fs = true → eqLeaves la lb = some l → la.length = fs.length →
    (∀ j (v : SV), la[j]? = some v → ∃ x, xs[n + j]? = some x ∧ rel P β v x) → (∀ j (v : SV), lb[j]? = some v → ∃ x, ys[n + j]? = some x ∧ rel P β v x) →
    (Op.eqFields (d + 1) xs ys fs).run P w = .ok (eqPairs l) w
  | [], n, la, lb, l, _, he, hl, _, _ => by
    have : la = [] := List.length_eq_zero_iff.1 hl
    subst this
    cases lb <;> simp [eqLeaves] at he
    subst he
    simp [Op.eqFields, eqPairs]
  | f :: r, n, la, lb, l, hi, he, hl, hx, hy => by
    match la, lb, he, hl with
    | .i k a :: la, .i k' b :: lb, he, hl =>
      simp only [eqLeaves] at he
      split at he
      case isFalse => cases he
      rename_i hkk
      cases hr : eqLeaves la lb with
      | none => simp [hr] at he
      | some l' =>
        simp only [hr, Option.some.injEq] at he
        subst he
        simp only [intFields, Bool.and_eq_true, Bool.not_eq_true'] at hi
        obtain ⟨⟨⟨h1, h2⟩, h3⟩, h4⟩ := hi
        have h1 := Nat.eq_of_beq_eq_true h1
        have h2 : f.name ≠ "_" := by simpa using h2
        split at h3 <;> try (cases h3; done)
        rename_i kk hu
        obtain ⟨x, hx1, hx2⟩ := hx 0 (.i k a) rfl
        obtain ⟨y, hy1, hy2⟩ := hy 0 (.i k' b) rfl
        simp only [rel] at hx2 hy2
        subst hx2 hy2
        have hp1 : (part f.type xs f.offset).run P w = .ok (.int k a) w := run_part_int hu (by rw [h1]; simpa using hx1)
        have hp2 : (part f.type ys f.offset).run P w = .ok (.int k' b) w := run_part_int hu (by rw [h1]; simpa using hy1)
        have ih := run_eqFields_ints d xs ys r (n + 1) la lb l' h4 hr (by simpa using hl) (fun j v hv => by have := hx (j + 1) v (by simpa using hv); rwa [show n + (j + 1) = n + 1 + j by omega] at this) (fun j v hv => by have := hy (j + 1) v (by simpa using hv); rwa [show n + (j + 1) = n + 1 + j by omega] at this)
        rw [Op.eqFields, eqPairs_cons]
        simp only [if_pos h2, Sem.run_bind, hp1, hp2, Result.andThen_ok]
        subst hkk
        have he : (Op.equalIn (d + 1) f.type (.int k a) (.int k b)).run P w = .ok (a == b) w := by simp [Op.equalIn, run_underlying hu]
        rw [he]
        have : (a == b) = eqI a b := by unfold eqI; rfl
        rw [this]
        cases eqI a b
        · simp
        · simpa using ih
end
theorem relL_at {P : Program} {β : Nat → Nat} : ∀ {l : List SV} {vs : List Value} {j : Nat} {v : SV}, relL P β l vs → l[j]? = some v → ∃ x, vs[j]? = some x ∧ rel P β v x
  | [], vs, j, v, h, e => by simp at e
  | x :: r, vs, 0, v, h, e => by
    obtain ⟨y, us, rfl, h1, h2⟩ := relL_cons.1 h
    simp at e; subst e
    exact ⟨y, rfl, h1⟩
  | x :: r, vs, j + 1, v, h, e => by
    obtain ⟨y, us, rfl, h1, h2⟩ := relL_cons.1 h
    obtain ⟨z, hz, hr⟩ := relL_at h2 (by simpa using e)
    exact ⟨z, by simpa using hz, hr⟩
theorem run_eqAgg {P : Program} {w : World} {ρ : Operand → Value} {o : Oper} {β : Nat → Nat} {op : BinOp} {t u : TypeId} {x y : Operand} {la lb : List SV} {l : List (Int × Int)} {xs ys : Array Value} (ho : o.op = .binOp op t x y u) (hx : ρ x = .agg xs) (hy : ρ y = .agg ys)
    (h1 : relL P β la xs.toList) (h2 : relL P β lb ys.toList) (he : eqLeaves la lb = some l) (ht : eqStructT P t la.length = true) (hop : op = .eql ∨ op = .neq) :
    (execOp ρ o).run P w = .ok (.value (.bool (if op = .eql then eqPairs l else !eqPairs l))) w := by
  obtain ⟨fs, hfs, hlen, hi, hs, hg⟩ := eqT ht
  have hf : P.fieldsOf t = fs := by simp [Program.fieldsOf, hfs]
  have hrun : ∀ d, (Op.equalIn (d + 2) t (.agg xs) (.agg ys)).run P w = .ok (eqPairs l) w := fun d => by
    rw [run_equalIn_struct (P := P) w (d + 1) t xs ys (by rw [hf]; exact hfs) hs, hf]
    exact run_eqFields_ints d xs ys fs.toList 0 la lb l hi he hlen.symm (fun j v hv => by simpa using relL_at h1 hv) (fun j v hv => by simpa using relL_at h2 hv)
  have hr := hrun 9998
  rcases hop with rfl | rfl
  · simp [execOp, ho, hx, hy, eqGuard, hg, binOp, Op.equal, Op.maxDepth, hr]
  · simp [execOp, ho, hx, hy, eqGuard, hg, binOp, Op.equal, Op.maxDepth, hr]
end Go.Cz
