/- Part of the proof of a law of 28: an engine that runs a function over an abstract heap, and what the functions compute; own work. -/
import Derived.Test.YtpmojjeehmadpaaGreatEng1
set_option linter.unusedVariables false
set_option linter.unusedSimpArgs false
set_option linter.unusedSectionVars false
namespace Go.Cz

/-! ## Words of entries whose link is made by hand: rows of pairs -/
def flat2 : List (Int × Int) → List Value
  | [] => []
  | x :: r => .int .i64 x.1 :: .int .i64 x.2 :: flat2 r
/-- pairs, rising -/
def ltP (x y : Int × Int) : Bool := decide (x.1 < y.1 ∨ x.1 = y.1 ∧ x.2 < y.2)
def leP (x y : Int × Int) : Bool := !ltP y x
/-- sort a row of pairs in place -/
def sortPW (v : Sl) (K : HProp) : HProp := fun h => ∃ l : List (Int × Int), l.length = v.len ∧ l.length < 4611686018427387904 ∧ h.row? v.a (v.len * 2) = some (flat2 l) ∧
  (l = [] → K h) ∧ (l ≠ [] → ∃ a, v.a = some a ∧ storesW a (flat2 (l.mergeSort leP)) K h)
/-- a new row of what stands in another one -/
def collectPW (v : Sl) (K : Sl → HProp) : HProp := fun h => ∃ l : List (Int × Int), l.length = v.len ∧ l.length * 16 ≤ 140737488351232 ∧ h.row? v.a (v.len * 2) = some (flat2 l) ∧
  (l = [] → K ⟨none, 0, 0⟩ h) ∧ (l ≠ [] → ∀ (cap' : Nat) (rest : List Value) (b : Nat), l.length ≤ cap' → rest.length = (cap' - l.length) * 2 → h b = none →
    K ⟨some ⟨b, 0, none⟩, l.length, cap'⟩ (h.set b (.cells (flat2 l ++ rest) true)))
end Go.Cz
