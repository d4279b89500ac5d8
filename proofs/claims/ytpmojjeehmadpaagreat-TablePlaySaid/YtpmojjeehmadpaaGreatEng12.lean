/- Part of the proof of a law of 28: an engine that runs a function over an abstract heap, and what the functions compute; own work. -/
import Derived.Test.YtpmojjeehmadpaaGreatEng11
set_option linter.unusedVariables false
set_option linter.unusedSimpArgs false
set_option linter.unusedSectionVars false
namespace Go.Cz
variable [Inhabited DrawnP]
open Go
set_option linter.unusedSimpArgs false
set_option linter.unusedVariables false
set_option linter.unusedSectionVars false

/-- an entry is right -/
def Linked (P : Program) (en : Entry) : Prop :=
  (∃ fn c, P.funcs[en.k]? = some fn ∧ fn.body = some c ∧ fn.name ≠ "runtime.NumGoroutine") ∧
  ∀ t args Q h w, relL P (fun _ => 0) (shape en.sh (unpackL (tysOf en.sh) t)) args → Hpart P w h → en.F t Q h →
    Calls P en.k args.toArray w fun e w' => ∃ r v h', e = .returned v ∧ rel P (fun _ => 0) (retSV (shape en.rsh (unpackL (tysOf en.rsh) r))) v ∧ Q r h' ∧ Hpart P w' h' ∧ Keeps w h w' h'

theorem rel_any {P : Program} {β β' : Nat → Nat} {x : SV} {v : Value} (hb : below 0 x = true) (h : rel P β x v) : rel P β' x v :=
  rel_congr (n := 0) (fun i hi => absurd hi (Nat.not_lt_zero _)) hb h
theorem relL_any {P : Program} {β β' : Nat → Nat} {x : List SV} {v : List Value} (hb : belowL 0 x = true) (h : relL P β x v) : relL P β' x v :=
  relL_congr (n := 0) (fun i hi => absurd hi (Nat.not_lt_zero _)) hb h

theorem pack0_spec {h : H} {x : SV} {t : Ty0} {K : t.den → HProp} (hK : pack0 x t K h) : ∃ y, K y h ∧ (∀ P β v, rel P β x v → rel0 (SV.of0 t y) v) := by
  cases t <;> simp only [pack0] at hK <;> cases x <;> first | (simp [stuckW] at hK; done) | skip
  case i.i k k' n =>
    simp only [] at hK
    split at hK
    · rename_i e; subst e; exact ⟨n, hK, fun P β v h => by simpa [rel, rel0, SV.of0] using h⟩
    · simp [stuckW] at hK
  all_goals exact ⟨_, hK, fun P β v h => by simpa [rel, rel0, SV.of0] using h⟩
theorem packL0_spec {h : H} : ∀ {l : List SV} {ts : List Ty0} {K : Tup0 ts → HProp}, packL0 l ts K h → ∃ t, K t h ∧ (∀ P β vs, relL P β l vs → rel0L (unpackL0 ts t) vs)
  | [], [], K, hK => ⟨(), hK, fun P β vs h => by simpa [relL, unpackL0, rel0L] using h⟩
  | [x], [t], K, hK => by
    obtain ⟨y, hK, hr⟩ := pack0_spec hK
    refine ⟨y, hK, fun P β vs h => ?_⟩
    obtain ⟨v, us, rfl, h1, h2⟩ := relL_cons.1 h
    rw [relL_nil] at h2
    subst h2
    simp only [unpackL0, rel0L]
    exact ⟨v, [], rfl, hr P β v h1, rfl⟩
  | x :: y :: l, t :: u :: r, K, hK => by
    simp only [packL0] at hK
    obtain ⟨a, hK, hr⟩ := pack0_spec hK
    obtain ⟨b, hK, hrs⟩ := packL0_spec hK
    refine ⟨(a, b), hK, fun P β vs h => ?_⟩
    obtain ⟨v, us, rfl, h1, h2⟩ := relL_cons.1 h
    simp only [unpackL0, rel0L]
    exact ⟨v, us, rfl, hr P β v h1, hrs P β us h2⟩
  | [], _ :: _, K, hK => by simp [packL0, stuckW] at hK
  | [_], [], K, hK => by simp [packL0, stuckW] at hK
  | [_], _ :: _ :: _, K, hK => by simp [packL0, stuckW] at hK
  | _ :: _ :: _, [], K, hK => by simp [packL0, stuckW] at hK
  | _ :: _ :: _, [_], K, hK => by simp [packL0, stuckW] at hK

/-- what a maker of function leaves owes -/
def Makes (P : Program) (pc : SV → (sh rsh : List Sh0) → Option (Tup0 (tysOf0 sh) → (Tup0 (tysOf0 rsh) → HProp) → HProp)) : Prop :=
  ∀ β x sh rsh f v, pc x sh rsh = some f → rel P β x v → LinkedV P v sh rsh f

theorem unpackL0_below {n : Nat} : ∀ (ts : List Ty0) (t : Tup0 ts), belowL n (unpackL0 ts t) = true
  | [], _ => by simp [unpackL0, belowL]
  | [t], x => by cases t <;> simp [unpackL0, belowL, SV.of0, below]
  | t :: u :: r, x => by
    have := unpackL0_below (n := n) (u :: r) x.2
    cases t <;> simp [unpackL0, belowL, SV.of0, below, this]
theorem packLeaf_spec {P : Program} {β : Nat → Nat} {h : H} {pc} (hpc : Makes P pc) {x : SV} {t : Ty} {K : t.den → HProp} (hK : packLeaf pc x t K h) : ∃ y, K y h ∧ (∀ v, rel P β x v → rel P β (SV.of t y) v) ∧ ∀ n, below n (SV.of t y) = true := by
  cases t with
  | fn sh rsh =>
    simp only [packLeaf] at hK
    cases hp : pc x sh rsh with
    | none => simp [hp, stuckW] at hK
    | some f =>
      simp only [hp] at hK
      exact ⟨f, hK, fun v hv => by simp only [SV.of, rel]; exact hpc β x sh rsh f v hp hv, fun n => by simp [SV.of, below]⟩
  | clo k caps =>
    simp only [packLeaf] at hK
    split at hK
    · rename_i k' cap
      split at hK
      · rename_i e
        have e := Nat.eq_of_beq_eq_true e
        subst e
        obtain ⟨t, hK, hr⟩ := packL0_spec hK
        refine ⟨t, hK, fun v hv => ?_, fun n => by simp [SV.of, below, belowL, unpackL0_below]⟩
        simp only [SV.of, rel] at hv ⊢
        obtain ⟨fv, cv, rfl, h1, h2⟩ := hv
        exact ⟨fv, cv, rfl, h1, leaf_wp.rel0L_relL (hr P β _ h2)⟩
      · simp [stuckW] at hK
    · simp [stuckW] at hK
  | o t =>
    obtain ⟨y, hK, hr⟩ := pack0_spec hK
    refine ⟨y, hK, fun v hv => leaf_wp.rel0_rel (hr P β v hv), fun n => ?_⟩
    cases t <;> simp [SV.of, SV.of0, below]
theorem packL_spec {P : Program} {β : Nat → Nat} {h : H} {pc} (hpc : Makes P pc) : ∀ {l : List SV} {ts : List Ty} {K : Tup ts → HProp}, packL pc l ts K h → ∃ t, K t h ∧ l.length = ts.length ∧ (unpackL ts t).length = ts.length ∧ (∀ vs, relL P β l vs → relL P β (unpackL ts t) vs) ∧ ∀ n, belowL n (unpackL ts t) = true
  | [], [], K, hK => ⟨(), hK, rfl, rfl, fun vs h => by simpa [relL, unpackL] using h, fun n => by simp [unpackL, belowL]⟩
  | [x], [t], K, hK => by
    obtain ⟨y, hK, hr, hb⟩ := packLeaf_spec (β := β) hpc hK
    refine ⟨y, hK, rfl, rfl, fun vs h => ?_, fun n => by simp [unpackL, belowL, hb n]⟩
    obtain ⟨v, us, rfl, h1, h2⟩ := relL_cons.1 h
    exact relL_cons.2 ⟨v, us, rfl, hr v h1, h2⟩
  | x :: y :: l, t :: u :: r, K, hK => by
    simp only [packL] at hK
    obtain ⟨a, hK, hr, hb⟩ := packLeaf_spec (β := β) hpc hK
    obtain ⟨b, hK, hl1, hl2, hrs, hbs⟩ := packL_spec hpc hK
    refine ⟨(a, b), hK, by simpa using hl1, by simpa [unpackL] using hl2, fun vs h => ?_, fun n => by simp [unpackL, belowL, hb n, hbs n]⟩
    obtain ⟨v, us, rfl, h1, h2⟩ := relL_cons.1 h
    exact relL_cons.2 ⟨v, us, rfl, hr v h1, hrs us h2⟩
  | [], _ :: _, K, hK => by simp [packL, stuckW] at hK
  | [_], [], K, hK => by simp [packL, stuckW] at hK
  | [_], _ :: _ :: _, K, hK => by simp [packL, stuckW] at hK
  | _ :: _ :: _, [], K, hK => by simp [packL, stuckW] at hK
  | _ :: _ :: _, [_], K, hK => by simp [packL, stuckW] at hK

theorem relL_append_inv {P : Program} {β : Nat → Nat} : ∀ {l m : List SV} {vs : List Value}, relL P β (l ++ m) vs → ∃ a b, vs = a ++ b ∧ relL P β l a ∧ relL P β m b
  | [], m, vs, h => ⟨[], vs, rfl, by simp [relL], h⟩
  | x :: r, m, vs, h => by
    obtain ⟨v, us, rfl, h1, h2⟩ := relL_cons.1 h
    obtain ⟨a, b, rfl, h3, h4⟩ := relL_append_inv h2
    exact ⟨v :: a, b, rfl, relL_cons.2 ⟨v, a, rfl, h1, h3⟩, h4⟩

/-- values laid out by shapes that fit -/
theorem shape_rel {P : Program} {β : Nat → Nat} : ∀ {sh : List Sh} {args l : List SV} {vals us : List Value}, fitsL args sh = true → relL P β args vals →
    (∀ us, relL P β (cellsOf args) us → relL P β l us) → l.length = (cellsOf args).length → relL P β (shape sh l) vals
  | [], [], l, vals, us, _, h, _, _ => by simpa [shape] using h
  | [], _ :: _, l, vals, us, hf, _, _, _ => by simp [fitsL] at hf
  | _ :: _, [], l, vals, us, hf, _, _, _ => by simp [fitsL] at hf
  | s :: q, x :: r, l, vals, us, hf, h, hl, hlen => by
    simp only [fitsL, Bool.and_eq_true] at hf
    obtain ⟨v, vs, rfl, h1, h2⟩ := relL_cons.1 h
    cases s with
    | leaf t =>
      have hx : x.cells = [x] := by cases x <;> simp_all [fits, SV.cells]
      simp only [cellsOf, hx, List.cons_append, List.nil_append] at hl hlen
      cases l with
      | nil => simp at hlen
      | cons y l =>
        simp only [shape]
        have key : ∀ us, relL P β (cellsOf r) us → rel P β y v ∧ relL P β l us := fun us hu => by
          obtain ⟨v', us', e, k1, k2⟩ := relL_cons.1 (hl (v :: us) (relL_cons.2 ⟨v, us, rfl, h1, hu⟩))
          cases e; exact ⟨k1, k2⟩
        have ex : ∃ us, relL P β (cellsOf r) us := cells_ex hf.2 h2
        obtain ⟨us0, hus0⟩ := ex
        refine relL_cons.2 ⟨v, vs, rfl, (key us0 hus0).1, shape_rel (us := us0) hf.2 h2 (fun us hu => (key us hu).2) (by simpa using hlen)⟩
    | agg ts =>
      cases x <;> simp [fits] at hf
      rename_i xs
      obtain ⟨hfx, hfr⟩ := hf
      have hfx : xs.length = ts.length := Nat.eq_of_beq_eq_true (by simpa using hfx)
      simp only [rel] at h1
      obtain ⟨av, rfl, h1⟩ := h1
      simp only [cellsOf, SV.cells] at hl hlen
      simp only [shape]
      obtain ⟨us0, hus0⟩ := cells_ex hfr h2
      have hlt : (l.take ts.length).length = xs.length := by
        simp at hlen; simp; omega
      have key : ∀ us, relL P β (cellsOf r) us → relL P β (l.take ts.length) av.toList ∧ relL P β (l.drop ts.length) us := fun us hu => by
        have := hl (av.toList ++ us) (relL_append h1 hu)
        rw [← List.take_append_drop ts.length l] at this
        obtain ⟨a, b, e, k1, k2⟩ := relL_append_inv this
        have hla := relL_length k1
        have hlx := relL_length h1
        have : a = av.toList ∧ b = us := by
          have := List.append_inj e.symm (by omega)
          exact this
        rw [this.1] at k1; rw [this.2] at k2
        exact ⟨k1, k2⟩
      refine relL_cons.2 ⟨_, vs, rfl, ?_, shape_rel (us := us0) hfr h2 (fun us hu => (key us hu).2) (by simp at hlen; simp; omega)⟩
      simp only [rel]
      exact ⟨av, rfl, (key us0 hus0).1⟩
where
  cells_ex {P : Program} {β : Nat → Nat} : ∀ {sh : List Sh} {args : List SV} {vals : List Value}, fitsL args sh = true → relL P β args vals → ∃ us, relL P β (cellsOf args) us
    | [], [], vals, _, h => ⟨[], by simp [cellsOf, relL]⟩
    | [], _ :: _, vals, hf, _ => by simp [fitsL] at hf
    | _ :: _, [], vals, hf, _ => by simp [fitsL] at hf
    | s :: q, x :: r, vals, hf, h => by
      simp only [fitsL, Bool.and_eq_true] at hf
      obtain ⟨v, vs, rfl, h1, h2⟩ := relL_cons.1 h
      obtain ⟨us, hu⟩ := cells_ex hf.2 h2
      cases s with
      | leaf t =>
        have hx : x.cells = [x] := by cases x <;> simp_all [fits, SV.cells]
        exact ⟨v :: us, by simp only [cellsOf, hx]; exact relL_cons.2 ⟨v, us, rfl, h1, hu⟩⟩
      | agg ts =>
        cases x <;> simp [fits] at hf
        simp only [rel] at h1
        obtain ⟨av, rfl, h1⟩ := h1
        exact ⟨av.toList ++ us, relL_append h1 hu⟩
theorem shape_below {n : Nat} : ∀ {sh : List Sh} {l : List SV}, belowL n l = true → belowL n (shape sh l) = true
  | [], l, h => by simp [shape, belowL]
  | .leaf _ :: q, [], h => by simp [shape, belowL]
  | .leaf _ :: q, x :: l, h => by
    simp only [belowL, Bool.and_eq_true] at h
    simp [shape, belowL, h.1, shape_below h.2]
  | .agg ts :: q, l, h => by
    simp only [shape, belowL, below, Bool.and_eq_true]
    exact ⟨belowL_take h _, shape_below (belowL_drop h _)⟩
end Go.Cz
