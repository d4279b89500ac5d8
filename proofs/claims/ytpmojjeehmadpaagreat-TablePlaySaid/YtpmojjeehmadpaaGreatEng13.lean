/- Part of the proof of a law of 28: an engine that runs a function over an abstract heap, and what the functions compute; own work. -/
import Derived.Test.YtpmojjeehmadpaaGreatEng12
set_option linter.unusedVariables false
set_option linter.unusedSimpArgs false
set_option linter.unusedSectionVars false
namespace Go.Cz
variable [Inhabited DrawnP]
open Go
set_option linter.unusedSimpArgs false
set_option linter.unusedVariables false
set_option linter.unusedSectionVars false

theorem makes_pcFn {P : Program} : Makes P pcFn := by
  intro β x sh rsh f v hp hr
  unfold pcFn at hp
  split at hp
  · rename_i sh' rsh' f'
    split at hp
    · rename_i hh
      obtain ⟨rfl, rfl⟩ := hh
      simp only [Option.some.injEq] at hp
      subst hp
      simpa [rel] using hr
    · cases hp
  · cases hp

/-- a call by an entry -/
theorem callWith_spec {P : Program} {pc} (hpc : Makes P pc) {en : Entry} (hl : Linked P en) {β : Nat → Nat} {args : List SV} {vals : List Value} {K : SV → HProp} {h : H} {w : World}
    (hK : en.callWith pc args K h) (hr : relL P β args vals) (hp : Hpart P w h) :
    Calls P en.k vals.toArray w fun e w' => ∃ x v h', e = .returned v ∧ rel P (fun _ => 0) x v ∧ below 0 x = true ∧ K x h' ∧ Hpart P w' h' ∧ Keeps w h w' h' := by
  unfold Entry.callWith at hK
  split at hK
  case isFalse => simp [stuckW] at hK
  rename_i hf
  obtain ⟨t, hK, h1, h2, h3, h4⟩ := packL_spec (β := β) hpc hK
  have hs := shape_rel (P := P) (β := β) (us := []) hf hr h3 (by rw [h2, h1])
  refine (hl.2 t vals _ h w (relL_any (shape_below (h4 0)) hs) hp hK).mono ?_
  rintro e w' ⟨r, v, h', rfl, k1, k2, k3, k4⟩
  refine ⟨_, v, h', rfl, k1, ?_, k2, k3, k4⟩
  have : belowL 0 (shape en.rsh (unpackL (tysOf en.rsh) r)) = true := shape_below (unpackL_below _ _)
  unfold retSV
  split
  · rename_i x e; rw [e] at this; simpa [belowL] using this
  · simpa [below] using this
where
  unpackL_below {n : Nat} : ∀ (ts : List Ty) (t : Tup ts), belowL n (unpackL ts t) = true
    | [], _ => by simp [unpackL, belowL]
    | [t], x => by have : below n (SV.of t x) = true := of_below; simp [unpackL, belowL, this]
    | t :: u :: r, x => by have : below n (SV.of t x.1) = true := of_below; simp [unpackL, belowL, this, unpackL_below (u :: r) x.2]
  of_below {n : Nat} {t : Ty} {x : t.den} : below n (SV.of t x) = true := by
    cases t with
    | o t => cases t <;> simp [SV.of, SV.of0, below]
    | fn sh rsh => simp [SV.of, below]
    | clo k caps =>
      simp only [SV.of, below, belowL, Bool.true_and]
      exact unpackL0_below caps x

theorem rel0_of {P : Program} {β : Nat → Nat} : ∀ {l : List SV} {vs : List Value}, rel0L l vs → relL P β l vs := fun h => leaf_wp.rel0L_relL h

theorem shape0_rel {P : Program} {β : Nat → Nat} : ∀ {sh : List Sh0} {args l : List SV} {vals : List Value}, fitsL0 args sh = true → relL P β args vals →
    (∀ us, relL P β (cellsOf args) us → rel0L l us) → l.length = (cellsOf args).length → rel0L (shape0 sh l) vals
  | [], [], l, vals, _, h, _, _ => by simpa [shape0, relL, rel0L] using h
  | [], _ :: _, l, vals, hf, _, _, _ => by simp [fitsL0] at hf
  | _ :: _, [], l, vals, hf, _, _, _ => by simp [fitsL0] at hf
  | s :: q, x :: r, l, vals, hf, h, hl, hlen => by
    simp only [fitsL0, Bool.and_eq_true] at hf
    obtain ⟨v, vs, rfl, h1, h2⟩ := relL_cons.1 h
    cases s with
    | leaf t =>
      have hx : x.cells = [x] := by cases x <;> simp_all [fits0, SV.cells]
      simp only [cellsOf, hx, List.cons_append, List.nil_append] at hl hlen
      cases l with
      | nil => simp at hlen
      | cons y l =>
        simp only [shape0, rel0L]
        have key : ∀ us, relL P β (cellsOf r) us → rel0 y v ∧ rel0L l us := fun us hu => by
          have := hl (v :: us) (relL_cons.2 ⟨v, us, rfl, h1, hu⟩)
          simp only [rel0L] at this
          obtain ⟨v', us', e, k1, k2⟩ := this
          cases e; exact ⟨k1, k2⟩
        obtain ⟨us0, hus0⟩ := cells_ex0 hf.2 h2
        exact ⟨v, vs, rfl, (key us0 hus0).1, shape0_rel hf.2 h2 (fun us hu => (key us hu).2) (by simpa using hlen)⟩
    | agg ts =>
      cases x <;> simp [fits0] at hf
      rename_i xs
      obtain ⟨hfx, hfr⟩ := hf
      have hfx : xs.length = ts.length := Nat.eq_of_beq_eq_true (by simpa using hfx)
      simp only [rel] at h1
      obtain ⟨av, rfl, h1⟩ := h1
      simp only [cellsOf, SV.cells] at hl hlen
      simp only [shape0, rel0L]
      obtain ⟨us0, hus0⟩ := cells_ex0 hfr h2
      have key : ∀ us, relL P β (cellsOf r) us → rel0L (l.take ts.length) av.toList ∧ rel0L (l.drop ts.length) us := fun us hu => by
        have := hl (av.toList ++ us) (relL_append h1 hu)
        have hlx := relL_length h1
        have hll := rel0L_length this
        exact ⟨by have := rel0L_take ts.length this; rwa [List.take_left' (by omega)] at this, by have := rel0L_drop ts.length this; rwa [List.drop_left' (by omega)] at this⟩
      refine ⟨_, vs, rfl, ?_, shape0_rel hfr h2 (fun us hu => (key us hu).2) (by simp at hlen; simp; omega)⟩
      simp only [rel0]
      exact ⟨av, rfl, (key us0 hus0).1⟩
where
  rel0L_take (n : Nat) : ∀ {l : List SV} {vs : List Value}, rel0L l vs → rel0L (l.take n) (vs.take n) := by
    induction n with
    | zero => intros; simp [rel0L]
    | succ n ih =>
      intro l vs h
      cases l with
      | nil => simp only [rel0L] at h; subst h; simp [rel0L]
      | cons x r => simp only [rel0L] at h; obtain ⟨v, us, rfl, h1, h2⟩ := h; simp only [List.take_succ_cons, rel0L]; exact ⟨v, _, rfl, h1, ih h2⟩
  rel0L_drop (n : Nat) : ∀ {l : List SV} {vs : List Value}, rel0L l vs → rel0L (l.drop n) (vs.drop n) := by
    induction n with
    | zero => intro l vs h; simpa using h
    | succ n ih =>
      intro l vs h
      cases l with
      | nil => simp only [rel0L] at h; subst h; simp [rel0L]
      | cons x r => simp only [rel0L] at h; obtain ⟨v, us, rfl, h1, h2⟩ := h; simpa using ih h2
  cells_ex0 {P : Program} {β : Nat → Nat} : ∀ {sh : List Sh0} {args : List SV} {vals : List Value}, fitsL0 args sh = true → relL P β args vals → ∃ us, relL P β (cellsOf args) us
    | [], [], vals, _, h => ⟨[], by simp [cellsOf, relL]⟩
    | [], _ :: _, vals, hf, _ => by simp [fitsL0] at hf
    | _ :: _, [], vals, hf, _ => by simp [fitsL0] at hf
    | s :: q, x :: r, vals, hf, h => by
      simp only [fitsL0, Bool.and_eq_true] at hf
      obtain ⟨v, vs, rfl, h1, h2⟩ := relL_cons.1 h
      obtain ⟨us, hu⟩ := cells_ex0 hf.2 h2
      cases s with
      | leaf t =>
        have hx : x.cells = [x] := by cases x <;> simp_all [fits0, SV.cells]
        exact ⟨v :: us, by simp only [cellsOf, hx]; exact relL_cons.2 ⟨v, us, rfl, h1, hu⟩⟩
      | agg ts =>
        cases x <;> simp [fits0] at hf
        simp only [rel] at h1
        obtain ⟨av, rfl, h1⟩ := h1
        exact ⟨av.toList ++ us, relL_append h1 hu⟩
theorem packL0_len {h : H} : ∀ {l : List SV} {ts : List Ty0} {K : Tup0 ts → HProp}, packL0 l ts K h → l.length = ts.length
  | [], [], K, hK => rfl
  | [x], [t], K, hK => rfl
  | x :: y :: l, t :: u :: r, K, hK => by
    simp only [packL0] at hK
    obtain ⟨a, hK, _⟩ := pack0_spec hK
    have := packL0_len hK
    simpa using this
  | [], _ :: _, K, hK => by simp [packL0, stuckW] at hK
  | [_], [], K, hK => by simp [packL0, stuckW] at hK
  | [_], _ :: _ :: _, K, hK => by simp [packL0, stuckW] at hK
  | _ :: _ :: _, [], K, hK => by simp [packL0, stuckW] at hK
  | _ :: _ :: _, [_], K, hK => by simp [packL0, stuckW] at hK
theorem unpackL0_len : ∀ (ts : List Ty0) (t : Tup0 ts), (unpackL0 ts t).length = ts.length
  | [], _ => rfl
  | [t], x => rfl
  | t :: u :: r, x => by simp [unpackL0, unpackL0_len (u :: r) x.2]

theorem retSV0_rel {l : List SV} {x : SV} {v : Value} {P : Program} {β : Nat → Nat} {n : Nat} (hx : rel P β x v) (h : ∀ vals, relL P β (unret x n) vals → rel0L l vals) (hl : l.length = n) (hu : ∀ vs, unret x n = vs → vs ≠ [.und] ∨ n = 1) : rel0 (retSV l) v := by
  by_cases hn : n = 1
  · subst hn
    have e : unret x 1 = [x] := by simp [unret]
    rw [e] at h
    have := h [v] (relL_cons.2 ⟨v, [], rfl, hx, by simp [relL]⟩)
    match l, hl with
    | [y], _ =>
      simp only [rel0L] at this
      obtain ⟨u, us, e, h1, _⟩ := this
      cases e
      simpa [retSV] using h1
  · have hb : Nat.beq n 1 = false := by
      cases hb : Nat.beq n 1
      · rfl
      · exact absurd (Nat.eq_of_beq_eq_true hb) hn
    have e : unret x n = tupOf x := by unfold unret; rw [hb]; rfl
    rw [e] at h hu
    cases x
    case tup xs =>
      simp only [rel] at hx
      obtain ⟨vs, rfl, hx⟩ := hx
      have := h vs.toList hx
      have e2 : retSV l = .tup l := by
        unfold retSV
        split
        · simp at hl; omega
        · rfl
      rw [e2]
      simp only [rel0]
      exact ⟨vs, rfl, this⟩
    all_goals (rcases hu _ rfl with h' | h' <;> first | exact absurd rfl h' | exact absurd h' hn)
theorem fitsL0_len : ∀ {args : List SV} {sh : List Sh0}, fitsL0 args sh = true → args.length = sh.length
  | [], [], _ => rfl
  | [], _ :: _, h => by simp [fitsL0] at h
  | _ :: _, [], h => by simp [fitsL0] at h
  | x :: r, s :: q, h => by simp only [fitsL0, Bool.and_eq_true] at h; simp [fitsL0_len h.2]

theorem shape0_len : ∀ {sh : List Sh0} {args l : List SV}, fitsL0 args sh = true → l.length = (cellsOf args).length → (shape0 sh l).length = sh.length
  | [], [], l, _, _ => by simp [shape0]
  | [], _ :: _, l, hf, _ => by simp [fitsL0] at hf
  | _ :: _, [], l, hf, _ => by simp [fitsL0] at hf
  | s :: q, x :: r, l, hf, hlen => by
    simp only [fitsL0, Bool.and_eq_true] at hf
    cases s with
    | leaf t =>
      have hx : x.cells = [x] := by cases x <;> simp_all [fits0, SV.cells]
      simp only [cellsOf, hx, List.cons_append, List.nil_append] at hlen
      cases l with
      | nil => simp at hlen
      | cons y l => simp [shape0, shape0_len hf.2 (by simpa using hlen : l.length = _)]
    | agg ts =>
      cases x <;> simp [fits0] at hf
      rename_i xs
      have hfx : xs.length = ts.length := Nat.eq_of_beq_eq_true (by simpa using hf.1)
      simp only [cellsOf, SV.cells] at hlen
      simp only [shape0, List.length_cons]
      rw [shape0_len hf.2 (by simp at hlen; simp; omega)]

/-- a closure does what its entry says -/
theorem makes_pcClo {P : Program} {Φ : List Entry} (hΦ : ∀ en ∈ Φ, Linked P en) : Makes P (pcClo Φ) := by
  intro β x sh rsh f v hp hr
  unfold pcClo at hp
  split at hp
  · rename_i k first cap
    cases he : findE Φ k with
    | none => simp [he] at hp
    | some en =>
      simp only [he, Option.some.injEq] at hp
      subst hp
      obtain ⟨hmem, hk⟩ := findE_mem he
      have hl := hΦ en hmem
      simp only [rel] at hr
      obtain ⟨fv, cv, rfl, h1, h2⟩ := hr
      refine ⟨k, fv, cv, rfl, by rw [← hk]; exact hl.1, ?_⟩
      intro t args Q h w hargs hpart hf
      have hrel : relL P β (first ++ shape0 sh (unpackL0 (tysOf0 sh) t) ++ cap) (fv.toList ++ args ++ cv.toList) := relL_append (relL_append h1 (rel0_of hargs)) h2
      have := callWith_spec makes_pcFn hl hf hrel hpart
      rw [hk] at this
      have e : (fv.toList ++ args ++ cv.toList).toArray = fv ++ args.toArray ++ cv := by apply Array.ext'; simp
      rw [e] at this
      refine this.mono ?_
      rintro e w' ⟨x, u, h', rfl, k1, k2, k3, k4, k5⟩
      split at k3
      case isFalse => simp [stuckW] at k3
      rename_i hfit
      obtain ⟨r, hQ, hru⟩ := packL0_spec k3
      have hlen := packL0_len k3
      refine ⟨r, u, h', rfl, ?_, hQ, k4, k5⟩
      have hlu : (unpackL0 (tysOf0 rsh) r).length = (cellsOf (unret x rsh.length)).length := by rw [unpackL0_len, hlen]
      exact retSV0_rel (n := rsh.length) k1 (fun vals hv => shape0_rel hfit hv (fun us hu => hru P _ us hu) hlu) (shape0_len hfit hlu) (fun vs hvs => by
        by_cases hvs' : vs = [.und]
        · right
          rw [hvs] at hfit
          rw [hvs'] at hfit
          have := fitsL0_len hfit
          simpa using this.symm
        · exact .inl hvs')
  · exact makes_pcFn β x sh rsh f v hp hr
where
  findE_mem : ∀ {l : List Entry} {k : FuncId} {en : Entry}, findE l k = some en → en ∈ l ∧ en.k = k
    | [], k, en, h => by simp [findE] at h
    | e :: r, k, en, h => by
      simp only [findE] at h
      split at h
      · rename_i hb
        simp only [Option.some.injEq] at h
        subst h
        exact ⟨by simp, Nat.eq_of_beq_eq_true hb⟩
      · obtain ⟨h1, h2⟩ := findE_mem h
        exact ⟨by simp [h1], h2⟩
end Go.Cz
