/- Part of the proof of a law of 28: an engine that runs a function over an abstract heap, and what the functions compute; own work. -/
import Derived.Test.YtpmojjeehmadpaaGreatEng17
set_option linter.unusedVariables false
set_option linter.unusedSimpArgs false
set_option linter.unusedSectionVars false
namespace Go.Cz
variable [Inhabited DrawnP]
open Go
set_option linter.unusedSimpArgs false
set_option linter.unusedVariables false
set_option linter.unusedSectionVars false

theorem subset_spec : ∀ {l m : List Nat}, subset l m = true → ∀ x ∈ l, x ∈ m
  | [], m, _, x, hx => by simp at hx
  | y :: r, m, h, x, hx => by
    simp only [subset, Bool.and_eq_true] at h
    rcases List.mem_cons.1 hx with rfl | hx
    · simpa using h.1
    · exact subset_spec h.2 x hx
theorem newKeys_append {α : Type} : ∀ (pre l : List (Nat × α)), newKeys pre.length (pre ++ l) = keys pre
  | [], l => rfl
  | (k, v) :: r, l => by simp [newKeys, keys, newKeys_append r l]
theorem look_append {α : Type} : ∀ (a b : List (Nat × α)) (n : Nat), look (a ++ b) n = match look a n with | some v => some v | none => look b n
  | [], b, n => by simp [look]
  | (k, v) :: r, b, n => by
    rw [List.cons_append, look_cons, look_cons, look_append r b n]
    by_cases h : k = n <;> simp [h]
theorem look_keys {α : Type} : ∀ {a : List (Nat × α)} {n : Nat}, n ∉ keys a → look a n = none
  | [], n, _ => rfl
  | (k, v) :: r, n, h => by
    simp only [keys, List.mem_cons, not_or] at h
    rw [look_cons, if_neg (fun e => h.1 e.symm), look_keys h.2]
theorem look_some_keys {α : Type} : ∀ {a : List (Nat × α)} {n : Nat} {v : α}, look a n = some v → n ∈ keys a
  | [], n, v, h => by simp [look] at h
  | (k, u) :: r, n, v, h => by
    rw [look_cons] at h
    by_cases e : k = n
    · simp [keys, e]
    · rw [if_neg e] at h; simp [keys, look_some_keys h]
theorem look_tomb : ∀ {l : List Nat} {n : Nat}, look (tomb l) n = if n ∈ l then some .und else none
  | [], n => by simp [tomb, look]
  | k :: r, n => by
    rw [tomb, look_cons, look_tomb]
    by_cases e : k = n
    · simp [e]
    · have : ¬ n = k := fun h => e h.symm
      simp [e, this]
theorem fitsAll_L {e : Env} : ∀ {l : List (Nat × Sh)}, fitsAll e l = true → fitsL (l.map fun x => e.get x.1) (l.map (·.2)) = true
  | [], _ => rfl
  | (n, s) :: r, h => by
    simp only [fitsAll, Bool.and_eq_true] at h
    simp [fitsL, h.1, fitsAll_L h.2]
theorem slotCells_eq {e : Env} : ∀ {l : List (Nat × Sh)}, slotCells e l = cellsOf (l.map fun x => e.get x.1)
  | [] => rfl
  | (n, s) :: r => by simp [slotCells, cellsOf, slotCells_eq (l := r)]
theorem zip_look {P : Program} {β : Nat → Nat} {tmps : Array Value} : ∀ {l : List (Nat × Sh)} {xs : List SV} {n : Nat} {v : SV}, relL P β xs (l.map fun x => tmps.getD x.1 undef) → look ((keys l).zip xs) n = some v →
    v ∈ xs ∧ rel P β v (tmps.getD n undef)
  | [], xs, n, v, h, e => by simp [keys, look] at e
  | (k, s) :: r, xs, n, v, h, e => by
    cases xs with
    | nil => simp [look] at e
    | cons x xs =>
      obtain ⟨u, us, e1, h1, h2⟩ := relL_cons.1 h
      simp only [List.map_cons, List.cons.injEq] at e1
      obtain ⟨rfl, rfl⟩ := e1
      simp only [keys, List.zip_cons_cons, look_cons] at e
      by_cases hk : k = n
      · subst hk
        simp at e; subst e
        exact ⟨by simp, h1⟩
      · rw [if_neg hk] at e
        obtain ⟨h3, h4⟩ := zip_look h2 e
        exact ⟨by simp [h3], h4⟩
/-- no leaf is 'undefined' -/
def solid : SV → Bool
  | .und | .tup _ => false
  | _ => true
theorem rel_undef {P : Program} {β : Nat → Nat} {v : SV} (h : rel P β v undef) (hs : solid v = true) : False := by
  cases v <;> simp [solid] at hs <;> simp [rel, undef, LinkedV] at h
theorem solid_of {t : Ty} {x : t.den} : solid (SV.of t x) = true := by
  cases t with
  | o t => cases t <;> rfl
  | fn sh rsh => rfl
  | clo k caps => rfl
theorem solid_unpack : ∀ (ts : List Ty) (t : Tup ts), ∀ x ∈ unpackL ts t, solid x = true ∧ leafs [x] = true
  | [], _, x, h => by simp [unpackL] at h
  | [t], y, x, h => by
    simp only [unpackL, List.mem_singleton] at h
    subst h
    exact ⟨solid_of, leaf_of⟩
  | t :: u :: r, y, x, h => by
    simp only [unpackL, List.mem_cons] at h
    rcases h with rfl | h
    · exact ⟨solid_of, leaf_of⟩
    · exact solid_unpack (u :: r) y.2 x h
where
  leaf_of {t : Ty} {x : t.den} : leafs [SV.of t x] = true := by
    cases t with
    | o t => cases t <;> rfl
    | fn sh rsh => rfl
    | clo k caps => rfl
theorem solid_shape : ∀ (sh : List Sh) (l : List SV), (∀ x ∈ l, solid x = true) → ∀ x ∈ shape sh l, solid x = true
  | [], l, _, x, h => by simp [shape] at h
  | .leaf _ :: q, [], hl, x, h => by simp [shape] at h
  | .leaf _ :: q, y :: l, hl, x, h => by
    simp only [shape, List.mem_cons] at h
    rcases h with rfl | h
    · exact hl _ (by simp)
    · exact solid_shape q l (fun z hz => hl z (by simp [hz])) x h
  | .agg ts :: q, l, hl, x, h => by
    simp only [shape, List.mem_cons] at h
    rcases h with rfl | h
    · rfl
    · exact solid_shape q _ (fun z hz => hl z (List.mem_of_mem_drop hz)) x h

/-- locals laid anew -/
theorem layLocs_look {P : Program} {β : Nat → Nat} {w : World} {e : Env} {n0 : Nat} : ∀ {l : List (Nat × List Ty)} {xs : List SV}, fitsLocs e n0 l = true → xs.length = (locCells e l).length →
    (∀ us, relL P β (locCells e l) us → relL P β xs us) → (∀ x ∈ xs, leafs [x] = true) → (∀ id, ∃ us, relL P β (e.loc id) us) →
    ∀ {n : Nat} {c : List SV}, look (layLocs l xs) n = some c → n < n0 ∧ leafs c = true ∧ (∀ x ∈ c, x ∈ xs) ∧ 0 < (e.loc n).length ∧ ∀ us, relL P β (e.loc n) us → relL P β c us
  | [], xs, _, _, _, _, _, n, c, h => by simp [layLocs, look] at h
  | (k, ts) :: r, xs, hf, hlen, hr, hl, hex, n, c, h => by
    simp only [fitsLocs, Bool.and_eq_true] at hf
    obtain ⟨⟨⟨h1, h2⟩, h3⟩, h4⟩ := hf
    have h1 := Nat.eq_of_beq_eq_true h1
    have h2 : k < n0 := Nat.le_of_ble_eq_true h2
    have h3 : 0 < ts.length := Nat.le_of_ble_eq_true h3
    simp only [locCells, List.length_append] at hlen hr
    have hsplit : ∀ us vs, relL P β (e.loc k) us → relL P β (locCells e r) vs → relL P β (xs.take ts.length) us ∧ relL P β (xs.drop ts.length) vs := fun us vs hu hv => by
      have := hr (us ++ vs) (relL_append hu hv)
      rw [← List.take_append_drop ts.length xs] at this
      obtain ⟨a, b, e', k1, k2⟩ := relL_append_inv this
      have la := relL_length k1
      have lu := relL_length hu
      have hx : (xs.take ts.length).length = ts.length := by simp; omega
      have := List.append_inj e'.symm (by omega)
      rw [this.1] at k1; rw [this.2] at k2
      exact ⟨k1, k2⟩
    have hexr : ∃ vs, relL P β (locCells e r) vs := ex_cells hex r
    obtain ⟨us0, hus0⟩ := hex k
    obtain ⟨vs0, hvs0⟩ := hexr
    simp only [layLocs, look_cons] at h
    by_cases hk : k = n
    · subst hk
      simp at h; subst h
      refine ⟨h2, leafs_mem.2 fun x hx => hl x (List.mem_of_mem_take hx), fun x hx => List.mem_of_mem_take hx, by omega, fun us hu => (hsplit us vs0 hu hvs0).1⟩
    · rw [if_neg hk] at h
      have ih := layLocs_look (w := w) h4 (xs := xs.drop ts.length) (by simp; omega) (fun vs hv => (hsplit us0 vs hus0 hv).2) (fun x hx => hl x (List.mem_of_mem_drop hx)) hex h
      exact ⟨ih.1, ih.2.1, fun x hx => List.mem_of_mem_drop (ih.2.2.1 x hx), ih.2.2.2⟩
where
  ex_cells {P : Program} {β : Nat → Nat} {e : Env} (hex : ∀ id, ∃ us, relL P β (e.loc id) us) : ∀ l : List (Nat × List Ty), ∃ vs, relL P β (locCells e l) vs
    | [] => ⟨[], by simp [locCells, relL]⟩
    | (n, ts) :: r => by
      obtain ⟨us, hu⟩ := hex n
      obtain ⟨vs, hv⟩ := ex_cells hex r
      exact ⟨us ++ vs, relL_append hu hv⟩
theorem layLocs_keys : ∀ (l : List (Nat × List Ty)) (xs : List SV), keys (layLocs l xs) = keys l
  | [], xs => rfl
  | (n, ts) :: r, xs => by simp [layLocs, keys, layLocs_keys r]

theorem give_sound {G : Gl} {C : Ctx} (hΦ : ∀ en ∈ C.Φ, Linked G.P en) {s0 s : St} (g0 : Good G s0) (g : Good G s) (le : Le s0 s) {j : Join} {wr : List Nat} (hwr : ∀ n ∈ wr, n < G.N) {K : Tup j.tys → HProp}
    (hK : j.give s0.e C.Φ wr s.e K s.h) : ∃ t, K t s.h ∧ Good G { s with e := j.take s0.e wr t } ∧ Le s0 { s with e := j.take s0.e wr t } := by
  unfold Join.give at hK
  split at hK
  case isFalse => simp [stuckW] at hK
  rename_i hc
  simp only [Bool.and_eq_true] at hc
  obtain ⟨⟨⟨c1, c2⟩, c3⟩, c4⟩ := hc
  obtain ⟨t, hK, hl1, hl2, hr, hb⟩ := packL_spec (β := s.β) (makes_pcClo hΦ) hK
  refine ⟨t, hK, ?_, ?_⟩
  rotate_left
  · refine ⟨le.beta, Nat.le_refl _, ⟨_, rfl⟩, ⟨_, rfl⟩, le.defers⟩
  obtain ⟨pre, hpre⟩ := le.slots
  obtain ⟨pre', hpre'⟩ := le.locs
  have hnk : newKeys (s.e.slots.length - s0.e.slots.length) s.e.slots = keys pre := by
    rw [hpre]
    have : (pre ++ s0.e.slots).length - s0.e.slots.length = pre.length := by simp
    rw [this, newKeys_append]
  have hnk' : newKeys (s.e.locs.length - s0.e.locs.length) s.e.locs = keys pre' := by
    rw [hpre']
    have : (pre' ++ s0.e.locs).length - s0.e.locs.length = pre'.length := by simp
    rw [this, newKeys_append]
  rw [hnk] at c3
  rw [hnk'] at c4
  have hsub := subset_spec c3
  have hsub' := subset_spec c4
  -- the leaves in two parts
  have hex : ∀ id, ∃ us, relL G.P s.β (s.e.loc id) us := fun id => by
    unfold Env.loc
    cases h : look s.e.locs id with
    | none => exact ⟨[], by simp [relL]⟩
    | some c => obtain ⟨_, _, _, cs, T, _, h5, _⟩ := g.locs id c h; exact ⟨_, h5⟩
  have hvals : relL G.P s.β (j.slots.map fun x => s.e.get x.1) (j.slots.map fun x => s.a.tmps.getD x.1 undef) := by
    have : ∀ l : List (Nat × Sh), relL G.P s.β (l.map fun x => s.e.get x.1) (l.map fun x => s.a.tmps.getD x.1 undef) := by
      intro l
      induction l with
      | nil => simp [relL]
      | cons x r ih =>
        obtain ⟨y, hy, h⟩ := rel_get g x.1
        exact relL_cons.2 ⟨_, _, rfl, by subst hy; exact h, ih⟩
    exact this _
  have hf := fitsAll_L c1
  obtain ⟨us0, hus0⟩ := shape_rel.cells_ex hf hvals
  rw [← slotCells_eq] at hus0
  obtain ⟨vs0, hvs0⟩ := layLocs_look.ex_cells hex j.locs
  let k := (tysOf (j.slots.map (·.2))).length
  have hkl : (slotCells s.e j.slots).length = k := by
    have h1 := fits_len hf
    rw [slotCells_eq]; exact h1
  have hlen := hl2
  have hlenT : j.tys.length = k + (locCells s.e j.locs).length := by
    rw [← hl1]; simp [hkl]
  have hsplit : ∀ us vs, relL G.P s.β (slotCells s.e j.slots) us → relL G.P s.β (locCells s.e j.locs) vs → relL G.P s.β ((unpackL j.tys t).take k) us ∧ relL G.P s.β ((unpackL j.tys t).drop k) vs := fun us vs hu hv => by
    have := hr (us ++ vs) (relL_append hu hv)
    rw [← List.take_append_drop k (unpackL j.tys t)] at this
    obtain ⟨a, b, e', k1, k2⟩ := relL_append_inv this
    have la := relL_length k1
    have lu := relL_length hu
    have hx : ((unpackL j.tys t).take k).length = k := by simp; omega
    have := List.append_inj e'.symm (by omega)
    rw [this.1] at k1; rw [this.2] at k2
    exact ⟨k1, k2⟩
  have hshape := shape_rel (us := us0) hf hvals (l := (unpackL j.tys t).take k) (fun us hu => (hsplit us vs0 (by rw [slotCells_eq]; exact hu) hvs0).1) (by
    rw [← slotCells_eq, hkl]; simp; omega)
  have hsolid := solid_shape (j.slots.map (·.2)) ((unpackL j.tys t).take k) (fun x hx => (solid_unpack _ _ x (List.mem_of_mem_take hx)).1)
  have hlocs : ∀ {n : Nat} {c : List SV}, look (layLocs j.locs ((unpackL j.tys t).drop k)) n = some c → _ := fun {n c} h => layLocs_look (P := G.P) (β := s.β) (w := s.w) c2 (xs := (unpackL j.tys t).drop k) (by simp; omega) (fun vs hv => (hsplit us0 vs hus0 hv).2) (fun x hx => (solid_unpack _ _ x (List.mem_of_mem_drop hx)).2) hex h
  -- what the new places come from
  have hold : ∀ id c, look (j.take s0.e wr t).locs id = some c → id < s0.e.nloc ∧ leafs c = true ∧ belowL s0.e.nloc c = true ∧ ∃ c', look s.e.locs id = some c' ∧ ∀ us, relL G.P s.β c' us → relL G.P s.β c us := by
    intro id c hc
    simp only [Join.take] at hc
    rw [look_append] at hc
    cases h1 : look (layLocs j.locs ((unpackL j.tys t).drop k)) id with
    | some c1 =>
      rw [h1] at hc
      simp only [Option.some.injEq] at hc
      subst hc
      obtain ⟨q1, q2, q3, q4, q5⟩ := hlocs h1
      refine ⟨q1, q2, belowL_mem.2 fun x hx => belowL_mem.1 (hb _) x (List.mem_of_mem_drop (q3 x hx)), ?_⟩
      unfold Env.loc at q4 q5
      cases h2 : look s.e.locs id with
      | none => simp [h2] at q4
      | some c' => simp only [h2] at q5; exact ⟨c', rfl, q5⟩
    | none =>
      rw [h1] at hc
      simp only [] at hc
      obtain ⟨p1, p2, p3, cs, T, p4, p5, p6, p7⟩ := g0.locs id c hc
      refine ⟨p1, p6, p7, c, ?_, fun us h => h⟩
      have hnot : id ∉ keys pre' := fun hin => by
        have : id ∈ keys j.locs := hsub' id (List.mem_filter.2 ⟨hin, by simpa using p1⟩)
        rw [← layLocs_keys j.locs ((unpackL j.tys t).drop k)] at this
        have := look_none_keys h1
        contradiction
      rw [hpre', look_append, look_keys hnot]
      exact hc
  refine ⟨g.size, ?_, ?_, ?_, ?_, g.part, g.keeps⟩
  · intro n v hn
    simp only [Join.take] at hn
    rw [List.append_assoc, look_append] at hn
    cases h1 : look ((keys j.slots).zip (shape (j.slots.map (·.2)) ((unpackL j.tys t).take k))) n with
    | some v1 =>
      rw [h1] at hn
      simp only [Option.some.injEq] at hn
      subst hn
      obtain ⟨q1, q2⟩ := zip_look hshape h1
      cases h2 : s.a.tmps[n]? with
      | none =>
        exfalso
        have : s.a.tmps.getD n undef = undef := by simp [Array.getD_eq_getD_getElem?, h2]
        rw [this] at q2
        exact rel_undef q2 (hsolid _ q1)
      | some x => exact ⟨x, rfl, by simpa [Array.getD_eq_getD_getElem?, h2] using q2⟩
    | none =>
      rw [h1] at hn
      simp only [] at hn
      rw [look_append, look_tomb] at hn
      by_cases hw : n ∈ wr
      · rw [if_pos hw] at hn
        simp only [Option.some.injEq] at hn
        subst hn
        have : n < s.a.tmps.size := by rw [g.size]; exact hwr n hw
        exact ⟨s.a.tmps[n], by simp [this], by simp [rel]⟩
      · rw [if_neg hw] at hn
        simp only [] at hn
        refine g.slots n v ?_
        rw [hpre, look_append, look_keys (fun hin => hw (hsub n hin))]
        exact hn
  · intro n v hn
    simp only [Join.take] at hn ⊢
    rw [List.append_assoc, look_append] at hn
    cases h1 : look ((keys j.slots).zip (shape (j.slots.map (·.2)) ((unpackL j.tys t).take k))) n with
    | some v1 =>
      rw [h1] at hn
      simp only [Option.some.injEq] at hn
      subst hn
      obtain ⟨q1, q2⟩ := zip_look hshape h1
      exact belowL_mem.1 (shape_below (belowL_take (hb _) _)) _ q1
    | none =>
      rw [h1] at hn
      simp only [] at hn
      rw [look_append, look_tomb] at hn
      by_cases hw : n ∈ wr
      · rw [if_pos hw] at hn
        simp only [Option.some.injEq] at hn
        subst hn
        simp [below]
      · rw [if_neg hw] at hn
        exact g0.wf n v hn
  · intro id c hc
    obtain ⟨q1, q2, q3, c', q4, q5⟩ := hold id c hc
    obtain ⟨p1, p2, p3, cs, T, p4, p5, p6, p7⟩ := g.locs id c' q4
    exact ⟨q1, p2, p3, cs, T, p4, q5 _ p5, q2, q3⟩
  · intro i j' c d hc hd he
    obtain ⟨_, _, _, c', q4, _⟩ := hold i c hc
    obtain ⟨_, _, _, d', q4', _⟩ := hold j' d hd
    exact g.inj i j' c' d' q4 q4' he
where
  look_none_keys {α : Type} : ∀ {a : List (Nat × α)} {n : Nat}, look a n = none → n ∉ keys a
    | [], n, _ => by simp [keys]
    | (k, v) :: r, n, h => by
      rw [look_cons] at h
      by_cases e : k = n
      · simp [e] at h
      · rw [if_neg e] at h
        simp only [keys, List.mem_cons, not_or]
        exact ⟨fun e' => e e'.symm, look_none_keys h⟩
  fits_len : ∀ {sh : List Sh} {args : List SV}, fitsL args sh = true → (cellsOf args).length = (tysOf sh).length
    | [], [], _ => rfl
    | [], _ :: _, h => by simp [fitsL] at h
    | _ :: _, [], h => by simp [fitsL] at h
    | s :: q, x :: r, h => by
      simp only [fitsL, Bool.and_eq_true] at h
      simp only [cellsOf, tysOf, List.length_append, fits_len h.2]
      congr 1
      cases s with
      | leaf t => cases x <;> simp_all [fits, SV.cells, Sh.tys]
      | agg ts =>
        cases x <;> simp [fits] at h
        simpa [SV.cells, Sh.tys] using h.1
end Go.Cz
