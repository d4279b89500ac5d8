/- Part of the proof of a law of 28: an engine that runs a function over an abstract heap, and what the functions compute; own work. -/
import Derived.Test.YtpmojjeehmadpaaP28q
set_option linter.unusedVariables false
set_option linter.unusedSimpArgs false
set_option linter.unusedSectionVars false
namespace Go.Cz.S
set_option maxRecDepth 100000
set_option maxHeartbeats 1000000
set_option linter.unusedSimpArgs false
set_option linter.unusedVariables false

/-! ## What has ended stays so: the model -/
/-- an entry as it may be: fewer than r rounds -/
structure EOk (n : Int) (r : Nat) (e : Ent) : Prop where
  st : 1 ≤ e.state ∧ e.state ≤ 5
  cd : e.code ≠ 0 ↔ e.state = 5
  ok : okReq e.kind e.arg e.prio n = true
  rd : 0 ≤ e.round ∧ e.round ≤ r
  at_ : e.att = true → e.state = 2
  ex : e.exp = true → e.state = 2
def RelT (e f : Ent) : Prop := (2 < e.state → f.state = e.state ∧ f.code = e.code) ∧ e.state ≤ f.state ∧ f.round = e.round
def Rel (e f : Ent) : Prop := (2 < e.state → f.state = e.state ∧ f.code = e.code ∧ f.round = e.round) ∧ e.state ≤ f.state ∧ e.round ≤ f.round ∧ f.round ≤ e.round + 1
theorem RelT.refl (e : Ent) : RelT e e := ⟨fun _ => ⟨rfl, rfl⟩, Int.le_refl _, rfl⟩
theorem RelT.trans {a b c : Ent} (h : RelT a b) (g : RelT b c) : RelT a c := by
  obtain ⟨h1, h2, h3⟩ := h
  obtain ⟨g1, g2, g3⟩ := g
  refine ⟨fun ha => ?_, by omega, by omega⟩
  obtain ⟨x, y⟩ := h1 ha
  obtain ⟨u, v⟩ := g1 (by omega)
  exact ⟨by omega, by omega⟩
theorem RelT.rel {a b : Ent} (h : RelT a b) : Rel a b := ⟨fun ha => ⟨(h.1 ha).1, (h.1 ha).2, h.2.2⟩, h.2.1, by have := h.2.2; omega, by have := h.2.2; omega⟩
theorem Rel.refl (e : Ent) : Rel e e := (RelT.refl e).rel
def All2 (R : Ent → Ent → Prop) (l m : List Ent) : Prop := l.length = m.length ∧ ∀ (i : Nat) (e f : Ent), l[i]? = some e → m[i]? = some f → R e f
theorem All2.reflT (l : List Ent) : All2 RelT l l := ⟨rfl, fun i e f h1 h2 => by rw [h1] at h2; cases h2; exact RelT.refl e⟩
theorem All2.transT {l m k : List Ent} (h : All2 RelT l m) (g : All2 RelT m k) : All2 RelT l k := by
  refine ⟨h.1.trans g.1, fun i e f h1 h2 => ?_⟩
  have hi := (List.getElem?_eq_some_iff.1 h1).1
  have hm : m[i]? = some (m[i]'(by rw [← h.1]; exact hi)) := List.getElem?_eq_getElem _
  exact (h.2 i e _ h1 hm).trans (g.2 i _ f hm h2)
theorem All2.rel {l m : List Ent} (h : All2 RelT l m) : All2 Rel l m := ⟨h.1, fun i e f h1 h2 => (h.2 i e f h1 h2).rel⟩
def GoodL (n : Int) (r : Nat) (l : List Ent) : Prop := ∀ e ∈ l, EOk n r e
theorem EOk.mono {n : Int} {r s : Nat} {e : Ent} (h : EOk n r e) (hs : r ≤ s) : EOk n s e := ⟨h.st, h.cd, h.ok, ⟨h.rd.1, by have := h.rd.2; omega⟩, h.at_, h.ex⟩
theorem GoodL.mono {n : Int} {r s : Nat} {l : List Ent} (h : GoodL n r l) (hs : r ≤ s) : GoodL n s l := fun e he => (h e he).mono hs
section
variable {n : Int} {r s : Nat}
theorem set_good {R : Ent → Ent → Prop} (hR : ∀ e, R e e) {l : List Ent} {i : Nat} {e g : Ent} (G : GoodL n r l) (he : l[i]? = some e) (hg : EOk n r g) (hr : R e g) : GoodL n r (l.set i g) ∧ All2 R l (l.set i g) := by
  have hi := (List.getElem?_eq_some_iff.1 he).1
  refine ⟨fun x hx => ?_, by simp, fun j a b h1 h2 => ?_⟩
  · rcases List.mem_or_eq_of_mem_set hx with hx | rfl
    · exact G x hx
    · exact hg
  · by_cases e' : i = j
    · subst e'
      rw [he] at h1; cases h1
      rw [List.getElem?_set_self hi] at h2; cases h2
      exact hr
    · rw [List.getElem?_set_ne e'] at h2
      rw [h1] at h2; cases h2; exact hR a
/-- those of a list of numbers are turned, one by one -/
theorem fold_good {f : Ent → Ent} {P : Ent → Prop} (hf : ∀ e, EOk n r e → P e → EOk n r (f e) ∧ RelT e (f e) ∧ P (f e)) : ∀ (ids : List Int) (l : List Ent), GoodL n r l →
    (∀ x ∈ ids, ∃ (i : Nat) (e : Ent), x = ((i + 1 : Nat) : Int) ∧ l[i]? = some e ∧ P e) → GoodL n r (ids.foldl (upd f) l) ∧ All2 RelT l (ids.foldl (upd f) l)
  | [], l, G, _ => ⟨G, All2.reflT l⟩
  | x :: xs, l, G, hx => by
    obtain ⟨i, e, rfl, he, hp⟩ := hx x (List.mem_cons_self ..)
    have hi := (List.getElem?_eq_some_iff.1 he).1
    obtain ⟨a, b, c⟩ := hf e (G e (List.mem_of_getElem? he)) hp
    obtain ⟨G1, A1⟩ := set_good RelT.refl G he a b
    rw [List.foldl_cons, upd_at _ he]
    obtain ⟨G2, A2⟩ := fold_good hf xs (l.set i (f e)) G1 fun y hy => by
      obtain ⟨j, g, rfl, hg, hpg⟩ := hx y (List.mem_cons_of_mem _ hy)
      by_cases e' : i = j
      · subst e'; exact ⟨i, f e, rfl, List.getElem?_set_self hi, c⟩
      · exact ⟨j, g, rfl, by rw [List.getElem?_set_ne e']; exact hg, hpg⟩
    exact ⟨G2, A1.transT A2⟩
theorem tick1_good {l : List Ent} (G : GoodL n r l) : GoodL n r (tick1 l) ∧ All2 RelT l (tick1 l) := by
  refine fold_good (f := incE) (P := fun _ => True) (fun e h _ => ⟨⟨h.st, h.cd, h.ok, h.rd, h.at_, h.ex⟩, ⟨fun _ => ⟨rfl, rfl⟩, Int.le_refl _, rfl⟩, trivial⟩) _ _ G fun x hx => ?_
  obtain ⟨j, e, h1, _, h3, _⟩ := mem_ids hx
  exact ⟨j, e, h1, h3, trivial⟩
theorem admit_good {tot : Int} : ∀ (g : Nat) (l : List Ent), GoodL n r l → GoodL n r (admitN tot g l) ∧ All2 RelT l (admitN tot g l)
  | 0, l, G => ⟨G, All2.reflT l⟩
  | g + 1, l, G => by
    simp only [admitN]
    cases h : admit1 tot l with
    | none => exact ⟨G, All2.reflT l⟩
    | some l' =>
      have : GoodL n r l' ∧ All2 RelT l l' := by
        unfold admit1 at h
        split at h
        · split at h
          · cases h
          · rename_i hz
            split at h
            · cases h
            · cases h
              have hne : ids isQ l ≠ [] := by intro e; rw [e] at hz; exact hz rfl
              obtain ⟨j, e, hx, hj, he, hp⟩ := mem_ids (minF_mem (aheadC l) _ hne)
              rw [hx, upd_at _ he]
              have hs : e.state = 1 := of_decide_eq_true hp
              have E := G e (List.mem_of_getElem? he)
              have hc : ¬ (e.code ≠ 0) := fun h => by have := E.cd.1 h; omega
              refine set_good RelT.refl G he ⟨⟨by show (1 : Int) ≤ 2; decide, by show (2 : Int) ≤ 5; decide⟩, ?_, E.ok, E.rd, fun _ => rfl, fun _ => rfl⟩ ⟨fun h => by omega, by show e.state ≤ 2; omega, rfl⟩
              show e.code ≠ 0 ↔ (2 : Int) = 5
              exact ⟨fun h => absurd h hc, fun h => by cases h⟩
        · cases h
      obtain ⟨a, b⟩ := admit_good g l' this.1
      exact ⟨a, this.2.transT b⟩
theorem tick_good {c : Cfg} {pos fault : Int} {l : List Ent} (G : GoodL n r l) : GoodL n r (tickF c pos l fault).all ∧ All2 RelT l (tickF c pos l fault).all := by
  obtain ⟨G1, A1⟩ := tick1_good G
  obtain ⟨G2, A2⟩ := admit_good (tot := c.tot) (ids isQ (tick1 l)).length _ G1
  have hatt : ∀ x ∈ ids isA (admitF c.tot (tick1 l)), ∃ (i : Nat) (e : Ent), x = ((i + 1 : Nat) : Int) ∧ (admitF c.tot (tick1 l))[i]? = some e ∧ e.state = 2 := fun x hx => by
    obtain ⟨j, e, h1, _, h3, h4⟩ := mem_ids hx
    exact ⟨j, e, h1, h3, (G2 e (List.mem_of_getElem? h3)).at_ h4⟩
  unfold tickF
  simp only []
  split
  · exact ⟨G2, A1.transT A2⟩
  · split
    · rename_i hf
      obtain ⟨G3, A3⟩ := fold_good (f := endE 5 fault) (P := fun e => e.state = 2 ∨ e.state = 5 ∧ e.code = fault) (fun e h hp => ⟨⟨⟨by show (1 : Int) ≤ 5; decide, by show (5 : Int) ≤ 5; decide⟩, ⟨fun _ => rfl, fun _ => hf⟩, h.ok, h.rd, fun h => (by cases h), fun h => (by cases h)⟩,
          ⟨fun h2 => by rcases hp with hp | hp
                        · omega
                        · exact ⟨hp.1.symm, hp.2.symm⟩, h.st.2, rfl⟩, .inr ⟨rfl, rfl⟩⟩) (ids isA (admitF c.tot (tick1 l))) _ G2 fun x hx => by
        obtain ⟨i, e, h1, h2, h3⟩ := hatt x hx
        exact ⟨i, e, h1, h2, .inl h3⟩
      exact ⟨G3, (A1.transT A2).transT A3⟩
    · obtain ⟨G3, A3⟩ := fold_good (f := expE) (P := fun e => e.state = 2) (fun e h hp => ⟨⟨h.st, h.cd, h.ok, h.rd, h.at_, fun _ => hp⟩, ⟨fun _ => ⟨rfl, rfl⟩, Int.le_refl _, rfl⟩, hp⟩) (ids isA (admitF c.tot (tick1 l))) _ G2 hatt
      exact ⟨G3, (A1.transT A2).transT A3⟩
theorem serve_good {k fault : Int} {e : Ent} (h : EOk n r e) (hr : r ≤ 100000) (hs : e.state = 2) : EOk n (r + 1) (serveE k fault e) ∧ Rel e (serveE k fault e) := by
  have hc : ¬ (e.code ≠ 0) := fun h' => by have := h.cd.1 h'; omega
  obtain ⟨r0, r1⟩ := h.rd
  unfold serveE
  by_cases hf : fault ≠ 0
  · rw [if_pos hf]
    exact ⟨⟨⟨by show (1 : Int) ≤ 5; decide, by show (5 : Int) ≤ 5; decide⟩, ⟨fun _ => rfl, fun _ => hf⟩, h.ok, ⟨r0, by show e.round ≤ _; omega⟩, fun h => (by cases h), fun h => (by cases h)⟩, ⟨fun h2 => by omega, by show e.state ≤ 5; omega, Int.le_refl _, by show e.round ≤ _; omega⟩⟩
  · rw [if_neg hf]
    split
    · exact ⟨⟨h.st, h.cd, h.ok, ⟨r0, by show e.round ≤ _; omega⟩, h.at_, fun h => (by cases h)⟩, ⟨fun h2 => by omega, Int.le_refl _, Int.le_refl _, by show e.round ≤ e.round + 1; omega⟩⟩
    · split
      · refine ⟨⟨⟨by show (1 : Int) ≤ 3; decide, by show (3 : Int) ≤ 5; decide⟩, ⟨fun h => absurd rfl h, fun h => by cases h⟩, h.ok, ⟨r0, by show e.round ≤ _; omega⟩, fun h => (by cases h), fun h => (by cases h)⟩, ⟨fun h2 => by omega, by show e.state ≤ 3; omega, Int.le_refl _, by show e.round ≤ _; omega⟩⟩
      · have er : add .i64 e.round 1 = e.round + 1 := add_i64 (by omega) (by omega)
        rw [er]
        exact ⟨⟨h.st, h.cd, h.ok, ⟨by show 0 ≤ e.round + 1; omega, by show e.round + 1 ≤ _; omega⟩, h.at_, fun h => (by cases h)⟩, ⟨fun h2 => by omega, Int.le_refl _, by show e.round ≤ e.round + 1; omega, Int.le_refl _⟩⟩
theorem step_good {c : Cfg} {pos pk fault : Int} {l : List Ent} (G : GoodL n r l) (hr : r ≤ 100000) : GoodL n (r + 1) (stepF c pos l pk fault).all ∧ All2 Rel l (stepF c pos l pk fault).all := by
  unfold stepF
  split
  · obtain ⟨a, b⟩ := tick_good (c := c) (pos := pos) (fault := fault) G
    exact ⟨a.mono (by omega), b.rel⟩
  · split
    · exact ⟨G.mono (by omega), (All2.reflT l).rel⟩
    · cases hq : (ids isX l)[pk.toNat]? with
      | none => exact ⟨G.mono (by omega), (All2.reflT l).rel⟩
      | some id =>
        obtain ⟨j, e, hx, hj, he, hp⟩ := mem_ids (List.mem_of_getElem? hq)
        simp only [hx]
        rw [upd_at _ he]
        have E := G e (List.mem_of_getElem? he)
        obtain ⟨a, b⟩ := serve_good (k := c.k) (fault := fault) E hr (E.ex hp)
        exact set_good Rel.refl (G.mono (by omega)) he a b
theorem cancel_good {l : List Ent} {id : Int} (G : GoodL n r l) : GoodL n (r + 1) (cancelF l id).2 ∧ All2 Rel l (cancelF l id).2 := by
  unfold cancelF getE
  split
  · rename_i e he
    split at he
    · cases he
    · split
      · exact ⟨G.mono (by omega), (All2.reflT l).rel⟩
      · rename_i hns
        have E := G e (List.mem_of_getElem? he)
        have hs : e.state = 1 ∨ e.state = 2 := by omega
        obtain ⟨a, b⟩ := set_good (g := endE 4 0 e) RelT.refl G he ⟨⟨by show (1 : Int) ≤ 4; decide, by show (4 : Int) ≤ 5; decide⟩, ⟨fun h => absurd rfl h, fun h => by cases h⟩, E.ok, E.rd, fun h => (by cases h), fun h => (by cases h)⟩ ⟨fun h2 => by omega, by show e.state ≤ 4; omega, rfl⟩
        exact ⟨a.mono (by omega), b.rel⟩
  · exact ⟨G.mono (by omega), (All2.reflT l).rel⟩
end
end Go.Cz.S
