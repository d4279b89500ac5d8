/- Part of the proof of a law of 28: an engine that runs a function over an abstract heap, and what the functions compute; own work. -/
import Derived.Test.YtpmojjeehmadpaaGreatEng3
set_option linter.unusedVariables false
set_option linter.unusedSimpArgs false
set_option linter.unusedSectionVars false
namespace Go.Cz
variable [Inhabited DrawnP]
open Go
set_option linter.unusedSimpArgs false

theorem one_iff {v : Value} (h : one v) : v.oneCell' = true := by cases v <;> first | rfl | exact h.elim

theorem setCells_heap (b : Nat) : ∀ (vs : List Value) (o : Nat) (w : World) (c : List Value) (T : TypeId) (fz : Nat × Nat),
    w.heap[b]? = some (.cells c.toArray T fz) → o + vs.length ≤ c.length →
    (w.setCells b o vs).heap[b]? = some (.cells (c.take o ++ vs ++ c.drop (o + vs.length)).toArray T fz)
  | [], o, w, c, T, fz, h, _ => by simpa [World.setCells] using h
  | v :: r, o, w, c, T, fz, h, hl => by
    simp only [List.length_cons] at hl
    have h1 : (w.setCell ⟨b, o, none⟩ v).heap[b]? = some (.cells (c.set o v).toArray T fz) := by
      simp [World.setCell, Array.getElem?_modify, h]
    have := setCells_heap b r (o + 1) _ (c.set o v) T fz h1 (by simp; omega)
    simp only [World.setCells]
    rw [this]
    congr 3
    rw [List.set_eq_take_append_cons_drop, if_pos (by omega)]
    have e1 : (List.take o c ++ v :: List.drop (o + 1) c).take (o + 1) = c.take o ++ [v] := by
      rw [List.take_append, List.length_take, Nat.min_eq_left (by omega)]
      simp [List.take_take]
    have e2 : (List.take o c ++ v :: List.drop (o + 1) c).drop (o + 1 + r.length) = c.drop (o + (r.length + 1)) := by
      rw [List.drop_append, List.length_take, Nat.min_eq_left (by omega)]
      have : (o + 1 + r.length - o) = r.length + 1 := by omega
      rw [this, List.drop_eq_nil_of_le (by simp; omega)]
      simp [List.drop_drop]
      congr 1; omega
    rw [e1, e2]
    simp
theorem setCells_other (b k : Nat) (hk : k ≠ b) : ∀ (vs : List Value) (o : Nat) (w : World), (w.setCells b o vs).heap[k]? = w.heap[k]?
  | [], o, w => rfl
  | v :: r, o, w => by
    simp only [World.setCells]
    rw [setCells_other b k hk r (o + 1)]
    exact Below.heap_setCell' w ⟨b, o, none⟩ v k hk
where
  Below.heap_setCell' (w : World) (a : Addr) (u : Value) (k : Nat) (h : k ≠ a.block) : (w.setCell a u).heap[k]? = w.heap[k]? := by
    simp only [World.setCell, Array.getElem?_modify]
    rw [if_neg (by omega)]
theorem setCells_same (b : Nat) : ∀ (vs : List Value) (o : Nat) (w : World), (w.setCells b o vs).os = w.os ∧ (w.setCells b o vs).tape = w.tape ∧ (w.setCells b o vs).output = w.output ∧ (w.setCells b o vs).heap.size = w.heap.size ∧ (w.setCells b o vs).drawn = w.drawn
  | [], o, w => ⟨rfl, rfl, rfl, rfl, rfl⟩
  | v :: r, o, w => by
    simp only [World.setCells]
    obtain ⟨h1, h2, h3, h4, h5⟩ := setCells_same b r (o + 1) (w.setCell ⟨b, o, none⟩ v)
    exact ⟨h1, h2, h3, by rw [h4]; simp [World.setCell], h5⟩

/-- cells are stored -/
theorem run_stores {P : Program} {w : World} {b o : Nat} {vs c : List Value} {T : TypeId} {fz : Nat × Nat} (hb : w.heap[b]? = some (.cells c.toArray T fz)) (hl : o + vs.length ≤ c.length)
    (hf : ∀ i, i < c.length → ¬ (fz.1 ≤ i ∧ i < fz.2)) (h1 : ∀ v ∈ vs, one v) : (storeCells ⟨b, o, none⟩ vs 0).run P w = .ok () (w.setCells b o vs) := by
  have := run_storeCells_cells (P := P) b o vs 0 w (fun j hj => by
    have : o + j < c.length := by omega
    simp [World.cell?, hb, this]) (fun j hj => by
    have h2 := hf (o + 0 + j) (by omega)
    simp only [World.frozen?, hb]
    simpa using h2) (fun v hv => one_iff (h1 v hv))
  simpa using this

/-- the heap behind a store -/
theorem Hpart.store {P : Program} {w : World} {h : H} (g : Hpart P w h) {b o : Nat} {c vs : List Value} (hb : h b = some (.cells c true)) (hl : o + vs.length ≤ c.length) (h1 : ∀ v ∈ vs, one v) :
    Hpart P (w.setCells b o vs) (h.set b (.cells (c.take o ++ vs ++ c.drop (o + vs.length)) true)) := by
  obtain ⟨T, fz, hw, hz⟩ := g.cells b c true hb
  constructor
  intro k c' wr hk
  unfold H.set at hk
  by_cases e : k = b
  · subst e
    rw [if_pos rfl] at hk
    simp only [Option.some.injEq, Blk.cells.injEq] at hk
    obtain ⟨rfl, rfl⟩ := hk
    refine ⟨T, fz, setCells_heap k vs o w c T fz hw hl, fun _ i hi => hz rfl i ?_⟩
    simp only [List.length_append, List.length_take, List.length_drop] at hi; omega
  · rw [if_neg e] at hk
    obtain ⟨T', fz', h1, h2⟩ := g.cells k c' wr hk
    exact ⟨T', fz', by rw [setCells_other b k e]; exact h1, h2⟩
theorem Hpart.lt {P : Program} {w : World} {h : H} (g : Hpart P w h) {b : Nat} {o : Blk} (hb : h b = some o) : b < w.heap.size := by
  cases o with
  | cells c wr =>
    obtain ⟨T, fz, h1, _⟩ := g.cells b c wr hb
    exact (Array.getElem?_eq_some_iff.1 h1).1
theorem Hpart.fresh {P : Program} {w : World} {h : H} (g : Hpart P w h) {b : Nat} (hb : w.heap.size ≤ b) : h b = none := by
  cases e : h b with
  | none => rfl
  | some o => have := g.lt e; omega
/-- a new block, behind which the heap reads as before -/
theorem Hpart.new {P : Program} {w : World} {h : H} (g : Hpart P w h) (c : List Value) (T : TypeId) (fz : Nat × Nat) (hz : ∀ i, i < c.length → ¬ (fz.1 ≤ i ∧ i < fz.2)) (w' : World) (hw : w'.heap = w.heap.push (.cells c.toArray T fz)) (h1 : ∀ v ∈ c, one v) :
    Hpart P w' (h.set w.heap.size (.cells c true)) := by
  constructor
  intro k c' wr hk
  unfold H.set at hk
  by_cases e : k = w.heap.size
  · subst e
    simp at hk
    obtain ⟨rfl, rfl⟩ := hk
    exact ⟨T, fz, by simp [hw], fun _ => hz⟩
  · rw [if_neg e] at hk
    obtain ⟨T', fz', h1, h2⟩ := g.cells k c' wr hk
    refine ⟨T', fz', ?_, h2⟩
    rw [hw, Array.getElem?_push, if_neg e]; exact h1
theorem Hpart.keep {P : Program} {w : World} {h : H} (g : Hpart P w h) (w' : World) (hw : ∀ b o, h b = some o → w'.heap[b]? = w.heap[b]?) : Hpart P w' h := by
  refine ⟨?_⟩
  intro b c wr hb
  obtain ⟨T, fz, h1, h2⟩ := g.cells b c wr hb
  exact ⟨T, fz, by rw [hw b _ hb]; exact h1, h2⟩

/-! ## States and memory -/
section
variable {G : Gl} {s : St}
/-- the heap's part is written; nothing else -/
theorem Good.mem {w' : World} {h' : H} (g : Good G s) (hp : Hpart G.P w' h') (hsz : s.w.heap.size ≤ w'.heap.size)
    (hother : ∀ b, b < s.w.heap.size → calm s.h b → h' b = s.h b ∧ w'.heap[b]? = s.w.heap[b]?) (hos : w'.os = s.w.os) (ht : w'.tape = s.w.tape) (ho : w'.output = s.w.output) (hd : (default : DrawnP).D → s.w.drawn ≤ w'.drawn) :
    Good G { s with w := w', h := h' } := by
  refine ⟨g.size, g.slots, g.wf, ?_, g.inj, hp, ?_⟩
  · intro id c hc
    obtain ⟨h1, h2, h3, cs, T, h4, h5⟩ := g.locs id c hc
    have hlt := (Array.getElem?_eq_some_iff.1 h4).1
    obtain ⟨h6, h7⟩ := hother _ hlt (fun c => by rw [h3]; simp)
    exact ⟨h1, h2, h6.trans h3, cs, T, by show w'.heap[_]? = _; rw [h7]; exact h4, h5⟩
  · refine ⟨Nat.le_trans g.keeps.size hsz, fun b hb h0 => ?_, hos.trans g.keeps.os, ht.trans g.keeps.tape, ho.trans g.keeps.output, fun q => Nat.le_trans (g.keeps.drawn q) (hd q)⟩
    obtain ⟨h1, h2⟩ := g.keeps.old b hb h0
    obtain ⟨h3, h4⟩ := hother b (Nat.lt_of_lt_of_le hb g.keeps.size) (fun c => by rw [h1]; exact h0 c)
    exact ⟨h3.trans h1, h4.trans h2⟩
theorem Le.mem {w' : World} {h' : H} : Le s { s with w := w', h := h' } := ⟨fun _ _ => rfl, Nat.le_refl _, ⟨[], rfl⟩, ⟨[], rfl⟩, rfl⟩

/-- a store into the heap -/
theorem Good.store (g : Good G s) {b o : Nat} {c vs : List Value} (hb : s.h b = some (.cells c true)) (hl : o + vs.length ≤ c.length) (hone : ∀ v ∈ vs, one v) :
    Good G { s with w := s.w.setCells b o vs, h := s.h.set b (.cells (c.take o ++ vs ++ c.drop (o + vs.length)) true) } := by
  obtain ⟨h1, h2, h3, h4, h5⟩ := setCells_same b vs o s.w
  refine g.mem (g.part.store hb hl hone) (by omega) ?_ h1 h2 h3 (fun _ => by omega)
  intro k hk h0
  have e : k ≠ b := fun e => by subst e; exact h0 _ hb
  exact ⟨by simp [H.set, e], setCells_other b k e vs o s.w⟩
/-- a new block of the heap -/
theorem Good.newBlock (g : Good G s) (c : List Value) (T : TypeId) (fz : Nat × Nat) (hz : ∀ i, i < c.length → ¬ (fz.1 ≤ i ∧ i < fz.2)) (w' : World) (hw : w'.heap = s.w.heap.push (.cells c.toArray T fz))
    (hos : w'.os = s.w.os) (ht : w'.tape = s.w.tape) (ho : w'.output = s.w.output) (h1 : ∀ v ∈ c, one v) (hd : (default : DrawnP).D → s.w.drawn ≤ w'.drawn := by intro _; first | exact Nat.le_refl _ | exact Nat.le_succ _) :
    Good G { s with w := w', h := s.h.set s.w.heap.size (.cells c true) } := by
  refine g.mem (g.part.new c T fz hz w' hw h1) (by simp [hw]) ?_ hos ht ho hd
  intro k hk h0
  exact ⟨by simp [H.set, Nat.ne_of_lt hk], by rw [hw, Array.getElem?_push, if_neg (Nat.ne_of_lt hk)]⟩
/-- a store into a local block -/
theorem Good.setLoc (g : Good G s) {id off : Nat} {c v : List SV} {vs : List Value} (hc : look s.e.locs id = some c) (hv : relL G.P s.β v vs) (hl : off + v.length ≤ c.length) (hu : leafs v = true) (hbl : belowL s.e.nloc v = true) :
    Good G { s with e := s.e.setLoc id (splice c off v), w := s.w.setCells (s.β id) off vs } := by
  obtain ⟨h1, h2, h3, cs, T, h4, h5, h6, h7⟩ := g.locs id c hc
  obtain ⟨e1, e2, e3, e4, e5⟩ := setCells_same (s.β id) vs off s.w
  have hlen := relL_length hv
  have hlen' := relL_length h5
  refine ⟨g.size, g.slots, g.wf, ?_, ?_, ?_, ?_⟩
  · intro i d hd
    simp only [Env.setLoc, look_cons] at hd
    by_cases e : id = i
    · subst e
      simp at hd
      subst hd
      refine ⟨h1, h2, h3, (cs.toList.take off ++ vs ++ cs.toList.drop (off + vs.length)).toArray, T, ?_, ?_, ?_, ?_⟩
      · exact setCells_heap _ vs off s.w cs.toList T (0, 0) (by simpa using h4) (by simp at hlen'; simp; omega)
      · rw [show (cs.toList.take off ++ vs ++ cs.toList.drop (off + vs.length)).toArray.toList = cs.toList.take off ++ vs ++ cs.toList.drop (off + vs.length) from rfl]
        unfold splice
        rw [hlen]
        exact relL_append (relL_append (relL_take _ h5) hv) (relL_drop _ h5)
      · exact leafs_splice h6 hu off
      · exact belowL_append (belowL_append (belowL_take h7 _) hbl) (belowL_drop h7 _)
    · rw [if_neg e] at hd
      obtain ⟨k1, k2, k3, cs', T', k4, k5⟩ := g.locs i d hd
      refine ⟨k1, k2, k3, cs', T', ?_, k5⟩
      show (World.setCells _ _ _ _).heap[_]? = _
      rw [setCells_other _ _ (fun eq => e (g.inj id i c d hc hd eq.symm))]
      exact k4
  · intro i j d d' hd hd' eq
    have aux : ∀ k q, look (s.e.setLoc id (splice c off v)).locs k = some q → ∃ q', look s.e.locs k = some q' := by
      intro k q hk
      simp only [Env.setLoc, look_cons] at hk
      by_cases e : id = k
      · subst e; exact ⟨c, hc⟩
      · rw [if_neg e] at hk; exact ⟨q, hk⟩
    obtain ⟨q1, p1⟩ := aux i d hd
    obtain ⟨q2, p2⟩ := aux j d' hd'
    exact g.inj i j q1 q2 p1 p2 eq
  · refine g.part.keep _ fun b o hb => ?_
    exact setCells_other _ _ (fun e => by rw [e, h3] at hb; cases hb) vs off s.w
  · refine ⟨by show _ ≤ (World.setCells _ _ _ _).heap.size; rw [e4]; exact g.keeps.size, fun b hb h0 => ?_, e1.trans g.keeps.os, e2.trans g.keeps.tape, e3.trans g.keeps.output, fun q => Nat.le_trans (g.keeps.drawn q) (Nat.le_of_eq e5.symm)⟩
    obtain ⟨k1, k2⟩ := g.keeps.old b hb h0
    exact ⟨k1, by show (World.setCells _ _ _ _).heap[b]? = _; rw [setCells_other _ _ (by omega)]; exact k2⟩
where
  leafs_append {l m : List SV} (h : leafs l = true) (g : leafs m = true) : leafs (l ++ m) = true := by
    induction l with
    | nil => exact g
    | cons x r ih => simp only [leafs, Bool.and_eq_true, List.cons_append] at h ⊢; exact ⟨h.1, ih h.2⟩
  leafs_take {l : List SV} (h : leafs l = true) (n : Nat) : leafs (l.take n) = true := by
    induction l generalizing n with
    | nil => simp [leafs]
    | cons x r ih => cases n with
      | zero => simp [leafs]
      | succ n => simp only [leafs, Bool.and_eq_true, List.take_succ_cons] at h ⊢; exact ⟨h.1, ih h.2 n⟩
  leafs_drop {l : List SV} (h : leafs l = true) (n : Nat) : leafs (l.drop n) = true := by
    induction l generalizing n with
    | nil => simp [leafs]
    | cons x r ih => cases n with
      | zero => simpa using h
      | succ n => simp only [leafs, Bool.and_eq_true, List.drop_succ_cons] at h ⊢; exact ih h.2 n
  leafs_splice {c v : List SV} (h : leafs c = true) (g : leafs v = true) (off : Nat) : leafs (splice c off v) = true :=
    leafs_append (leafs_append (leafs_take h off) g) (leafs_drop h _)

/-- a new local block -/
theorem Good.newLoc {d : Option Nat} {v : SV} {x : Value} (g : Good G s) {c : List SV} {cs : Array Value} (T : TypeId) (hv : relL G.P s.β c cs.toList) (hu : leafs c = true) (hbl : belowL s.e.nloc c = true) (hd : ∀ n, d = some n → n < G.N)
    (hx : rel G.P (fun i => if i = s.e.nloc then s.w.heap.size else s.β i) v x) (hw : below (s.e.nloc + 1) v = true) :
    Good G ⟨⟨slotPut s.e.slots d v, (s.e.nloc, c) :: s.e.locs, s.e.nloc + 1⟩,
      fun i => if i = s.e.nloc then s.w.heap.size else s.β i, s.a.put d x, s.w.alloc (.cells cs T), s.h⟩ := by
  have hcong : ∀ i, i < s.e.nloc → (if i = s.e.nloc then s.w.heap.size else s.β i) = s.β i := fun i hi => by rw [if_neg (by omega)]
  have hpush : ∀ b, b < s.w.heap.size → (s.w.alloc (.cells cs T)).heap[b]? = s.w.heap[b]? := fun b hb => by
    show (s.w.heap.push _)[b]? = _
    rw [Array.getElem?_push, if_neg (by omega)]
  have hpart : Hpart G.P (s.w.alloc (.cells cs T)) s.h := g.part.keep _ fun b o hb => hpush b (g.part.lt hb)
  refine ⟨?_, ?_, ?_, ?_, ?_, hpart, ?_⟩
  · cases d <;> simpa [Act.put] using g.size
  · intro n u hn
    have old : ∀ u, look s.e.slots n = some u → ∃ y, s.a.tmps[n]? = some y ∧ rel G.P (fun i => if i = s.e.nloc then s.w.heap.size else s.β i) u y := fun u hu' => by
      obtain ⟨y, hy, hr⟩ := g.slots n u hu'
      exact ⟨y, hy, rel_congr hcong (g.wf n u hu') hr⟩
    cases d with
    | none => exact old u hn
    | some d =>
      simp only [slotPut, look_cons] at hn
      by_cases e : d = n
      · subst e
        simp at hn; subst hn
        exact ⟨x, by simp [Act.put, g.size, hd d rfl], hx⟩
      · rw [if_neg e] at hn
        obtain ⟨y, hy, hr⟩ := old u hn
        exact ⟨y, by simp [Act.put, e, hy], hr⟩
  · intro n u hn
    cases d with
    | none => exact below_mono (Nat.le_succ _) (g.wf n u hn)
    | some d =>
      simp only [slotPut, look_cons] at hn
      by_cases e : d = n
      · subst e; simp at hn; subst hn; exact hw
      · rw [if_neg e] at hn; exact below_mono (Nat.le_succ _) (g.wf n u hn)
  · intro id q hq
    simp only [look_cons] at hq
    by_cases e : s.e.nloc = id
    · subst e
      simp at hq; subst hq
      refine ⟨Nat.lt_succ_self _, by simpa using g.keeps.size, by simpa using g.part.fresh (Nat.le_refl _), cs, T, by simp only [if_true]; exact Array.getElem?_push_size, relL_congr hcong hbl hv, hu, belowL_mono (Nat.le_succ _) hbl⟩
    · rw [if_neg e] at hq
      obtain ⟨h1, h2, h3, cs', T', h4, h5, h6, h7⟩ := g.locs id q hq
      have hne : id ≠ s.e.nloc := fun h => e h.symm
      refine ⟨Nat.lt_succ_of_lt h1, by simpa [hne] using h2, by simpa [hne] using h3, cs', T', ?_, relL_congr hcong h7 h5, h6, belowL_mono (Nat.le_succ _) h7⟩
      simp only [hne, if_false]
      rw [hpush _ (Array.getElem?_eq_some_iff.1 h4).1]; exact h4
  · intro i j c1 c2 h1 h2 eq
    simp only [look_cons] at h1 h2
    have lt : ∀ k q, look s.e.locs k = some q → s.β k < s.w.heap.size ∧ k ≠ s.e.nloc := fun k q hk => by
      obtain ⟨k1, _, _, cs', T', h4, _⟩ := g.locs k q hk
      exact ⟨(Array.getElem?_eq_some_iff.1 h4).1, by omega⟩
    by_cases ei : s.e.nloc = i <;> by_cases ej : s.e.nloc = j
    · omega
    · rw [if_neg ej] at h2
      obtain ⟨l1, l2⟩ := lt j c2 h2
      simp [ei.symm, l2] at eq; omega
    · rw [if_neg ei] at h1
      obtain ⟨l1, l2⟩ := lt i c1 h1
      simp [ej.symm, l2] at eq; omega
    · rw [if_neg ei] at h1; rw [if_neg ej] at h2
      obtain ⟨l1, l2⟩ := lt i c1 h1
      obtain ⟨l3, l4⟩ := lt j c2 h2
      simp [l2, l4] at eq
      exact g.inj i j c1 c2 h1 h2 eq
  · refine ⟨by have := g.keeps.size; rw [World.size_alloc]; omega, fun b hb h0 => ?_, g.keeps.os, g.keeps.tape, g.keeps.output, g.keeps.drawn⟩
    obtain ⟨k1, k2⟩ := g.keeps.old b hb h0
    exact ⟨k1, by rw [hpush b (Nat.lt_of_lt_of_le hb g.keeps.size)]; exact k2⟩
theorem Le.newLoc {d : Option Nat} {v : SV} {x : Value} {c : List SV} {b : Nat} {w' : World} : Le s ⟨⟨slotPut s.e.slots d v, (s.e.nloc, c) :: s.e.locs, s.e.nloc + 1⟩,
      fun i => if i = s.e.nloc then b else s.β i, s.a.put d x, w', s.h⟩ := by
  refine ⟨fun id hid => by simp [Nat.ne_of_lt hid], Nat.le_succ _, ?_, ⟨[(s.e.nloc, c)], rfl⟩, ?_⟩
  · cases d with
    | none => exact ⟨[], rfl⟩
    | some d => exact ⟨[(d, v)], rfl⟩
  · cases d <;> rfl
end
end Go.Cz
