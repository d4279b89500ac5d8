/- Part of the proof of a law of 28: an engine that runs a function over an abstract heap, and what the functions compute; own work. -/
import Derived.Test.YtpmojjeehmadpaaGreatEng5
set_option linter.unusedVariables false
set_option linter.unusedSimpArgs false
set_option linter.unusedSectionVars false
namespace Go.Cz
variable [Inhabited DrawnP]
open Go
set_option linter.unusedSimpArgs false
set_option linter.unusedVariables false
set_option linter.unusedSectionVars false

theorem run_storeOp {P : Program} {w w' : World} {ρ : Operand → Value} {o : Oper} {t : TypeId} {x y : Operand} {a : Addr} {v : Value} (ho : o.op = .store t x y) (hx : ρ x = .pointer (some a)) (hy : ρ y = v) (hs : 0 < sizeT P t) (hsz : sizeT P t = v.cells.size)
    (hr : (storeCells a v.cells.toList 0).run P w = .ok () w') : (execOp ρ o).run P w = .ok .skip w' := by
  cases hi : P.info? t with
  | none => simp [sizeT, hi] at hs
  | some i =>
    simp only [sizeT, hi] at hsz
    simp [execOp, ho, hx, hy, Instr.storeAt, Instr.sureAddr, storeVar, run_size hi, hsz, hr]
theorem leafs_mem {l : List SV} : leafs l = true ↔ ∀ x ∈ l, leafs [x] = true := by
  induction l with
  | nil => simp [leafs]
  | cons x r ih =>
    have e : leafs (x :: r) = (leafs [x] && leafs r) := by simp [leafs]
    rw [e, Bool.and_eq_true, ih]
    constructor
    · rintro ⟨h1, h2⟩ y hy
      rcases List.mem_cons.1 hy with rfl | hy
      · exact h1
      · exact h2 y hy
    · exact fun h => ⟨h x (by simp), fun y hy => h y (by simp [hy])⟩
theorem rel_one {P : Program} {β : Nat → Nat} {x : SV} {v : Value} (h : rel P β x v) (hl : leafs [x] = true) : one v := by
  cases x <;> simp [leafs] at hl <;> simp [rel] at h
  case i | b | t | s | p | ad | sl | m | loc => subst h; trivial
  case lsl => obtain ⟨c, rfl⟩ := h; trivial
  case clo => obtain ⟨f, c, rfl, _⟩ := h; trivial
  case fn => obtain ⟨k, fv, cv, rfl, _⟩ := h; trivial
theorem relL_one {P : Program} {β : Nat → Nat} : ∀ {l : List SV} {vs : List Value}, relL P β l vs → leafs l = true → ∀ v ∈ vs, one v
  | [], vs, h, _ => by rw [relL_nil] at h; simp [h]
  | x :: r, vs, h, hl => by
    obtain ⟨v, us, rfl, h1, h2⟩ := relL_cons.1 h
    rw [leafs_mem] at hl
    intro u hu
    rcases List.mem_cons.1 hu with rfl | hu
    · exact rel_one h1 (hl x (by simp))
    · exact relL_one h2 (leafs_mem.2 fun y hy => hl y (by simp [hy])) u hu

section
variable {G : Gl} {s : St} {K : Env → HProp} {next : Act → World → Prop} {Q : Exit → Act → World → Prop} {o : Oper}

theorem skip_step {w' : World} (hd : o.dst = none) (hrun : (execOp s.a.eval o).run G.P s.w = .ok .skip w') (h : next s.a w') : o.wp G.P s.a s.w next Q := by
  unfold Oper.wp
  rw [hrun]
  simpa [Oper.upon, hd, Act.put] using h

theorem storeCs_spec {a : Addr} {l : List Value} {K : HProp} {h : H} (hK : storeCs a l K h) : ∃ c, h a.block = some (.cells c true) ∧ a.spot = none ∧ a.off + l.length ≤ c.length ∧
    K (h.set a.block (.cells (c.take a.off ++ l ++ c.drop (a.off + l.length)) true)) := by
  have two : storesW a l K h → ∃ c, h a.block = some (.cells c true) ∧ a.spot = none ∧ a.off + l.length ≤ c.length ∧
    K (h.set a.block (.cells (c.take a.off ++ l ++ c.drop (a.off + l.length)) true)) := by
    intro hK
    unfold storesW at hK
    split at hK
    · rename_i c hc; exact ⟨c, hc, hK⟩
    · exact hK.elim
  match l, hK with
  | [], hK => exact two hK
  | [v], hK =>
    simp only [storeCs] at hK
    unfold storeW at hK
    split at hK
    · rename_i c hc
      obtain ⟨h1, h2, h3⟩ := hK
      refine ⟨c, hc, h1, by simp; omega, ?_⟩
      rw [List.set_eq_take_append_cons_drop, if_pos h2] at h3
      simpa using h3
    · exact hK.elim
  | v :: u :: r, hK => exact two hK

theorem store_sound (g : Good G s) (hd : o.dst = none) (hn : Nexts G s K next) {t : TypeId} {x y : Operand} (ho : o.op = .store t x y)
    (hK : doStore G.P t (s.e.ev x) (s.e.ev y) s.e K s.h) : o.wp G.P s.a s.w next Q := by
  unfold doStore at hK
  split at hK
  case isFalse => simp [stuckW] at hK
  rename_i hc
  simp only [Bool.and_eq_true] at hc
  have h0 : 0 < sizeT G.P t := Nat.le_of_ble_eq_true hc.2
  replace hc := hc.1
  have hsz : sizeT G.P t = (s.e.ev y).cells.length := Nat.eq_of_beq_eq_true hc.1
  have hx := ev_rel g x
  have hy := relL_map_cells (ev_rel g y) hc.2
  have hlen := relL_length hy
  have hone := relL_one hy hc.2
  have atA : ∀ a l, s.a.eval x = .pointer (some a) → toVs (s.e.ev y).cells = some l → 0 < sizeT G.P t → storeCs a l (K s.e) s.h → o.wp G.P s.a s.w next Q := by
    intro a l ha hl hs hK
    have hvl := toVs_rel hl hy
    obtain ⟨c, hb, hsp, hle, hK⟩ := storeCs_spec hK
    obtain ⟨T, fz, hw, hz⟩ := g.part.cells _ c true hb
    have ha' : a = ⟨a.block, a.off, none⟩ := by cases a; simp at hsp; simp [hsp]
    refine skip_step (w' := s.w.setCells a.block a.off l) hd (run_storeOp ho ha rfl hs (by rw [hsz, hlen]; simp) ?_) ?_
    · rw [hvl, ha']
      exact run_stores hw hle (hz rfl) (fun v hv => hone v (by rw [hvl]; exact hv))
    · exact hn _ hK (g.store hb hle (fun v hv => hone v (by rw [hvl]; exact hv))) Le.mem
  generalize hq : s.e.ev x = q at hK hx
  cases q <;> first | (simp [stuckW] at hK; done) | skip
  case p q =>
    simp only [] at hK
    cases hl : toVs (s.e.ev y).cells with
    | none => simp [hl, stuckW] at hK
    | some l =>
      simp only [hl] at hK
      unfold derefW at hK
      obtain ⟨a, rfl, hK⟩ := hK
      exact atA a l (by simpa [rel] using hx) hl h0 hK
  case ad a =>
    simp only [] at hK
    cases hl : toVs (s.e.ev y).cells with
    | none => simp [hl, stuckW] at hK
    | some l =>
      simp only [hl] at hK
      exact atA a l (by simpa [rel] using hx) hl h0 hK
  case loc id off =>
    simp only [] at hK
    split at hK
    case isFalse => simp [stuckW] at hK
    rename_i hb
    simp only [Bool.and_eq_true] at hb
    have hb1 := Nat.le_of_ble_eq_true hb.1
    unfold Env.loc at hb1 hK hb
    cases hloc : look s.e.locs id with
    | none => simp [hloc, Nat.blt] at hb
    | some c =>
    simp only [hloc] at hb1 hK hb
    have hb2 : off < c.length := by have := Nat.le_of_ble_eq_true hb.2; omega
    obtain ⟨h1, h2, h3, cs, T, h4, h5, h6, h7⟩ := g.locs id c hloc
    have hclen := relL_length h5
    · refine skip_step (w' := s.w.setCells (s.β id) off (s.a.eval y).cells.toList) hd (run_storeOp ho (by simpa [rel] using hx) rfl h0 (by rw [hsz, hlen]; simp) ?_) ?_
      · exact run_stores (c := cs.toList) (by simpa using h4) (by rw [← hlen, ← hclen]; exact hb1) (by simp) hone
      · exact hn _ hK (g.setLoc hloc hy hb1 hc.2 (below_cells (ev_wf g y))) ⟨fun _ _ => rfl, Nat.le_refl _, ⟨[], rfl⟩, ⟨[(id, splice c off (s.e.ev y).cells)], rfl⟩, rfl⟩
end
end Go.Cz
