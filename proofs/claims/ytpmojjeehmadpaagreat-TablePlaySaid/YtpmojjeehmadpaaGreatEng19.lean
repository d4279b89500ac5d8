/- Part of the proof of a law of 28: an engine that runs a function over an abstract heap, and what the functions compute; own work. -/
import Derived.Test.YtpmojjeehmadpaaGreatEng18
import Derived.Test.YtpmojjeehmadpaaGreatEngG
set_option linter.unusedVariables false
set_option linter.unusedSimpArgs false
set_option linter.unusedSectionVars false
namespace Go.Cz
variable [Inhabited DrawnP]
open Go
set_option linter.unusedSimpArgs false
set_option linter.unusedVariables false
set_option linter.unusedSectionVars false

theorem rep_getD (n i : Nat) : (Array.replicate n false).getD i false = false := by
  rw [Array.getD_eq_getD_getElem?, Array.getElem?_replicate]; split <;> rfl
def ExRel : Exit → Ex → Prop
  | .normal, .normal => True
  | .exit n, .exit m => n = m
  | .ret, .ret => True
  | _, _ => False

/-- what a piece of code comes to -/
def Post (G : Gl) (s : St) (K : Ex → Env → HProp) : Exit → Act → World → Prop := fun x a w => ∃ x' s', ExRel x x' ∧ s'.a = a ∧ s'.w = w ∧ K x' s'.e s'.h ∧ Good G s' ∧ Le s s'
theorem Post.out {G : Gl} {s : St} {K : Ex → Env → HProp} : LetsOut (Post G s K) → False := by
  rintro ⟨a, w, x', s', h, _⟩
  cases x' <;> exact h
theorem Post.nopanic {G : Gl} {s : St} {K : Ex → Env → HProp} : ∀ c a w, ¬ Post G s K (.panic c) a w := by
  rintro c a w ⟨x', s', h, _⟩
  cases x' <;> exact h
theorem Post.mk {G : Gl} {s s' : St} {K : Ex → Env → HProp} {x : Exit} {x' : Ex} (hx : ExRel x x') (hK : K x' s'.e s'.h) (g : Good G s') (le : Le s s') : Post G s K x s'.a s'.w := ⟨x', s', hx, rfl, rfl, hK, g, le⟩
theorem Post.le {G : Gl} {s s1 : St} {K : Ex → Env → HProp} {x : Exit} {a : Act} {w : World} (le : Le s s1) (h : Post G s1 K x a w) : Post G s K x a w := by
  obtain ⟨x', s', h1, h2, h3, h4, h5, h6⟩ := h
  exact ⟨x', s', h1, h2, h3, h4, h5, le.trans h6⟩

set_option maxHeartbeats 4000000 in
theorem interp_sound {G : Gl} {C : Ctx} (hC : C.P = G.P) (hm : G.P.follows .mixedOrders = true) (hE : ∀ x ∈ C.eqs, eqStructT G.P x.1 x.2 = true) (hΦ : ∀ en ∈ C.Φ, Linked G.P en) (ann : List (Nat × Join)) : ∀ (c : Code) (i : Nat) (s : St) (K : Ex → Env → HProp), Good G s → (∀ n ∈ writes c, n < G.N) →
    interp C ann c i s.e K s.h → c.wp G.P (Post G s K) s.a s.w := by
  intro c
  induction c with
  | skip => intro i s K g hw hK; exact wp_skip (Post.mk (x' := .normal) trivial hK g (Le.refl s))
  | ret => intro i s K g hw hK; exact wp_ret (Post.mk (x' := .ret) trivial hK g (Le.refl s))
  | exit n => intro i s K g hw hK; exact wp_exit (Post.mk (x' := .exit n) rfl hK g (Le.refl s))
  | region id ops draw =>
    intro i s K g hw hK
    simp only [interp] at hK
    cases draw with
    | true =>
      have hwo : ∀ o ∈ ops.toList, ∀ n, o.dst = some n → n < G.N := fun o ho n hn => hw n (wrOps_mem ho hn)
      simp only [if_true] at hK
      split at hK
      case isFalse => simp [stuckW] at hK
      rename_i hc
      simp only [Bool.and_eq_true] at hc
      have gd : ∀ w', w'.heap = s.w.heap → w'.os = s.w.os → w'.tape = s.w.tape → w'.output = s.w.output → s.w.drawn ≤ w'.drawn → Good G { s with w := w' } := by
        intro w' h1 h2 h3 h4 h5
        refine ⟨g.size, g.slots, g.wf, ?_, g.inj, ⟨?_⟩, ⟨?_, ?_, ?_, ?_, ?_, ?_⟩⟩
        · show ∀ id c, look s.e.locs id = some c → id < s.e.nloc ∧ G.W0.heap.size ≤ s.β id ∧ s.h (s.β id) = none ∧ ∃ cs T, w'.heap[s.β id]? = some (.cells cs T) ∧ _
          rw [h1]; exact g.locs
        · show ∀ b c wr, s.h b = some (.cells c wr) → ∃ T fz, w'.heap[b]? = some (.cells c.toArray T fz) ∧ _
          rw [h1]; exact g.part.cells
        · show _ ≤ w'.heap.size
          rw [h1]; exact g.keeps.size
        · show ∀ b, b < G.W0.heap.size → calm G.h0 b → s.h b = G.h0 b ∧ w'.heap[b]? = G.W0.heap[b]?
          rw [h1]; exact g.keeps.old
        · exact h2.trans g.keeps.os
        · exact h3.trans g.keeps.tape
        · exact h4.trans g.keeps.output
        · exact fun q => Nat.le_trans (g.keeps.drawn q) h5
      have lr0 : LR ops (Array.replicate ops.size false) [] := ⟨by simp, fun i => by rw [rep_getD]; rfl⟩
      have cl0 : Closed ops (Array.replicate ops.size false) := by
        intro k o hk hl
        rw [rep_getD] at hl; cases hl
      refine wp_region_any hm (wpC_any (dep := depB (clos ops.toList [])) ops.size [] _ _ _ ?_)
      cases hj : look ann i with
      | none =>
        simp only [hj] at hK
        exact draw_sound (s := { s with w := { s.w with drawn := s.w.drawn + 1 } }) hC hE hΦ Post.out Post.nopanic hc.2 hc.1 hwo ops.size [] _ [] (gd _ rfl rfl rfl rfl (Nat.le_succ _)) lr0 cl0 (fun c hc => by simp at hc) hK
          fun s' hK' g' le' => Post.mk (x' := .normal) trivial hK' g' ⟨le'.beta, le'.nloc, le'.slots, le'.locs, le'.defers⟩
      | some j =>
        simp only [hj] at hK
        unfold withK at hK
        refine draw_sound (s := { s with w := { s.w with drawn := s.w.drawn + 1 } }) hC hE hΦ Post.out Post.nopanic hc.2 hc.1 hwo ops.size [] _ [] (gd _ rfl rfl rfl rfl (Nat.le_succ _)) lr0 cl0 (fun c hc => by simp at hc) hK fun s' hK' g' le' => ?_
        obtain ⟨t, hK2, g2, le2⟩ := give_sound hΦ g g' ⟨le'.beta, le'.nloc, le'.slots, le'.locs, le'.defers⟩ (fun n hn => hw n hn) hK'
        exact Post.mk (s' := { s' with e := j.take s.e (wrOps ops.toList) t }) (x' := .normal) trivial hK2 g2 le2
    | false =>
      simp only [Bool.false_eq_true, if_false] at hK
      have hwo : ∀ o ∈ ops.toList, ∀ n, o.dst = some n → n < G.N := fun o ho n hn => hw n (wrOps_mem ho hn)
      refine wp_region_list ?_
      cases hj : look ann i with
      | none =>
        simp only [hj] at hK
        exact doOps_sound hC hE hΦ Post.out ops.toList s g hwo hK fun s' hK' g' le' => Post.mk (x' := .normal) trivial hK' g' le'
      | some j =>
        simp only [hj] at hK
        unfold withK at hK
        refine doOps_sound hC hE hΦ Post.out ops.toList s g hwo hK fun s' hK' g' le' => ?_
        obtain ⟨t, hK2, g2, le2⟩ := give_sound hΦ g g' le' (fun n hn => hw n hn) hK'
        exact Post.mk (s' := { s' with e := j.take s.e (wrOps ops.toList) t }) (x' := .normal) trivial hK2 g2 le2
  | seq a b iha ihb =>
    intro i s K g hw hK
    have hwa : ∀ n ∈ writes a, n < G.N := fun n hn => hw n (by simp [writes, hn])
    have hwb : ∀ n ∈ writes b, n < G.N := fun n hn => hw n (by simp [writes, hn])
    simp only [interp] at hK
    refine wp_seq ?_
    cases hj : look ann i with
    | none =>
      simp only [hj] at hK
      refine wp_mono (iha _ s _ g hwa hK) ?_
      rintro e a' w' ⟨x', s', hx, rfl, rfl, hK', g', le'⟩
      cases e <;> cases x' <;> simp only [ExRel] at hx
      case normal.normal => exact wp_mono (ihb _ s' K g' hwb hK') fun e a w h => h.le le'
      all_goals exact ⟨_, s', by first | exact trivial | exact hx, rfl, rfl, hK', g', le'⟩
    | some j =>
      simp only [hj] at hK
      unfold withK at hK
      refine wp_mono (iha _ s _ g hwa hK) ?_
      rintro e a' w' ⟨x', s', hx, rfl, rfl, hK', g', le'⟩
      cases e <;> cases x' <;> simp only [ExRel] at hx
      case normal.normal =>
        obtain ⟨t, hK2, g2, le2⟩ := give_sound hΦ g g' le' hwa hK'
        exact wp_mono (ihb _ { s' with e := j.take s.e (writes a) t } K g2 hwb hK2) fun e a w h => h.le le2
      all_goals exact ⟨_, s', by first | exact trivial | exact hx, rfl, rfl, hK', g', le'⟩
  | cond c a b iha ihb =>
    intro i s K g hw hK
    have hwa : ∀ n ∈ writes a, n < G.N := fun n hn => hw n (by simp [writes, hn])
    have hwb : ∀ n ∈ writes b, n < G.N := fun n hn => hw n (by simp [writes, hn])
    simp only [interp] at hK
    have hc := ev_rel g c
    generalize hq : s.e.ev c = q at hK hc
    cases q <;> first | (simp [stuckW] at hK; done) | skip
    case t v =>
      simp only [rel] at hc
      refine wp_cond hc ?_
      cases v with
      | true => exact iha _ s K g hwa hK
      | false => exact ihb _ s K g hwb hK
    case b v =>
      simp only [rel] at hc
      simp only [] at hK
      unfold iteW at hK
      refine wp_cond hc ?_
      cases v with
      | true => simp only [if_true] at hK ⊢; exact iha _ s K g hwa hK
      | false => simp only [Bool.false_eq_true, if_false] at hK ⊢; exact ihb _ s K g hwb hK
  | block n a ih =>
    intro i s K g hw hK
    simp only [interp] at hK
    refine wp_block ?_
    have hwa : ∀ n ∈ writes a, n < G.N := fun n hn => hw n (by simpa [writes] using hn)
    cases hj : look ann i with
    | none =>
      simp only [hj] at hK
      refine wp_mono (ih _ s _ g hwa hK) ?_
      rintro e a' w' ⟨x', s', hx, rfl, rfl, hK', g', le'⟩
      cases e <;> cases x' <;> simp only [ExRel] at hx
      case exit.exit m m' =>
        subst hx
        simp only [Exit.inBlock]
        by_cases hm : m = n
        · subst hm
          simp only [if_true]
          simp only [Nat.beq_refl, if_true] at hK'
          exact ⟨.normal, s', trivial, rfl, rfl, hK', g', le'⟩
        · rw [if_neg hm]
          have : Nat.beq m n = false := by
            cases hb : Nat.beq m n
            · rfl
            · exact absurd (Nat.eq_of_beq_eq_true hb) hm
          simp only [this, Bool.false_eq_true, if_false] at hK'
          exact ⟨.exit m, s', rfl, rfl, rfl, hK', g', le'⟩
      all_goals exact ⟨_, s', by first | exact trivial | exact hx, rfl, rfl, hK', g', le'⟩
    | some j =>
      simp only [hj] at hK
      unfold withK at hK
      refine wp_mono (ih _ s _ g hwa hK) ?_
      rintro e a' w' ⟨x', s', hx, rfl, rfl, hK', g', le'⟩
      cases e <;> cases x' <;> simp only [ExRel] at hx
      case normal.normal =>
        obtain ⟨t, hK2, g2, le2⟩ := give_sound hΦ g g' le' hwa hK'
        exact ⟨.normal, { s' with e := j.take s.e (writes a) t }, trivial, rfl, rfl, hK2, g2, le2⟩
      case exit.exit m m' =>
        subst hx
        simp only [Exit.inBlock]
        by_cases hm : m = n
        · subst hm
          simp only [if_true]
          simp only [Nat.beq_refl, if_true] at hK'
          obtain ⟨t, hK2, g2, le2⟩ := give_sound hΦ g g' le' hwa hK'
          exact ⟨.normal, { s' with e := j.take s.e (writes a) t }, trivial, rfl, rfl, hK2, g2, le2⟩
        · rw [if_neg hm]
          have : Nat.beq m n = false := by
            cases hb : Nat.beq m n
            · rfl
            · exact absurd (Nat.eq_of_beq_eq_true hb) hm
          simp only [this, Bool.false_eq_true, if_false] at hK'
          exact ⟨.exit m, s', rfl, rfl, rfl, hK', g', le'⟩
      all_goals exact ⟨_, s', by first | exact trivial | exact hx, rfl, rfl, hK', g', le'⟩
  | loop a ih =>
    intro i s K g hw hK
    have hwa : ∀ n ∈ writes a, n < G.N := fun n hn => hw n (by simpa [writes] using hn)
    simp only [interp] at hK
    cases hj : look ann i with
    | none => simp [hj, stuckW] at hK
    | some j =>
      simp only [hj] at hK
      obtain ⟨t0, hK, g0, le0⟩ := give_sound hΦ g g (Le.refl s) hwa hK
      unfold loopW at hK
      obtain ⟨I, μ, hI, hround⟩ := hK
      refine wp_loop_ghost (fun n a w => ∃ t s', s'.a = a ∧ s'.w = w ∧ s'.e = j.take s.e (writes (by assumption)) t ∧ I t s'.h ∧ μ t s'.h = n ∧ Good G s' ∧ Le s s') (μ t0 s.h) ⟨t0, { s with e := j.take s.e _ t0 }, rfl, rfl, rfl, hI, rfl, g0, le0⟩ ?_
      rintro n a w ⟨t, s', rfl, rfl, he, hI', rfl, g', le'⟩
      have hr := hround t s'.h hI'
      replace hr : interp C ann _ (i + 1) (j.take s.e _ t) _ s'.h := hr
      rw [← he] at hr
      refine wp_mono (ih _ s' _ g' hwa hr) ?_
      rintro e a' w' ⟨x', s'', hx, rfl, rfl, hK', g'', le''⟩
      cases e <;> cases x' <;> simp only [ExRel] at hx
      case normal.normal =>
        obtain ⟨t', hK2, g2, le2⟩ := give_sound hΦ g g'' (le'.trans le'') hwa hK'
        exact ⟨_, hK2.2, t', { s'' with e := j.take s.e _ t' }, rfl, rfl, rfl, hK2.1, rfl, g2, le2⟩
      all_goals exact ⟨_, s'', by first | exact trivial | exact hx, rfl, rfl, hK', g'', le'.trans le''⟩
  | _ => intro i s K g hw hK; simp [interp, stuckW] at hK
where
  wrOps_mem : ∀ {l : List Oper} {o : Oper} {n : Nat}, o ∈ l → o.dst = some n → n ∈ wrOps l
    | x :: r, o, n, h, e => by
      rcases List.mem_cons.1 h with rfl | h
      · simp [wrOps, e]
      · have := wrOps_mem h e
        cases hx : x.dst <;> simp [wrOps, hx, this]
end Go.Cz
