/- Part of the proof of a law of 28: an engine that runs a function over an abstract heap, and what the functions compute; own work. -/
import Derived.Test.YtpmojjeehmadpaaGreatEng13
set_option linter.unusedVariables false
set_option linter.unusedSimpArgs false
set_option linter.unusedSectionVars false
namespace Go.Cz
variable [Inhabited DrawnP]
open Go
set_option linter.unusedSimpArgs false
set_option linter.unusedVariables false
set_option linter.unusedSectionVars false
section
variable {G : Gl} {s : St} {K : Env → HProp} {next : Act → World → Prop} {Q : Exit → Act → World → Prop} {o : Oper}

theorem storesW_spec {a : Addr} {l : List Value} {K : HProp} {h : H} (hK : storesW a l K h) : ∃ c, h a.block = some (.cells c true) ∧ a.spot = none ∧ a.off + l.length ≤ c.length ∧ K (h.set a.block (.cells (c.take a.off ++ l ++ c.drop (a.off + l.length)) true)) := by
  unfold storesW at hK
  split at hK
  · rename_i c hb; exact ⟨c, hb, hK.1, hK.2.1, hK.2.2⟩
  · exact hK.elim
theorem clear_sound (g : Good G s) (hd : ∀ n, o.dst = some n → n < G.N) (hn : Nexts G s K next) {t el : TypeId} {x : Operand} {v : Sl} {z : List Value}
    (ho : o.op = .call ⟨.builtin .clear, #[x], #[t]⟩) (ht : G.P.underlying t = some (.slice el)) (hz : toVs (zeroCells G.P el) = some z) (hs : Nat.beq (sizeT G.P el) z.length = true) (hp : 0 < z.length)
    (hx : s.e.ev x = .sl v) (hK : clearW v z (K (s.e.put o.dst (.tup []))) s.h) : o.wp G.P s.a s.w next Q := by
  have h1 := ev_rel g x
  rw [hx] at h1
  simp only [rel] at h1
  obtain ⟨i, zv, hi, hzv, hzc, hsz⟩ := zero_info hz hs hp
  have hex : ∀ r, (Builtin.clear_ #[t] o.type #[.slice v.a v.len v.cap]).run G.P s.w = r → (execOp s.a.eval o).run G.P s.w = r.andThen fun a w' => .ok (.value a) w' := by
    intro r hr
    simp [execOp, ho, resolve, invoke, builtin, h1, hr]
  unfold clearW at hK
  split at hK
  · rename_i h0
    have hr : (Builtin.clear_ #[t] o.type #[.slice v.a v.len v.cap]).run G.P s.w = .ok (.tuple #[]) s.w := by
      rw [h0]
      cases v.a <;> simp [Builtin.clear_, run_underlying ht]
    unfold Oper.wp
    rw [hex _ hr]
    exact hn _ hK (g.put (v := .tup []) (x := .tuple #[]) (by simp [rel, relL]) hd (by simp [below, belowL])) (Le.put _ _ _)
  · rename_i h0
    obtain ⟨a, ha, hK⟩ := hK
    obtain ⟨c, hb, hsp, hle, hK⟩ := storesW_spec hK
    obtain ⟨T, fz, hw, hzf⟩ := g.part.cells _ c true hb
    have ea : a = ⟨a.block, a.off, none⟩ := by cases a; simp at hsp; simp [hsp]
    have hzl : (Builtin.zeroCells zv.cells v.len).toList = (List.replicate v.len z).flatten := by
      have := zeroCells_replicate zv.cells v.len (by have := congrArg List.length hzc; simp at this; omega)
      rw [this, hzc]
    have hone : ∀ u ∈ (List.replicate v.len z).flatten, one u := by
      intro u hu
      obtain ⟨q, hq, hu2⟩ := List.mem_flatten.1 hu
      have := (List.mem_replicate.1 hq).2
      subst this
      exact toVs_oneCell hz u hu2
    have hst := run_stores (P := G.P) (w := s.w) (b := a.block) (o := a.off) hw hle (hzf rfl) hone
    have hzr : (zeroValue el).run G.P s.w = .ok zv s.w := by simp [zeroValue, typeInfo, hi, hzv]
    have hr : (Builtin.clear_ #[t] o.type #[.slice v.a v.len v.cap]).run G.P s.w = .ok (.tuple #[]) (s.w.setCells a.block a.off (List.replicate v.len z).flatten) := by
      rw [← ea] at hst
      rw [ha]
      obtain ⟨n, hn⟩ : ∃ n, v.len = n + 1 := ⟨v.len - 1, by omega⟩
      rw [hn] at hzl hst ⊢
      simp [Builtin.clear_, run_underlying ht, hzr, hzl, hst]
    unfold Oper.wp
    rw [hex _ hr]
    exact hn _ hK ((g.store hb hle hone).put (v := .tup []) (x := .tuple #[]) (by simp [rel, relL]) hd (by simp [below, belowL])) (Le.mem.trans (Le.put _ _ _))
theorem copy_sound (g : Good G s) (hd : ∀ n, o.dst = some n → n < G.N) (hn : Nexts G s K next) {t u el el' : TypeId} {x y : Operand} {v r : Sl}
    (ho : o.op = .call ⟨.builtin .copy, #[x, y], #[t, u]⟩) (ht : G.P.underlying t = some (.slice el)) (hi : ∃ i, G.P.info? el = some i)
    (hx : s.e.ev x = .sl v) (hy : s.e.ev y = .sl r) (hK : copyW v r (sizeT G.P el) (fun n => K (s.e.put o.dst (.i .i64 n))) s.h) : o.wp G.P s.a s.w next Q := by
  have h1 := ev_rel g x
  have h2 := ev_rel g y
  rw [hx] at h1; rw [hy] at h2
  simp only [rel] at h1 h2
  obtain ⟨i, hi⟩ := hi
  have hsz : sizeT G.P el = i.size := by simp [sizeT, hi]
  rw [hsz] at hK
  have hex : ∀ q, (Builtin.copy_ #[t, u] o.type #[.slice v.a v.len v.cap, .slice r.a r.len r.cap]).run G.P s.w = q → (execOp s.a.eval o).run G.P s.w = q.andThen fun a w' => .ok (.value a) w' := by
    intro q hr
    simp [execOp, ho, resolve, invoke, builtin, h1, h2, hr]
  unfold copyW at hK
  obtain ⟨l, hrow, hones, hK⟩ := hK
  obtain ⟨k1, k3, k4⟩ := row_cells g.part hrow
  have hfo : (Builtin.firstCells i.size (min r.len v.len) (.slice r.a r.len r.cap)).run G.P s.w = .ok l.toArray s.w := by
    cases hra : r.a with
    | none =>
      have : l = [] := by
        by_cases h0 : min r.len v.len * i.size = 0
        · exact List.length_eq_zero_iff.1 (by omega)
        · obtain ⟨q, hq⟩ := k4 (by omega)
          rw [hra] at hq; cases hq
      subst this
      exact run_firstCells_none _ _ _ _ _
    | some q => exact run_firstCells_some _ _ _ q _ _ l k1 (fun j w hw => k3 q hra j w hw)
  have hsize : (sizeOf el).run G.P s.w = .ok i.size s.w := by simp [sizeOf, typeInfo, hi]
  split at hK
  · rename_i h0
    subst h0
    have hr : (Builtin.copy_ #[t, u] o.type #[.slice v.a v.len v.cap, .slice r.a r.len r.cap]).run G.P s.w = .ok (.int .i64 (min r.len v.len : Nat)) s.w := by
      cases hva : v.a <;> simp [Builtin.copy_, run_underlying ht, Builtin.lenOf, hsize, hfo, storeCells, goInt]
    unfold Oper.wp
    rw [hex _ hr]
    exact hn _ hK (g.put (v := .i .i64 _) (x := .int .i64 _) (by simp [rel]) hd (by simp [below])) (Le.put _ _ _)
  · obtain ⟨a, ha, hK⟩ := hK
    obtain ⟨c, hb, hsp, hle, hK⟩ := storesW_spec hK
    obtain ⟨T, fz, hw, hzf⟩ := g.part.cells _ c true hb
    have ea : a = ⟨a.block, a.off, none⟩ := by cases a; simp at hsp; simp [hsp]
    have hst := run_stores (P := G.P) (w := s.w) (b := a.block) (o := a.off) hw hle (hzf rfl) hones
    rw [← ea] at hst
    have hr : (Builtin.copy_ #[t, u] o.type #[.slice v.a v.len v.cap, .slice r.a r.len r.cap]).run G.P s.w = .ok (.int .i64 (min r.len v.len : Nat)) (s.w.setCells a.block a.off l) := by
      simp [Builtin.copy_, run_underlying ht, Builtin.lenOf, hsize, hfo, ha, hst, goInt]
    unfold Oper.wp
    rw [hex _ hr]
    exact hn _ hK ((g.store hb hle hones).put (v := .i .i64 _) (x := .int .i64 _) (by simp [rel]) hd (by simp [below])) (Le.mem.trans (Le.put _ _ _))
end
end Go.Cz
