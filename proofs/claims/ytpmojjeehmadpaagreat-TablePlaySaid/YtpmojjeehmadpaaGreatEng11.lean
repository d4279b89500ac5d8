/- Part of the proof of a law of 28: an engine that runs a function over an abstract heap, and what the functions compute; own work. -/
import Derived.Test.YtpmojjeehmadpaaGreatEng10
set_option linter.unusedVariables false
set_option linter.unusedSimpArgs false
set_option linter.unusedSectionVars false
namespace Go.Cz
variable [Inhabited DrawnP]
open Go
set_option linter.unusedSimpArgs false
set_option linter.unusedVariables false
set_option linter.unusedSectionVars false

theorem row_cells {P : Program} {w : World} {h : H} (g : Hpart P w h) {a : Option Addr} {n : Nat} {l : List Value} (hr : h.row? a n = some l) :
    l.length = n ∧ (∀ x, a = some x → ∀ j v, l[j]? = some v → w.cell? (x.add j) = some v) ∧ (0 < n → ∃ x, a = some x) := by
  unfold H.row? at hr
  split at hr
  · simp at hr; subst hr; simp_all
  · rename_i hn
    cases a with
    | none => simp at hr
    | some x =>
      simp only [] at hr
      split at hr
      · rename_i c wr hb
        split at hr
        · simp at hr
        · rename_i hsp
          split at hr
          · rename_i hle
            simp at hr
            subst hr
            refine ⟨by simp; omega, ?_, fun _ => ⟨x, rfl⟩⟩
            intro y hy j v hj
            cases hy
            refine g.cell ?_
            have hx : x.spot = none := by cases hs : x.spot <;> simp_all
            have e : x.add j = ⟨x.block, x.off + j, none⟩ := by cases x; unfold Addr.add; split <;> simp_all
            rw [e]
            simp only [H.cell?, hb]
            have hjn : j < n := by
              have := (List.getElem?_eq_some_iff.1 hj).1
              simp at this; omega
            rw [List.getElem?_take, if_pos hjn, List.getElem?_drop] at hj
            simpa using hj
          · simp at hr
      · simp at hr

section
variable {G : Gl} {s : St} {K : Env → HProp} {next : Act → World → Prop} {Q : Exit → Act → World → Prop} {o : Oper}

theorem append_sound (g : Good G s) (hd : ∀ n, o.dst = some n → n < G.N) (hn : Nexts G s K next) {t tx el : TypeId} {x y : Operand} {v : Sl} {z news : List Value} {n : Nat}
    (ho : o.op = .call ⟨.builtin .append, #[x, y], #[t, tx]⟩) (ht : G.P.underlying t = some (.slice el)) (hz : toVs (zeroCells G.P el) = some z) (hs : Nat.beq (sizeT G.P el) z.length = true) (hp : 0 < z.length) (hby : 0 < bytesT G.P el)
    (hx : s.e.ev x = .sl v) (hsrc : Src G.P z.length tx (s.a.eval y) n news s.w)
    (hK : appendW v z (bytesT G.P el) n news (fun u => K (s.e.put o.dst (.sl u))) s.h) : o.wp G.P s.a s.w next Q := by
  have h1 := ev_rel g x
  rw [hx] at h1
  simp only [rel] at h1
  obtain ⟨i, zv, hi, hzv, hzc, hsz⟩ := zero_info hz hs hp
  have hbt : bytesT G.P el = i.bytes := by simp [bytesT, hi]
  rw [hbt] at hK hby
  rw [← hsz] at hsrc
  have hex : ∀ r, (Builtin.append_ #[t, tx] o.type #[.slice v.a v.len v.cap, s.a.eval y]).run G.P s.w = r → (execOp s.a.eval o).run G.P s.w = r.andThen fun a w' => .ok (.value a) w' := by
    intro r hr
    simp [execOp, ho, resolve, invoke, builtin, h1, hr]
  unfold appendW at hK
  split at hK
  · rename_i hc
    obtain ⟨hn0, hle⟩ := hc
    subst hn0
    have hnil : news = [] := List.length_eq_zero_iff.1 (by rw [hsrc.newsLen]; simp)
    subst hnil
    refine leaf_wp g hd hn (x := .slice v.a v.len v.cap) (by rw [hex _ (run_append_nothing s.w t tx o.type el i ht hi v.a v.len v.cap hle _ hsrc)]; rfl) (by simp [rel0]) hK
  · split at hK
    · rename_i hroom
      obtain ⟨a, c, ha, hb, hsp, hle, hK⟩ := hK
      obtain ⟨T, fz, hw, hzf⟩ := g.part.cells _ c true hb
      have ea : a = ⟨a.block, a.off, none⟩ := by cases a; simp at hsp; simp [hsp]
      have hrun := run_append_room_src (P := G.P) s.w t tx o.type el i ht hi a.block a.off v.len v.cap (s.a.eval y) n news hsrc hroom
        (fun j hj => by
          have : a.off + v.len * i.size + j < c.length := by rw [hsz]; omega
          simp [World.cell?, hw, this])
        (fun j hj => by
          have h2 := hzf rfl (a.off + v.len * i.size + j) (by rw [hsz]; omega)
          simp only [World.frozen?, hw]
          simpa using h2)
      rw [← ea, ← ha] at hrun
      unfold Oper.wp
      rw [hex _ hrun]
      show next (s.a.put o.dst _) _
      rw [hsz]
      have hone : ∀ u ∈ news, one u := fun u hu => by
        have := hsrc.one u hu
        cases u <;> first | trivial | (simp [Value.oneCell'] at this)
      have g1 := g.store hb hle hone
      exact hn _ hK (g1.put (v := .sl ⟨v.a, v.len + n, v.cap⟩) (x := .slice v.a (v.len + n) v.cap) (by simp [rel]) hd (by simp [below])) (Le.mem.trans (Le.put _ _ _))
    · rename_i hroom
      obtain ⟨old, hold, k2, hbd, hK⟩ := hK
      obtain ⟨k1, k3, k4⟩ := row_cells g.part hold
      have hg : v.cap < v.len + n := by omega
      have hfit : Builtin.nextslicecap (v.len + n) v.cap * i.bytes ≤ 281474976710656 := growslice_fits hg hbd
      have h63 : ((v.len + n : Nat) : Int) ≤ 9223372036854775807 := by
        have : (v.len + n) * 1 ≤ (v.len + n) * i.bytes := Nat.mul_le_mul_left _ hby
        omega
      have hfo : (Builtin.firstCells i.size v.len (.slice v.a v.len v.cap)).run G.P s.w.drew = .ok old.toArray s.w.drew := by
        cases hva : v.a with
        | none =>
          have : old = [] := by
            by_cases h0 : v.len * z.length = 0
            · exact List.length_eq_zero_iff.1 (by omega)
            · obtain ⟨q, hq⟩ := k4 (by omega)
              rw [hva] at hq; cases hq
          subst this
          exact run_firstCells_none _ _ _ _ _
        | some q =>
          exact run_firstCells_some _ _ _ q _ _ old (by rw [k1, hsz]) (fun j u hu => by simpa using k3 q hva j u hu)
      have hrun := run_append_grow_src (P := G.P) s.w t tx o.type el i zv ht hi hzv v.a v.len v.cap old hfo (s.a.eval y) n news hsrc hg h63 hfit
      unfold Oper.wp
      rw [hex _ hrun]
      show next (s.a.put o.dst _) _
      have hge := grownCap_ge s.w (v.len + n) v.cap el
      have hcells : ((old ++ news).toArray ++ Builtin.zeroCells zv.cells (grownCap s.w (v.len + n) v.cap el - (v.len + n))) = (old ++ news ++ (List.replicate (grownCap s.w (v.len + n) v.cap el - (v.len + n)) z).flatten).toArray := by
        apply Array.ext'
        have := zeroCells_replicate zv.cells (grownCap s.w (v.len + n) v.cap el - (v.len + n)) (by have := congrArg List.length hzc; simp at this; omega)
        simp [this, hzc]
      have hone : ∀ u ∈ old ++ news ++ (List.replicate (grownCap s.w (v.len + n) v.cap el - (v.len + n)) z).flatten, one u := by
        intro u hu
        rcases List.mem_append.1 hu with hu | hu
        · rcases List.mem_append.1 hu with hu | hu
          · exact k2 u hu
          · have := hsrc.one u hu
            cases u <;> first | trivial | (simp [Value.oneCell'] at this)
        · obtain ⟨q, hq, hu2⟩ := List.mem_flatten.1 hu
          have := (List.mem_replicate.1 hq).2
          subst this
          exact toVs_oneCell hz u hu2
      have g1 := g.newBlock _ el (0, 0) (by simp) (s.w.drew.alloc (.cells ((old ++ news).toArray ++ Builtin.zeroCells zv.cells (grownCap s.w (v.len + n) v.cap el - (v.len + n))) el)) (by rw [hcells]; rfl) rfl rfl rfl hone
      exact hn _ (hK _ s.w.heap.size hge (g.part.fresh (Nat.le_refl _))) (g1.put (v := .sl ⟨some ⟨s.w.heap.size, 0, none⟩, v.len + n, grownCap s.w (v.len + n) v.cap el⟩) (x := .slice (some ⟨s.w.heap.size, 0, none⟩) (v.len + n) (grownCap s.w (v.len + n) v.cap el)) (by simp [rel]) hd (by simp [below])) (Le.mem.trans (Le.put _ _ _))
end
end Go.Cz
