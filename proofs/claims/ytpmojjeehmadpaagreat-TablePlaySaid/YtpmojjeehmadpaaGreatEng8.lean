/- Part of the proof of a law of 28: an engine that runs a function over an abstract heap, and what the functions compute; own work. -/
import Derived.Test.YtpmojjeehmadpaaGreatEng7
import Derived.Deep.Upon
import Derived.Deep.AppendSrc
import Derived.Laws.MakeOwn
set_option linter.unusedVariables false
set_option linter.unusedSimpArgs false
set_option linter.unusedSectionVars false
namespace Go.Cz
variable [Inhabited DrawnP]
open Go
set_option linter.unusedSimpArgs false
set_option linter.unusedVariables false
set_option linter.unusedSectionVars false

theorem made_replicate (z : List Value) (c : Nat) (hz : 0 < z.length) : (madeCells z.toArray (c * z.length)).toList = (List.replicate c z).flatten := by
  apply List.ext_getElem?
  intro j
  have hlen : ((List.replicate c z).flatten).length = c * z.length := by simp
  by_cases hj : j < c * z.length
  · have h1 : j < (madeCells z.toArray (c * z.length)).toList.length := by simp [size_madeCells, hj]
    rw [List.getElem?_eq_getElem h1, List.getElem?_eq_getElem (by omega)]
    congr 1
    have hm := Nat.mod_lt j hz
    have : (madeCells z.toArray (c * z.length)).toList[j] = z[j % z.length]! := by
      simp [madeCells]
    rw [this]
    have h2 : ∀ (n j : Nat) (h : j < ((List.replicate n z).flatten).length), ((List.replicate n z).flatten)[j] = z[j % z.length]! := by
      intro n
      induction n with
      | zero => intro j h; simp at h
      | succ n ih =>
        intro j h
        simp only [List.replicate_succ, List.flatten_cons] at h ⊢
        by_cases hlt : j < z.length
        · rw [List.getElem_append_left hlt, Nat.mod_eq_of_lt hlt]; simp [hlt]
        · rw [List.getElem_append_right (by omega), ih]
          congr 1
          conv => rhs; rw [← Nat.sub_add_cancel (show z.length ≤ j by omega)]
          rw [Nat.add_mod_right]
    rw [h2]
  · rw [List.getElem?_eq_none (by simp [size_madeCells]; omega), List.getElem?_eq_none (by omega)]
theorem zeroCells_replicate (z : Array Value) (n : Nat) (hz : 0 < z.size) : (Builtin.zeroCells z n).toList = (List.replicate n z.toList).flatten := by
  have := made_replicate z.toList n (by simpa using hz)
  simpa [madeCells, Builtin.zeroCells] using this

section
variable {G : Gl} {s : St} {K : Env → HProp} {next : Act → World → Prop} {Q : Exit → Act → World → Prop} {o : Oper}

theorem zero_info {P : Program} {el : TypeId} {z : List Value} (hz : toVs (zeroCells P el) = some z) (hs : Nat.beq (sizeT P el) z.length = true) (hp : 0 < z.length) : ∃ i v, P.info? el = some i ∧ i.zero = some v ∧ v.cells.toList = z ∧ i.size = z.length := by
  have hs := Nat.eq_of_beq_eq_true hs
  have hl : leafs (zeroCells P el) = true := by
    have : ∀ (l : List SV) (us : List Value), toVs l = some us → leafs l = true := by
      intro l
      induction l with
      | nil => intros; rfl
      | cons x r ih =>
        intro us h
        simp only [toVs] at h
        cases hx : x.toV with
        | none => simp [hx] at h
        | some y => cases hr : toVs r with
          | none => simp [hx, hr] at h
          | some q =>
            have := ih q hr
            cases x <;> simp_all [leafs, SV.toV]
    exact this _ _ hz
  obtain ⟨v, hv, hr⟩ := zeroCells_rel (β := fun _ => 0) hl
  obtain ⟨i, hi, hzi⟩ := zeroT_info hv
  refine ⟨i, v, hi, hzi, (toVs_rel hz hr), ?_⟩
  simpa [sizeT, hi] using hs

theorem make_sound (g : Good G s) (hd : ∀ n, o.dst = some n → n < G.N) (hn : Nexts G s K next) {t el : TypeId} {x y : Operand} {l c : Int} {z : List Value} (ho : o.op = .makeSlice t x y)
    (ht : G.P.underlying t = some (.slice el)) (hx : s.e.ev x = .i .i64 l) (hy : s.e.ev y = .i .i64 c) (hz : toVs (zeroCells G.P el) = some z) (hs : Nat.beq (sizeT G.P el) z.length = true) (hp : Nat.blt 0 z.length = true)
    (hK : makeW l c z (bytesT G.P el) (fun v => K (s.e.put o.dst (.sl v))) s.h) : o.wp G.P s.a s.w next Q := by
  have h1 := ev_rel g x
  have h2 := ev_rel g y
  rw [hx] at h1; rw [hy] at h2
  simp only [rel] at h1 h2
  have hp : 0 < z.length := Nat.le_of_ble_eq_true hp
  obtain ⟨i, v, hi, hzv, hzc, hsz⟩ := zero_info hz hs hp
  unfold makeW at hK
  obtain ⟨k0, k1, k2, k4, hK⟩ := hK
  have hb : bytesT G.P el = i.bytes := by simp [bytesT, hi]
  rw [hb] at k2
  have k3 : (i.bytes : Int) * c ≤ 281474976710656 := by rw [Int.mul_comm]; omega
  have hc63 : c ≤ 9223372036854775807 := by omega
  · have hrun : (execOp s.a.eval o).run G.P s.w = .ok (.value (.slice (some ⟨s.w.heap.size, 0, none⟩) l.toNat c.toNat)) (s.w.alloc (.cells (madeCells v.cells (c.toNat * i.size)) el)) := by
      have := run_make (P := G.P) s.w t el i v ht hi hzv .i64 .i64 l c k0 k1 k3 hc63
      simp [execOp, ho, h1, h2, this]
    unfold Oper.wp
    rw [hrun]
    show next (s.a.put o.dst _) _
    have hcells : (madeCells v.cells (c.toNat * i.size)) = ((List.replicate c.toNat z).flatten).toArray := by
      apply Array.ext'
      rw [hsz, ← hzc]
      have := made_replicate v.cells.toList c.toNat (by rw [hzc]; exact hp)
      simpa using this
    have g1 := g.newBlock ((List.replicate c.toNat z).flatten) el (0, 0) (by simp) (s.w.alloc (.cells (madeCells v.cells (c.toNat * i.size)) el)) (by rw [hcells]; rfl) rfl rfl rfl (by
      intro u hu
      obtain ⟨y, hy, hu2⟩ := List.mem_flatten.1 hu
      have := (List.mem_replicate.1 hy).2
      subst this
      exact toVs_oneCell hz u hu2)
    exact hn _ (hK s.w.heap.size (g.part.fresh (Nat.le_refl _))) (g1.put (v := .sl ⟨some ⟨s.w.heap.size, 0, none⟩, l.toNat, c.toNat⟩) (x := .slice (some ⟨s.w.heap.size, 0, none⟩) l.toNat c.toNat) (by simp [rel]) hd (by simp [below])) (Le.mem.trans (Le.put _ _ _))
end
end Go.Cz
