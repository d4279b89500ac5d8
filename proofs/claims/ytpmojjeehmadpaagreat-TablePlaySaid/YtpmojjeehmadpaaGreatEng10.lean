/- Part of the proof of a law of 28: an engine that runs a function over an abstract heap, and what the functions compute; own work. -/
import Derived.Test.YtpmojjeehmadpaaGreatEng9
set_option linter.unusedVariables false
set_option linter.unusedSimpArgs false
set_option linter.unusedSectionVars false
namespace Go.Cz
variable [Inhabited DrawnP]
open Go
set_option linter.unusedSimpArgs false
set_option linter.unusedVariables false
set_option linter.unusedSectionVars false
section
variable {G : Gl} {s : St} {K : Env → HProp} {next : Act → World → Prop} {Q : Exit → Act → World → Prop} {o : Oper}

theorem repl_zero {P : Program} {β : Nat → Nat} {t : TypeId} {v : Value} {i : TypeInfo} (hi : P.info? t = some i) (hz : i.zero = some v) (n : Nat) (hlen : v.cells.size = i.size) (hp : 0 < i.size) :
    relL P β (List.replicate n (zeroCells P t)).flatten (((Array.range (n * i.size)).map (v.cells[· % v.cells.size]!)).toList) := by
  have h1 : zeroT P t = some v := by simp [zeroT, hi, hz]
  have := relL_replicate_flatten (zeroCells_relL (P := P) (β := β) h1) n
  rw [← made_replicate v.cells.toList n (by simp; omega)] at this
  simpa [madeCells, hlen] using this

theorem buildSlice_sound {C : Ctx} (hC : C.P = G.P) (g : Good G s) (hd : ∀ n, o.dst = some n → n < G.N) (hn : Nexts G s K next) {t el : TypeId} {n : Nat} {parts : Array (Nat × Operand)} {l : List SV} (ho : o.op = .buildSlice t n parts)
    (ht : G.P.underlying t = some (.slice el)) (hc : (Nat.ble (n * sizeT G.P el) 16777216 && Nat.blt 0 (sizeT G.P el) && Nat.beq (zeroCells G.P el).length (sizeT G.P el) && hasZero G.P el) = true)
    (hl : buildC s.e (fun i => some (i * sizeT G.P el, sizeT G.P el)) parts.toList (List.replicate n (zeroCells G.P el)).flatten = some l)
    (hK : (if isHeap C o.dst then (match toVs l with | some l => newW l fun b => K (s.e.put o.dst (.sl ⟨some ⟨b, 0, none⟩, n, n⟩)) | none => stuckW)
        else K { slots := slotPut s.e.slots o.dst (.lsl s.e.nloc n), locs := (s.e.nloc, l) :: s.e.locs, nloc := s.e.nloc + 1 }) s.h) : o.wp G.P s.a s.w next Q := by
  simp only [Bool.and_eq_true] at hc
  have c1 := Nat.le_of_ble_eq_true hc.1.1.1
  have c3 : 0 < sizeT G.P el := Nat.le_of_ble_eq_true hc.1.1.2
  have c4 := Nat.eq_of_beq_eq_true hc.1.2
  cases hi : G.P.info? el with
  | none => simp [sizeT, hi] at c3
  | some i =>
  have hsz : sizeT G.P el = i.size := by simp [sizeT, hi]
  rw [hsz] at c1 c3 c4 hl
  cases hz : i.zero with
  | none =>
    have := hc.2
    simp [hasZero, zeroT, hi, hz] at this
  | some v =>
  have hvl : v.cells.size = i.size := by
    have := relL_length (zeroCells_relL (P := G.P) (β := s.β) (t := el) (v := v) (by simp [zeroT, hi, hz]))
    simp at this; omega
  obtain ⟨cs, h1, h2, h3, h4⟩ := buildC_fill g _ parts.toList _ l _ hl (repl_zero hi hz n hvl c3) (by
    rw [belowL_mem]
    intro x hx
    obtain ⟨y, hy, hx⟩ := List.mem_flatten.1 hx
    have := (List.mem_replicate.1 hy).2
    subst this
    exact belowL_mem.1 (zeroCells_below _ _ _) x hx)
  have hrun : (execOp s.a.eval o).run G.P s.w = .ok (.value (.slice (some ⟨s.w.heap.size, 0, none⟩) n n)) (s.w.alloc (.cells cs el)) := by
    have q1 : ¬ (n * i.size > 2 ^ 24) := by simp; omega
    have h1' : Instr.fill (fun j => some (j * i.size, i.size)) ((Array.range (n * i.size)).map (v.cells[· % v.cells.size]!)) (parts.map fun (j, x) => (j, s.a.eval x)).toList = some cs := by simpa using h1
    simp only [execOp, ho, Instr.buildSlice]
    by_cases c2 : n = 0
    · subst c2
      have er : Array.range 0 = #[] := rfl
      simp only [Nat.zero_mul, er, List.map_toArray, Array.toList_map, List.map_nil, Array.map_empty] at h1'
      simp [run_underlying ht, run_size hi, er]
      simp [h1', newRow, newObj]
      rfl
    have q2 : ¬ (n * i.size = 0) := by
      have := Nat.mul_pos (Nat.pos_of_ne_zero c2) c3; omega
    simp [run_underlying ht, run_size hi, run_zero hi hz, q1, q2]
    rw [show (parts.map fun (x : Nat × Operand) => (x.1, s.a.eval x.2)).toList = (parts.map fun (j, x) => (j, s.a.eval x)).toList from rfl] at *
    simp at h1'
    simp [h1', newRow, newObj]
    rfl
  unfold Oper.wp
  rw [hrun]
  show next (s.a.put o.dst _) _
  split at hK
  · cases hv : toVs l with
    | none => simp [hv, stuckW] at hK
    | some us =>
      simp only [hv] at hK
      have := toVs_rel hv h2
      subst this
      unfold newW at hK
      have hK := hK s.w.heap.size (g.part.fresh (Nat.le_refl _))
      have g1 := g.newBlock cs.toList el (0, 0) (by simp) (s.w.alloc (.cells cs el)) rfl rfl rfl rfl (toVs_oneCell hv)
      exact hn _ hK (g1.put (v := .sl ⟨some ⟨s.w.heap.size, 0, none⟩, n, n⟩) (x := .slice (some ⟨s.w.heap.size, 0, none⟩) n n) (by simp [rel]) hd (by simp [below])) (Le.mem.trans (Le.put _ _ _))
  · exact hn _ hK (g.newLoc el h2 h3 h4 hd (v := .lsl s.e.nloc n) (by simp [rel]) (by simp [below])) Le.newLoc

theorem optI_eval (g : Good G s) {x : Option Operand} {d n : Int} (h : optI s.e x d = some n) : (x = none ∧ n = d) ∨ ∃ y k, x = some y ∧ s.a.eval y = .int k n := by
  cases x with
  | none => simp [optI] at h; exact .inl ⟨rfl, h.symm⟩
  | some y =>
    simp only [optI] at h
    have hr := ev_rel g y
    generalize hq : s.e.ev y = q at h hr
    cases q <;> simp at h
    case i k m => subst h; simp only [rel] at hr; exact .inr ⟨y, k, rfl, hr⟩

theorem run_bounds {P : Program} {w : World} {ρ : Operand → Value} {b : Bool} {len cap : Nat} {lo hi : Option Operand} {l h : Int} (hl : (lo = none ∧ l = 0) ∨ ∃ y k, lo = some y ∧ ρ y = .int k l) (hh : (hi = none ∧ h = len) ∨ ∃ y k, hi = some y ∧ ρ y = .int k h)
    (h0 : 0 ≤ l) (h1 : l ≤ h) (h2 : h ≤ cap) : (Instr.sliceBounds b len cap (lo.map ρ) (hi.map ρ) none).run P w = .ok (l.toNat, h.toNat, cap) w := by
  have e : (h.toNat : Int) = h := Int.toNat_of_nonneg (by omega)
  rcases hl with ⟨rfl, rfl⟩ | ⟨y, k, rfl, hy⟩ <;> rcases hh with ⟨rfl, rfl⟩ | ⟨z, k', rfl, hz⟩
  · simp [Instr.sliceBounds]
  · simp [Instr.sliceBounds, hz, run_sliceBound, (by omega : 0 ≤ h), h2]
  · simp [Instr.sliceBounds, hy, run_sliceBound, h0, h1]
  · simp [Instr.sliceBounds, hy, hz, run_sliceBound, h0, (by omega : 0 ≤ h), h2, e, h1]

theorem slice_sound (g : Good G s) {t el : TypeId} {x : Operand} {lo hi : Option Operand} {v : Sl} {l h : Int} (ho : o.op = .slice t x lo hi none)
    (ht : G.P.underlying t = some (.slice el)) (hs : 0 < sizeT G.P el) (hx : s.e.ev x = .sl v) (hlo : optI s.e lo 0 = some l) (hhi : optI s.e hi v.len = some h)
    (hK : sliceW v (sizeT G.P el) l h (fun u => K (s.e.put o.dst (.sl u))) s.h) : Yl (fun _ => True) G s o K := by
  have h1 := ev_rel g x
  rw [hx] at h1
  simp only [rel] at h1
  unfold sliceW at hK
  obtain ⟨k0, k1, k2, hK⟩ := hK
  cases hi' : G.P.info? el with
  | none => simp [sizeT, hi'] at hs
  | some i =>
  have hb := fun w => run_bounds (P := G.P) (w := w) (ρ := s.a.eval) (b := true) (len := v.len) (cap := v.cap) (optI_eval g hlo) (optI_eval g hhi) k0 k1 k2
  refine leaf_step g (x := .slice (if v.cap = l.toNat then v.a else v.a.map (·.add (l.toNat * sizeT G.P el))) (h.toNat - l.toNat) (v.cap - l.toNat)) ?_ (by simp [rel0]) hK
  intro w'
  simp [execOp, ho, h1, Instr.sliceAt, Instr.slice, run_underlying ht, hb w', run_size hi', sizeT, hi']
theorem cut_sound (g : Good G s) {t : TypeId} {x : Operand} {lo hi : Option Operand} {z : ByteArray} {l h : Int} (ho : o.op = .slice t x lo hi none)
    (ht : G.P.underlying t = some .string) (hx : s.e.ev x = .s z) (hlo : optI s.e lo 0 = some l) (hhi : optI s.e hi z.size = some h)
    (hK : cutW z l h (fun u => K (s.e.put o.dst (.s u))) s.h) : Yl (fun _ => True) G s o K := by
  have h1 := ev_rel g x
  rw [hx] at h1
  simp only [rel] at h1
  unfold cutW at hK
  obtain ⟨k0, k1, k2, hK⟩ := hK
  have hb := fun w => run_bounds (P := G.P) (w := w) (ρ := s.a.eval) (b := false) (len := z.size) (cap := z.size) (optI_eval g hlo) (optI_eval g hhi) k0 k1 k2
  refine leaf_step g (x := .string (z.extract l.toNat h.toNat)) ?_ (by simp [rel0]) hK
  intro w'
  simp [execOp, ho, h1, Instr.sliceAt, Instr.slice, run_underlying ht, hb w']
end
end Go.Cz
