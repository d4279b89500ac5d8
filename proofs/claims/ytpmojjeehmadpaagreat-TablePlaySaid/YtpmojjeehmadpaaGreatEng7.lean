/- Part of the proof of a law of 28: an engine that runs a function over an abstract heap, and what the functions compute; own work. -/
import Derived.Test.YtpmojjeehmadpaaGreatEng6
set_option linter.unusedVariables false
set_option linter.unusedSimpArgs false
set_option linter.unusedSectionVars false
namespace Go.Cz
variable [Inhabited DrawnP]
open Go
set_option linter.unusedSimpArgs false
set_option linter.unusedVariables false
set_option linter.unusedSectionVars false

theorem zeroT_info {P : Program} {t : TypeId} {v : Value} (h : zeroT P t = some v) : ∃ i, P.info? t = some i ∧ i.zero = some v := by
  unfold zeroT at h
  cases hi : P.info? t with
  | none => simp [hi] at h
  | some i => exact ⟨i, rfl, by simpa [hi] using h⟩
theorem run_zero {P : Program} {w : World} {t : TypeId} {i : TypeInfo} {v : Value} (hi : P.info? t = some i) (hz : i.zero = some v) : (zeroValue t).run P w = .ok v w := by
  simp [zeroValue, run_info hi, hz]

section
variable {P : Program} {w : World} {ρ : Operand → Value} {o : Oper}
theorem run_alloc {t : TypeId} {v : Value} (ho : o.op = .alloc t) (hz : zeroT P t = some v) :
    (execOp ρ o).run P w = .ok (.value (.pointer (some ⟨w.heap.size, 0, none⟩))) (w.alloc (.cells v.cells t)) := by
  obtain ⟨i, hi, hz⟩ := zeroT_info hz
  simp [execOp, ho, Instr.alloc, run_zero hi hz, newVar, newRow, newObj]
  rfl
theorem run_box {t : TypeId} {x : Operand} (ho : o.op = .box t x) :
    (execOp ρ o).run P w = .ok (.value (.pointer (some ⟨w.heap.size, 0, none⟩))) (w.alloc (.cells (ρ x).cells t)) := by
  simp [execOp, ho, Instr.box, newVar, newRow, newObj]
  rfl
end

section
variable {G : Gl} {s : St} {K : Env → HProp} {next : Act → World → Prop} {Q : Exit → Act → World → Prop} {o : Oper}

/-- a new block of one's own, or of the heap -/
theorem new_sound {C : Ctx} (g : Good G s) (hd : ∀ n, o.dst = some n → n < G.N) (hn : Nexts G s K next) {c : List SV} {cs : Array Value} {T : TypeId}
    (hrun : (execOp s.a.eval o).run G.P s.w = .ok (.value (.pointer (some ⟨s.w.heap.size, 0, none⟩))) (s.w.alloc (.cells cs T)))
    (hv : relL G.P s.β c cs.toList) (hu : leafs c = true) (hbl : belowL s.e.nloc c = true) (hK : doNew C o.dst c s.e K s.h) : o.wp G.P s.a s.w next Q := by
  unfold Oper.wp
  rw [hrun]
  show next (s.a.put o.dst _) _
  unfold doNew at hK
  split at hK
  · cases hl : toVs c with
    | none => simp [hl, stuckW] at hK
    | some l =>
      simp only [hl] at hK
      have := toVs_rel hl hv
      subst this
      unfold newW at hK
      have hK := hK s.w.heap.size (g.part.fresh (Nat.le_refl _))
      have g1 := g.newBlock cs.toList T (0, 0) (by simp) (s.w.alloc (.cells cs T)) (rfl) rfl rfl rfl (toVs_oneCell hl)
      exact hn _ hK (g1.put (v := .ad ⟨s.w.heap.size, 0, none⟩) (x := .pointer (some ⟨s.w.heap.size, 0, none⟩)) (by simp [rel]) hd (by simp [below])) (Le.mem.trans (Le.put _ _ _))
  · exact hn _ hK (g.newLoc T hv hu hbl hd (v := .loc s.e.nloc 0) (by simp [rel]) (by simp [below])) Le.newLoc
where
  World.alloc_heap' {w : World} {o : Obj} : (w.alloc o).heap = w.heap.push o := rfl

theorem zeroCells_rel {P : Program} {β : Nat → Nat} {t : TypeId} (h : leafs (zeroCells P t) = true) : ∃ v, zeroT P t = some v ∧ relL P β (zeroCells P t) v.cells.toList := by
  unfold zeroCells at h ⊢
  cases hz : zeroT P t with
  | none => simp [hz, leafs] at h
  | some v => simp only [hz] at h ⊢; exact ⟨v, rfl, relL_map_cells (ofV_rel v) h⟩
theorem ofV_below (n : Nat) (v : Value) : below n (SV.ofV v) = true := by
  cases v <;> simp [SV.ofV, below]
  rw [belowL_mem]
  intro x hx
  obtain ⟨y, _, rfl⟩ := List.mem_map.1 hx
  cases y <;> simp [below]
theorem zeroCells_below (P : Program) (n : Nat) (t : TypeId) : belowL n (zeroCells P t) = true := by
  unfold zeroCells
  split
  · exact below_cells (ofV_below _ _)
  · simp [belowL, below]

theorem alloc_sound {C : Ctx} (hC : C.P = G.P) (g : Good G s) (hd : ∀ n, o.dst = some n → n < G.N) (hn : Nexts G s K next) {t : TypeId} (ho : o.op = .alloc t)
    (hl : leafs (zeroCells G.P t) = true) (hK : doNew C o.dst (zeroCells G.P t) s.e K s.h) : o.wp G.P s.a s.w next Q := by
  obtain ⟨v, hz, hr⟩ := zeroCells_rel (β := s.β) hl
  exact new_sound g hd hn (run_alloc ho hz) hr hl (zeroCells_below _ _ _) hK
theorem box_sound {C : Ctx} (g : Good G s) (hd : ∀ n, o.dst = some n → n < G.N) (hn : Nexts G s K next) {t : TypeId} {x : Operand} (ho : o.op = .box t x)
    (hl : leafs (s.e.ev x).cells = true) (hK : doNew C o.dst (s.e.ev x).cells s.e K s.h) : o.wp G.P s.a s.w next Q :=
  new_sound g hd hn (run_box ho) (relL_map_cells (ev_rel g x) hl) hl (below_cells (ev_wf g x)) hK

/-! ### addresses -/
theorem fieldAddr_sound (g : Good G s) {t : TypeId} {x : Operand} {f off : Nat} {ft : TypeId} (ho : o.op = .fieldAddr t x f)
    (hf : fieldOff G.P t f = some (off, ft)) (hs : 0 < sizeT G.P ft)
    (hK : (match s.e.ev x with
      | .loc id n => K (s.e.put o.dst (.loc id (n + off)))
      | .p q => derefW q fun a => K (s.e.put o.dst (.ad (a.add off)))
      | .ad a => K (s.e.put o.dst (.ad (a.add off)))
      | _ => stuckW) s.h) : Yl (fun _ => True) G s o K := by
  have hx := ev_rel g x
  have hw := ev_wf g x
  generalize hq : s.e.ev x = q at hK hx hw
  cases q <;> first | (simp [stuckW] at hK; done) | skip
  case p q =>
    simp only [] at hK
    unfold derefW at hK
    obtain ⟨a, rfl, hK⟩ := hK
    exact leaf_step g (fun _ => run_fieldAddr ho (by simpa [rel] using hx) hf hs) (by simp [rel0]) hK
  case ad a => exact leaf_step g (fun _ => run_fieldAddr ho (by simpa [rel] using hx) hf hs) (by simp [rel0]) hK
  case loc id n =>
    refine value_step g (fun _ => run_fieldAddr ho (by simpa [rel] using hx) hf hs) (v := .loc id (n + off)) ?_ (by simpa [below] using hw) hK
    simp only [rel]
    unfold Addr.add
    split <;> simp_all

theorem run_nilCheck {P : Program} {w : World} {ρ : Operand → Value} {x : Operand} {v : Value} (ho : o.op = .nilCheck x) (hx : ρ x = v) (hv : (∃ a, v = .pointer (some a)) ∨ (∃ k f c, v = .func (.func k) f c)) :
    (execOp ρ o).run P w = .ok (.value v) w := by
  rcases hv with ⟨a, rfl⟩ | ⟨k, f, c, rfl⟩ <;> simp [execOp, ho, hx]
theorem nilCheck_sound (g : Good G s) {x : Operand} (ho : o.op = .nilCheck x)
    (hK : (match s.e.ev x with
      | .p q => derefW q fun a => K (s.e.put o.dst (.ad a))
      | .ad a => K (s.e.put o.dst (.ad a))
      | .loc id n => K (s.e.put o.dst (.loc id n))
      | .clo k f c => K (s.e.put o.dst (.clo k f c))
      | .fn sh rsh f => K (s.e.put o.dst (.fn sh rsh f))
      | _ => stuckW) s.h) : Yl (fun _ => True) G s o K := by
  have hx := ev_rel g x
  have hw := ev_wf g x
  generalize hq : s.e.ev x = q at hK hx hw
  cases q <;> first | (simp [stuckW] at hK; done) | skip
  case p q =>
    simp only [] at hK
    unfold derefW at hK
    obtain ⟨a, rfl, hK⟩ := hK
    exact leaf_step g (fun _ => run_nilCheck ho (by simpa [rel] using hx) (.inl ⟨a, rfl⟩)) (by simp [rel0]) hK
  case ad a => exact leaf_step g (fun _ => run_nilCheck ho (by simpa [rel] using hx) (.inl ⟨a, rfl⟩)) (by simp [rel0]) hK
  case loc id n => exact value_step g (fun _ => run_nilCheck ho (by simpa [rel] using hx) (.inl ⟨_, rfl⟩)) (by simp [rel]) hw hK
  case clo k f c =>
    have hx' := hx
    simp only [rel] at hx'
    obtain ⟨fv, cv, e, h1, h2⟩ := hx'
    exact value_step g (fun _ => run_nilCheck ho rfl (.inr ⟨k, fv, cv, e⟩)) hx hw hK
  case fn sh rsh f =>
    have hx' := hx
    simp only [rel] at hx'
    obtain ⟨k, fv, cv, e, h1⟩ := hx'
    exact value_step g (fun _ => run_nilCheck ho rfl (.inr ⟨k, fv, cv, e⟩)) hx hw hK

theorem run_indexAddr {P : Program} {w : World} {ρ : Operand → Value} {t el : TypeId} {x y : Operand} {v : Sl} {n : Int} {k : IntKind} {a : Addr} (ho : o.op = .indexAddr t x y) (hx : ρ x = .slice (some a) v.len v.cap) (hy : ρ y = .int k n)
    (ht : P.underlying t = some (.slice el)) (hi : ∃ i, P.info? el = some i) (h0 : 0 ≤ n) (h1 : n < v.len) : (execOp ρ o).run P w = .ok (.value (.pointer (some (a.add (n.toNat * sizeT P el))))) w := by
  obtain ⟨i, hi⟩ := hi
  simp [execOp, ho, hx, hy, Instr.indexAt, asIntOf, run_underlying ht, h0, h1, run_size hi, sizeT, hi]
theorem indexAddr_sound (g : Good G s) {t el : TypeId} {x y : Operand} {v : Sl} {k : IntKind} {n : Int} (ho : o.op = .indexAddr t x y)
    (ht : G.P.underlying t = some (.slice el)) (hs : 0 < sizeT G.P el) (hx : s.e.ev x = .sl v) (hy : s.e.ev y = .i k n) (hK : indexW n v (sizeT G.P el) (fun a => K (s.e.put o.dst (.ad a))) s.h) : Yl (fun _ => True) G s o K := by
  have h1 := ev_rel g x
  have h2 := ev_rel g y
  rw [hx] at h1; rw [hy] at h2
  simp only [rel] at h1 h2
  unfold indexW at hK
  obtain ⟨a, ha, h0, hlt, hK⟩ := hK
  rw [ha] at h1
  have hi : ∃ i, G.P.info? el = some i := by
    cases hi : G.P.info? el with
    | none => simp [sizeT, hi] at hs
    | some i => exact ⟨i, rfl⟩
  exact leaf_step g (fun _ => run_indexAddr ho h1 h2 ht hi h0 hlt) (by simp [rel0]) hK
theorem run_indexArr {P : Program} {w : World} {ρ : Operand → Value} {t el : TypeId} {x y : Operand} {n : Int} {len : Nat} {k : IntKind} {a : Addr} (ho : o.op = .indexAddr t x y) (hx : ρ x = .pointer (some a)) (hy : ρ y = .int k n)
    (ht : P.underlying t = some (.array len el)) (hi : ∃ i, P.info? el = some i) (h0 : 0 ≤ n) (h1 : n < len) : (execOp ρ o).run P w = .ok (.value (.pointer (some (a.add (n.toNat * sizeT P el))))) w := by
  obtain ⟨i, hi⟩ := hi
  simp [execOp, ho, hx, hy, Instr.indexAt, Instr.sureAddr, asIntOf, run_underlying ht, h0, h1, run_size hi, sizeT, hi]
theorem guard2 {n : Int} {len : Nat} {A : HProp} {h : H} (hK : iteW (leI 0 n) (iteW (ltI n len) A stuckW) stuckW h) : 0 ≤ n ∧ n < len ∧ A h := by
  unfold iteW at hK
  split at hK
  · rename_i h0
    split at hK
    · rename_i h1
      unfold leI at h0; unfold ltI at h1
      exact ⟨of_decide_eq_true h0, of_decide_eq_true h1, hK⟩
    · simp [stuckW] at hK
  · simp [stuckW] at hK
theorem indexArr_sound (g : Good G s) {t el : TypeId} {x y : Operand} {len : Nat} {k : IntKind} {n : Int} (ho : o.op = .indexAddr t x y)
    (ht : G.P.underlying t = some (.array len el)) (hs : 0 < sizeT G.P el) (hy : s.e.ev y = .i k n)
    (hK : (match s.e.ev x with
        | .loc id off => iteW (leI 0 n) (iteW (ltI n len) (K (s.e.put o.dst (.loc id (off + n.toNat * sizeT G.P el)))) stuckW) stuckW
        | .p q => iteW (leI 0 n) (iteW (ltI n len) (derefW q fun a => K (s.e.put o.dst (.ad (a.add (n.toNat * sizeT G.P el))))) stuckW) stuckW
        | .ad a => iteW (leI 0 n) (iteW (ltI n len) (K (s.e.put o.dst (.ad (a.add (n.toNat * sizeT G.P el))))) stuckW) stuckW
        | _ => stuckW) s.h) : Yl (fun _ => True) G s o K := by
  have h2 := ev_rel g y
  rw [hy] at h2
  simp only [rel] at h2
  have hi : ∃ i, G.P.info? el = some i := by
    cases hi : G.P.info? el with
    | none => simp [sizeT, hi] at hs
    | some i => exact ⟨i, rfl⟩
  have hx := ev_rel g x
  have hw := ev_wf g x
  generalize hq : s.e.ev x = q at hK hx hw
  cases q <;> first | (simp [stuckW] at hK; done) | skip
  case p q =>
    simp only [] at hK
    obtain ⟨h0, h1, hK1⟩ := guard2 hK
    unfold derefW at hK1
    obtain ⟨a, ha, hK2⟩ := hK1
    rw [ha] at hx
    exact leaf_step g (fun _ => run_indexArr ho (by simpa [rel] using hx) h2 ht hi h0 h1) (by simp [rel0]) hK2
  case ad a =>
    simp only [] at hK
    obtain ⟨h0, h1, hK⟩ := guard2 hK
    exact leaf_step g (fun _ => run_indexArr ho (by simpa [rel] using hx) h2 ht hi h0 h1) (by simp [rel0]) hK
  case loc id m =>
    simp only [] at hK
    obtain ⟨h0, h1, hK⟩ := guard2 hK
    refine value_step g (fun _ => run_indexArr ho (by simpa [rel] using hx) h2 ht hi h0 h1) (v := .loc id (m + n.toNat * sizeT G.P el)) ?_ (by simpa [below] using hw) hK
    simp only [rel]
    unfold Addr.add
    split <;> simp_all
theorem run_indexStr {P : Program} {w : World} {ρ : Operand → Value} {t : TypeId} {x y : Operand} {z : ByteArray} {n : Int} {k : IntKind} (ho : o.op = .index t x y) (hx : ρ x = .string z) (hy : ρ y = .int k n)
    (ht : P.underlying t = some .string) (h0 : 0 ≤ n) (h1 : n.toNat < z.size) : (execOp ρ o).run P w = .ok (.value (.int .u8 (z[n.toNat].toNat))) w := by
  have : z[n.toNat]? = some z[n.toNat] := by simp [h1]
  simp [execOp, ho, hx, hy, Instr.index, asIntOf, run_underlying ht, h0, this]
theorem index_sound (g : Good G s) {t : TypeId} {x y : Operand} {z : ByteArray} {k : IntKind} {n : Int} (ho : o.op = .index t x y)
    (ht : G.P.underlying t = some .string) (hx : s.e.ev x = .s z) (hy : s.e.ev y = .i k n) (hK : byteW n z (fun c => K (s.e.put o.dst (.i .u8 c))) s.h) : Yl (fun _ => True) G s o K := by
  have h1 := ev_rel g x
  have h2 := ev_rel g y
  rw [hx] at h1; rw [hy] at h2
  simp only [rel] at h1 h2
  unfold byteW at hK
  obtain ⟨hlt, h0, hK⟩ := hK
  exact leaf_step g (fun _ => run_indexStr ho h1 h2 ht h0 hlt) (by simp [rel0]) hK
theorem relL_get {P : Program} {β : Nat → Nat} : ∀ {l : List SV} {vs : List Value} {n : Nat} {x : SV} {r : List SV}, relL P β l vs → l.drop n = x :: r → ∃ v, vs[n]? = some v ∧ rel P β x v
  | l, vs, n, x, r, h, e => by
    have h := relL_drop n h
    rw [e] at h
    obtain ⟨v, us, hv, hr, _⟩ := relL_cons.1 h
    refine ⟨v, ?_, hr⟩
    have : (vs.drop n)[0]? = some v := by rw [hv]; rfl
    simpa using this
theorem extract_sound (g : Good G s) {x : Operand} {n : Nat} (ho : o.op = .extract x n) {l : List SV} {v : SV} {r : List SV}
    (hx : s.e.ev x = .tup l) (hl : l.drop n = v :: r) (hK : K (s.e.put o.dst v) s.h) : Yl (fun _ => True) G s o K := by
  have h1 := ev_rel g x
  have hw := ev_wf g x
  rw [hx] at h1 hw
  simp only [rel] at h1
  obtain ⟨vs, hv, hr⟩ := h1
  obtain ⟨u, hu, hr⟩ := relL_get hr hl
  have hb : below s.e.nloc v = true := by
    simp only [below] at hw
    have := belowL_drop hw n
    rw [hl] at this
    simp only [belowL, Bool.and_eq_true] at this
    exact this.1
  refine value_step g (x := u) ?_ hr hb hK
  have hu' : vs[n]? = some u := by simpa using hu
  simp [execOp, ho, hv, Instr.extract, hu']
end
end Go.Cz
