/- Part of the proof of a law of 28: an engine that runs a function over an abstract heap, and what the functions compute; own work. -/
import Derived.Test.YtpmojjeehmadpaaGreatEng2
import Derived.WalkSpells
import Derived.Lib.SliceRun
set_option linter.unusedVariables false
set_option linter.unusedSimpArgs false
set_option linter.unusedSectionVars false
namespace Go.Cz
variable [Inhabited DrawnP]
open Go
set_option linter.unusedSimpArgs false

theorem ofV_rel {P : Program} {β : Nat → Nat} (v : Value) : rel P β (SV.ofV v) v := by
  cases v <;> simp [SV.ofV, rel]
  case agg cs =>
    generalize cs.toList = l
    induction l with
    | nil => simp [relL]
    | cons x r ih => exact relL_cons.2 ⟨x, r, rfl, by cases x <;> simp [rel], ih⟩
theorem ev_rel {G : Gl} {s : St} (g : Good G s) (x : Operand) : rel G.P s.β (s.e.ev x) (s.a.eval x) := by
  cases x with
  | tmp t => obtain ⟨y, rfl, h⟩ := rel_get g t; exact h
  | const v => exact ofV_rel v
  | global g => simp [Env.ev, Act.eval, rel]
  | func f => simp [Env.ev, Act.eval, rel, relL]
theorem evs_rel {G : Gl} {s : St} (g : Good G s) : ∀ l : List Operand, relL G.P s.β (evs s.e l) (l.map s.a.eval)
  | [] => by simp [evs, relL]
  | x :: r => relL_cons.2 ⟨_, _, rfl, ev_rel g x, evs_rel g r⟩
theorem ev_wf {G : Gl} {s : St} (g : Good G s) (x : Operand) : below s.e.nloc (s.e.ev x) = true := by
  cases x with
  | tmp t =>
    simp only [Env.ev, Env.get]
    cases h : look s.e.slots t with
    | none => simp [below]
    | some v => exact g.wf t v h
  | const v =>
    cases v <;> simp [Env.ev, SV.ofV, below]
    rw [belowL_mem]
    intro x hx
    obtain ⟨y, _, rfl⟩ := List.mem_map.1 hx
    cases y <;> simp [below]
  | global g => simp [Env.ev, below]
  | func f => simp [Env.ev, below, belowL]
theorem evs_wf {G : Gl} {s : St} (g : Good G s) : ∀ l : List Operand, belowL s.e.nloc (evs s.e l) = true
  | [] => by simp [evs, belowL]
  | x :: r => by simp [evs, belowL, ev_wf g x, evs_wf g r]

def Nexts (G : Gl) (s : St) (K : Env → HProp) (next : Act → World → Prop) : Prop := ∀ s', K s'.e s'.h → Good G s' → Le s s' → next s'.a s'.w

section
variable {G : Gl} {s : St} {K : Env → HProp} {next : Act → World → Prop} {Q : Exit → Act → World → Prop} {o : Oper}

theorem value_wp (g : Good G s) (hd : ∀ n, o.dst = some n → n < G.N) (hn : Nexts G s K next) {v : SV} {x : Value}
    (hrun : (execOp s.a.eval o).run G.P s.w = .ok (.value x) s.w) (hr : rel G.P s.β v x)
    (hw : below s.e.nloc v = true)
    (hK : K (s.e.put o.dst v) s.h) : o.wp G.P s.a s.w next Q := by
  unfold Oper.wp
  rw [hrun]
  exact hn _ hK (g.put hr hd hw) (Le.put _ _ _)
/-- a leaf that is no place -/
theorem leaf_wp (g : Good G s) (hd : ∀ n, o.dst = some n → n < G.N) (hn : Nexts G s K next) {v : SV} {x : Value}
    (hrun : (execOp s.a.eval o).run G.P s.w = .ok (.value x) s.w) (hr : rel0 v x)
    (hK : K (s.e.put o.dst v) s.h) : o.wp G.P s.a s.w next Q := by
  exact value_wp g hd hn hrun (v := v) (rel0_rel hr) (rel0_below hr) hK
where
  rel0L_below {n : Nat} : ∀ {l : List SV} {vs : List Value}, rel0L l vs → belowL n l = true
    | [], vs, h => by simp [belowL]
    | x :: r, vs, h => by
      simp only [rel0L] at h
      obtain ⟨v, us, rfl, h1, h2⟩ := h
      simp [belowL, rel0_below h1, rel0L_below h2]
  rel0_below {n : Nat} : ∀ {x : SV} {v : Value}, rel0 x v → below n x = true
    | .i .., v, h | .b .., v, h | .t .., v, h | .s .., v, h | .p .., v, h | .ad .., v, h | .sl .., v, h | .m .., v, h => by simp [below]
    | .agg l, v, h | .tup l, v, h => by
      simp only [rel0] at h
      obtain ⟨vs, rfl, h⟩ := h
      simp only [below]
      exact rel0L_below h
    | .loc .., v, h | .lsl .., v, h | .clo .., v, h | .fn .., v, h | .und, v, h => by simp [rel0] at h
  rel0L_relL {P : Program} {β : Nat → Nat} : ∀ {l : List SV} {vs : List Value}, rel0L l vs → relL P β l vs
    | [], vs, h => by simpa [rel0L, relL] using h
    | x :: r, vs, h => by
      simp only [rel0L] at h
      obtain ⟨v, us, rfl, h1, h2⟩ := h
      exact relL_cons.2 ⟨v, us, rfl, rel0_rel h1, rel0L_relL h2⟩
  rel0_rel {P : Program} {β : Nat → Nat} : ∀ {x : SV} {v : Value}, rel0 x v → rel P β x v
    | .i .., v, h | .b .., v, h | .t .., v, h | .s .., v, h | .p .., v, h | .ad .., v, h | .sl .., v, h | .m .., v, h => by simpa [rel0, rel] using h
    | .agg l, v, h | .tup l, v, h => by
      simp only [rel0] at h
      obtain ⟨vs, rfl, h⟩ := h
      simp only [rel]
      exact ⟨vs, rfl, rel0L_relL h⟩
    | .loc .., v, h | .lsl .., v, h | .clo .., v, h | .fn .., v, h | .und, v, h => by simp [rel0] at h


set_option linter.unusedVariables false
set_option linter.unusedSectionVars false
/-- an operation that gives a value, and leaves the world alone, in each world that meets Hold -/
def Yl (Hold : World → Prop) (G : Gl) (s : St) (o : Oper) (K : Env → HProp) : Prop := ∃ sv v, K (s.e.put o.dst sv) s.h ∧ rel G.P s.β sv v ∧ below s.e.nloc sv = true ∧ ∀ w', Hold w' → (execOp s.a.eval o).run G.P w' = .ok (.value v) w'
theorem Yl.wp {Hold : World → Prop} (h : Yl Hold G s o K) (hh : Hold s.w) (g : Good G s) (hd : ∀ n, o.dst = some n → n < G.N) (hn : Nexts G s K next) : o.wp G.P s.a s.w next Q := by
  obtain ⟨sv, v, hK, hr, hb, hrun⟩ := h
  exact value_wp g hd hn (hrun s.w hh) hr hb hK
theorem value_step (g : Good G s) {v : SV} {x : Value} (hrun : ∀ w', (execOp s.a.eval o).run G.P w' = .ok (.value x) w') (hr : rel G.P s.β v x) (hw : below s.e.nloc v = true)
    (hK : K (s.e.put o.dst v) s.h) : Yl (fun _ => True) G s o K := ⟨v, x, hK, hr, hw, fun w' _ => hrun w'⟩
theorem leaf_step (g : Good G s) {v : SV} {x : Value} (hrun : ∀ w', (execOp s.a.eval o).run G.P w' = .ok (.value x) w') (hr : rel0 v x)
    (hK : K (s.e.put o.dst v) s.h) : Yl (fun _ => True) G s o K := value_step g hrun (leaf_wp.rel0_rel hr) (leaf_wp.rel0_below hr) hK

theorem move_sound (g : Good G s) {x : Operand} (ho : o.op = .move x ∨ o.op = .assign x)
    (hK : K (s.e.put o.dst (s.e.ev x)) s.h) : Yl (fun _ => True) G s o K :=
  value_step g (x := s.a.eval x) (fun _ => by rcases ho with ho | ho <;> simp [execOp, ho]) (ev_rel g x) (ev_wf g x) hK

end

section
variable {P : Program} {w : World} {ρ : Operand → Value} {o : Oper}
def binV (op : BinOp) (k : IntKind) (a b : Int) : Option SV := match op with
  | .add => some (.i k (add k a b)) | .sub => some (.i k (sub k a b)) | .mul => some (.i k (mul k a b))
  | .quo => some (.i k (quo k a b)) | .rem => some (.i k (rem a b))
  | .and => some (.i k (andI k a b)) | .or => some (.i k (orI k a b)) | .xor => some (.i k (xorI k a b)) | .andNot => some (.i k (andNotI k a b))
  | .lss => some (.b (ltI a b)) | .leq => some (.b (leI a b)) | .gtr => some (.b (ltI b a)) | .geq => some (.b (leI b a))
  | .eql => some (.b (eqI a b)) | .neq => some (.b (!eqI a b))
  | _ => none
theorem run_bin {op : BinOp} {t u : TypeId} {x y : Operand} {k : IntKind} {a b : Int} (ho : o.op = .binOp op t x y u) (hx : ρ x = .int k a) (hy : ρ y = .int k b)
    {v : SV} (hv : binV op k a b = some v) (hb : (op = .quo ∨ op = .rem) → b ≠ 0) : ∃ z, (∀ w, (execOp ρ o).run P w = .ok (.value z) w) ∧ rel0 v z := by
  cases op <;> simp [binV] at hv <;> subst hv
  case quo => have hb := hb (.inl rfl); exact ⟨.int k (k.wrap (a.tdiv b)), fun w => by simp [execOp, ho, hx, hy, hb, go_sem], by simp [rel0, quo]⟩
  case rem => have hb := hb (.inr rfl); exact ⟨.int k (a.tmod b), fun w => by simp [execOp, ho, hx, hy, hb, go_sem], by simp [rel0, rem]⟩
  case add => exact ⟨.int k (k.wrap (a + b)), fun w => by simp [execOp, ho, hx, hy, go_sem], by simp [rel0, add]⟩
  case sub => exact ⟨.int k (k.wrap (a - b)), fun w => by simp [execOp, ho, hx, hy, go_sem], by simp [rel0, sub]⟩
  case mul => exact ⟨.int k (k.wrap (a * b)), fun w => by simp [execOp, ho, hx, hy, go_sem], by simp [rel0, mul]⟩
  case and => exact ⟨.int k (andI k a b), fun w => by simp [execOp, ho, hx, hy, go_sem, andI, bits], by simp [rel0]⟩
  case or => exact ⟨.int k (orI k a b), fun w => by simp [execOp, ho, hx, hy, go_sem, orI, bits], by simp [rel0]⟩
  case xor => exact ⟨.int k (xorI k a b), fun w => by simp [execOp, ho, hx, hy, go_sem, xorI, bits], by simp [rel0]⟩
  case andNot => exact ⟨.int k (andNotI k a b), fun w => by simp [execOp, ho, hx, hy, go_sem, andNotI, bits], by simp [rel0]⟩
  case lss => exact ⟨.bool (ltI a b), fun w => by simp [execOp, ho, hx, hy, go_sem, ltI], by simp [rel0]⟩
  case leq => exact ⟨.bool (leI a b), fun w => by simp [execOp, ho, hx, hy, go_sem, leI], by simp [rel0]⟩
  case gtr => exact ⟨.bool (ltI b a), fun w => by simp [execOp, ho, hx, hy, go_sem, ltI], by simp [rel0]⟩
  case geq => exact ⟨.bool (leI b a), fun w => by simp [execOp, ho, hx, hy, go_sem, leI], by simp [rel0]⟩
  case eql => exact ⟨.bool (eqI a b), fun w => by simp [execOp, ho, hx, hy, go_sem, eqI]; rfl, by simp [rel0]⟩
  case neq => exact ⟨.bool (!eqI a b), fun w => by simp [execOp, ho, hx, hy, go_sem, eqI]; rfl, by simp [rel0]⟩
theorem run_shl {t u : TypeId} {x y : Operand} {k k' : IntKind} {a b : Int} (ho : o.op = .binOp .shl t x y u) (hx : ρ x = .int k a) (hy : ρ y = .int k' b) (hb : 0 ≤ b) :
    (execOp ρ o).run P w = .ok (.value (.int k (shl k a b))) w := by
  simp [execOp, ho, hx, hy, go_sem, hb, shl]
theorem run_shr {t u : TypeId} {x y : Operand} {k k' : IntKind} {a b : Int} (ho : o.op = .binOp .shr t x y u) (hx : ρ x = .int k a) (hy : ρ y = .int k' b) (hb : 0 ≤ b) :
    (execOp ρ o).run P w = .ok (.value (.int k (shr k a b))) w := by
  simp [execOp, ho, hx, hy, go_sem, hb, shr]

theorem run_str {op : BinOp} {t u : TypeId} {x y : Operand} {a b : ByteArray} (ho : o.op = .binOp op t x y u) (hx : ρ x = .string a) (hy : ρ y = .string b) (h : H) {K : SV → HProp}
    (hK : binS op a b K h) : ∃ z v, (∀ w, (execOp ρ o).run P w = .ok (.value z) w) ∧ rel0 v z ∧ K v h := by
  cases op <;> simp only [binS] at hK <;> first | exact absurd hK (by unfold stuckW; simp) | skip
  case add =>
    unfold mustW at hK; obtain ⟨hb, hK⟩ := hK
    exact ⟨.string (a ++ b), _, fun w => by simp [execOp, ho, hx, hy, go_sem, hb], by simp only [rel0], hK⟩
  case eql => exact ⟨.bool (eqS a b), _, fun w => by simp [execOp, ho, hx, hy, go_sem, eqS], by simp only [rel0], hK⟩
  case neq => exact ⟨.bool (!eqS a b), _, fun w => by simp [execOp, ho, hx, hy, go_sem, eqS], by simp only [rel0], hK⟩
  case lss => exact ⟨.bool (ltS a b), _, fun w => by simp [execOp, ho, hx, hy, go_sem, ltS], by simp only [rel0], hK⟩
  case leq => exact ⟨.bool (ltS a b || eqS a b), _, fun w => by simp [execOp, ho, hx, hy, go_sem, binOp, Op.stringOp, ltS, eqS], by simp only [rel0], hK⟩
  case gtr => exact ⟨.bool (!(ltS a b || eqS a b)), _, fun w => by simp [execOp, ho, hx, hy, go_sem, binOp, Op.stringOp, ltS, eqS], by simp only [rel0], hK⟩
  case geq => exact ⟨.bool (!ltS a b), _, fun w => by simp [execOp, ho, hx, hy, go_sem, binOp, Op.stringOp, ltS], by simp only [rel0], hK⟩
theorem run_conv {t u : TypeId} {x : Operand} {k k' : IntKind} {a : Int} (ho : o.op = .convert t u x) (hx : ρ x = .int k a) (ht : ∃ d, P.underlying t = some d) (hu : P.underlying u = some (.int k')) :
    (execOp ρ o).run P w = .ok (.value (.int k' (cnv k' a))) w := by
  obtain ⟨d, ht⟩ := ht
  simp [execOp, ho, hx, go_sem, ht, hu, cnv]
theorem run_not {t : TypeId} {x : Operand} {c : Bool} (ho : o.op = .unOp .not t x) (hx : ρ x = .bool c) : (execOp ρ o).run P w = .ok (.value (.bool (!c))) w := by
  simp [execOp, ho, hx, go_sem]
theorem run_neg {t : TypeId} {x : Operand} {k : IntKind} {c : Int} (ho : o.op = .unOp .neg t x) (hx : ρ x = .int k c) : (execOp ρ o).run P w = .ok (.value (.int k (sub k 0 c))) w := by
  simp [execOp, ho, hx, go_sem, sub]
theorem run_xor {t : TypeId} {x : Operand} {k : IntKind} {c : Int} (ho : o.op = .unOp .xor t x) (hx : ρ x = .int k c) : (execOp ρ o).run P w = .ok (.value (.int k (notI k c))) w := by
  simp [execOp, ho, hx, go_sem, notI, xorI, bits]
theorem run_eqNilP {op : BinOp} {t u e : TypeId} {x y : Operand} {a : Option Addr} (ho : o.op = .binOp op t x y u) (hx : ρ x = .pointer a) (hy : ρ y = .pointer none) (ht : P.underlying t = some (.pointer e)) (hop : op = .eql ∨ op = .neq) :
    (execOp ρ o).run P w = .ok (.value (.bool (if op = .eql then a.isNone else !a.isNone))) w := by
  rcases hop with rfl | rfl <;> cases a <;> simp [execOp, ho, hx, hy, go_sem, ht]
theorem run_eqNilS {op : BinOp} {t u e : TypeId} {x y : Operand} {a : Option Addr} {l c l' c' : Nat} (ho : o.op = .binOp op t x y u) (hx : ρ x = .slice a l c) (hy : ρ y = .slice none l' c') (ht : P.underlying t = some (.slice e)) (hop : op = .eql ∨ op = .neq) :
    (execOp ρ o).run P w = .ok (.value (.bool (if op = .eql then a.isNone else !a.isNone))) w := by
  rcases hop with rfl | rfl
  · simp [execOp, ho, hx, hy, go_sem, Lib.run_eql_slice_nil w t e a l c l' c' ht]
  · simp [execOp, ho, hx, hy, go_sem, Go.run_neq_slice_nil_any w t e a l c l' c' ht]
theorem run_eqNilM {op : BinOp} {t u k e : TypeId} {x y : Operand} {r : Option Nat} (ho : o.op = .binOp op t x y u) (hx : ρ x = .map r) (hy : ρ y = .map none) (ht : P.underlying t = some (.map k e)) (hop : op = .eql ∨ op = .neq) :
    (execOp ρ o).run P w = .ok (.value (.bool (if op = .eql then r.isNone else !r.isNone))) w := by
  rcases hop with rfl | rfl
  · simp [execOp, ho, hx, hy, go_sem, Go.run_eql_map_nil w t k e r ht]
  · simp [execOp, ho, hx, hy, go_sem, Go.run_neq_map_nil w t k e r ht]
theorem run_eqB {op : BinOp} {t u : TypeId} {x y : Operand} {a b : Bool} (ho : o.op = .binOp op t x y u) (hx : ρ x = .bool a) (hy : ρ y = .bool b) (ht : P.underlying t = some .bool) (hop : op = .eql ∨ op = .neq) :
    (execOp ρ o).run P w = .ok (.value (.bool (if op = .eql then a == b else !(a == b)))) w := by
  rcases hop with rfl | rfl <;> simp [execOp, ho, hx, hy, go_sem, ht]
theorem run_fieldAddr {t : TypeId} {x : Operand} {f : Nat} {a : Addr} {off : Nat} {ft : TypeId} (ho : o.op = .fieldAddr t x f) (hx : ρ x = .pointer (some a)) (hf : fieldOff P t f = some (off, ft)) (hs : 0 < sizeT P ft) :
    (execOp ρ o).run P w = .ok (.value (.pointer (some (a.add off)))) w := by
  unfold fieldOff at hf
  split at hf <;> simp at hf
  rename_i fs ht
  split at hf <;> simp at hf
  rename_i f' hf'
  obtain ⟨h1, h2⟩ := hf
  subst h1 h2
  unfold sizeT at hs
  cases hi : P.info? f'.type with
  | none => simp [hi] at hs
  | some i =>
  simp only [hi] at hs
  have h0 : i.size ≠ 0 := by omega
  have hf2 : fs[f]? = some f' := by simpa using hf'
  simp [execOp, ho, hx, go_sem, run_underlying ht, hf2, Instr.fieldAt, fieldPlace, sizeOf, typeInfo, hi, h0]

/-! ### memory -/
theorem run_info {t : TypeId} {i : TypeInfo} (hi : P.info? t = some i) : (typeInfo t).run P w = .ok i w := by simp [typeInfo, hi]
theorem run_size {t : TypeId} {i : TypeInfo} (hi : P.info? t = some i) : (sizeOf t).run P w = .ok i.size w := by simp [sizeOf, run_info hi]
theorem underlying_info {t : TypeId} {d : TypeDesc} (h : P.underlying t = some d) : ∃ i, P.info? t = some i := by
  unfold Program.underlying at h
  split at h <;> first | exact ⟨_, ‹_›⟩ | cases h
theorem run_isAggT {t : TypeId} {d : TypeDesc} (h : P.underlying t = some d) : (isAgg t).run P w = .ok (isAggT P t) w := by
  simp only [isAgg, isAggT, h]
  simp [run_underlying h]
  cases d <;> simp
theorem run_load1 {t : TypeId} {x : Operand} {a : Addr} {v : Value} {d : TypeDesc} (ho : o.op = .load t x) (hx : ρ x = .pointer (some a)) (ht : P.underlying t = some d) (hg : isAggT P t = false) (hc : w.cell? a = some v) :
    (execOp ρ o).run P w = .ok (.value v) w := by
  simp [execOp, ho, hx, go_sem, run_isAggT ht, hg, hc]
theorem run_loadN {t : TypeId} {x : Operand} {a : Addr} {vs : List Value} {d : TypeDesc} (ho : o.op = .load t x) (hx : ρ x = .pointer (some a)) (ht : P.underlying t = some d) (hg : isAggT P t = true) (hs : sizeT P t = vs.length)
    (hc : ∀ j v, vs[j]? = some v → w.cell? (a.add j) = some v) : (execOp ρ o).run P w = .ok (.value (.agg vs.toArray)) w := by
  obtain ⟨i, hi⟩ := underlying_info ht
  simp only [sizeT, hi] at hs
  have := run_loadCells_list (P := P) (w := w) a vs hc
  simp [execOp, ho, hx, Instr.loadAt, Instr.sureAddr, loadVar, run_isAggT ht, hg, run_size hi, hs, this]
end
end Go.Cz
