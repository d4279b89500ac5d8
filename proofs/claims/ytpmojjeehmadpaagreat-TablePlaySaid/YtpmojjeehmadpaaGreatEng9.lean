/- Part of the proof of a law of 28: an engine that runs a function over an abstract heap, and what the functions compute; own work. -/
import Derived.Test.YtpmojjeehmadpaaGreatEng8
set_option linter.unusedVariables false
set_option linter.unusedSimpArgs false
set_option linter.unusedSectionVars false
namespace Go.Cz
variable [Inhabited DrawnP]
open Go
set_option linter.unusedSimpArgs false
set_option linter.unusedVariables false
set_option linter.unusedSectionVars false

theorem fill_cells (off : Nat) : ∀ (vs : List Value) (k : Nat) (cells : Array Value), off + k + vs.length ≤ cells.size →
    ((vs.zipIdx k).foldl (fun cs (c, j) => Array.setIfInBounds cs (off + j) c) cells).toList = cells.toList.take (off + k) ++ vs ++ cells.toList.drop (off + k + vs.length)
  | [], k, cells, h => by simp
  | v :: r, k, cells, h => by
    simp only [List.length_cons] at h
    simp only [List.zipIdx_cons, List.foldl_cons]
    rw [fill_cells off r (k + 1) _ (by simp; omega)]
    have hl : off + k < cells.toList.length := by simp; omega
    have e0 : (cells.setIfInBounds (off + k) v).toList = cells.toList.take (off + k) ++ v :: cells.toList.drop (off + k + 1) := by
      rw [Array.toList_setIfInBounds, List.set_eq_take_append_cons_drop, if_pos hl]
    have hlt : (cells.toList.take (off + k)).length = off + k := by rw [List.length_take]; omega
    have a1 : off + (k + 1) - (off + k) = 1 := by omega
    have a2 : off + (k + 1) + r.length - (off + k) = r.length + 1 := by omega
    have e1 : (cells.toList.take (off + k) ++ v :: cells.toList.drop (off + k + 1)).take (off + (k + 1)) = cells.toList.take (off + k) ++ [v] := by
      rw [List.take_append, hlt, a1, List.take_of_length_le (l := cells.toList.take (off + k)) (by omega)]
      simp
    have e2 : (cells.toList.take (off + k) ++ v :: cells.toList.drop (off + k + 1)).drop (off + (k + 1) + r.length) = cells.toList.drop (off + k + (r.length + 1)) := by
      rw [List.drop_append, hlt, a2, List.drop_eq_nil_of_le (by omega)]
      simp [List.drop_drop]
      congr 1
      omega
    rw [e0, e1, e2]
    simp

section
variable {G : Gl} {s : St} {K : Env → HProp} {next : Act → World → Prop} {Q : Exit → Act → World → Prop} {o : Oper}

theorem relL_splice {P : Program} {β : Nat → Nat} {c v : List SV} {cs vs : List Value} (h : relL P β c cs) (g : relL P β v vs) (off : Nat) :
    relL P β (splice c off v) (cs.take off ++ vs ++ cs.drop (off + vs.length)) := by
  unfold splice
  rw [relL_length g]
  exact relL_append (relL_append (relL_take _ h) g) (relL_drop _ h)
theorem belowL_splice {n : Nat} {c v : List SV} (h : belowL n c = true) (g : belowL n v = true) (off : Nat) : belowL n (splice c off v) = true :=
  belowL_append (belowL_append (belowL_take h _) g) (belowL_drop h _)

theorem buildC_fill (g : Good G s) (place : Nat → Option (Nat × Nat)) : ∀ (parts : List (Nat × Operand)) (z l : List SV) (zs : Array Value), buildC s.e place parts z = some l → relL G.P s.β z zs.toList → belowL s.e.nloc z = true →
    ∃ cs : Array Value, Instr.fill place zs (parts.map fun (i, x) => (i, s.a.eval x)) = some cs ∧ relL G.P s.β l cs.toList ∧ leafs l = true ∧ belowL s.e.nloc l = true
  | [], z, l, zs, h, hr, hb => by
    simp only [buildC] at h
    split at h <;> simp at h
    subst h
    exact ⟨zs, by simp [Instr.fill], hr, by assumption, hb⟩
  | (i, x) :: r, z, l, zs, h, hr, hb => by
    simp only [buildC] at h
    cases hp : place i with
    | none => simp [hp] at h
    | some p =>
      obtain ⟨off, n⟩ := p
      simp only [hp] at h
      split at h
      · rename_i hc
        simp only [Bool.and_eq_true] at hc
        have h1 := Nat.eq_of_beq_eq_true hc.1.2
        have h2 := Nat.le_of_ble_eq_true hc.2
        have hx := relL_map_cells (ev_rel g x) hc.1.1
        have hlen := relL_length hx
        have hzl := relL_length hr
        simp at hlen hzl
        obtain ⟨cs, f1, f2⟩ := buildC_fill g place r (splice z off (s.e.ev x).cells) l ((zs.toList.take off ++ (s.a.eval x).cells.toList ++ zs.toList.drop (off + (s.a.eval x).cells.toList.length)).toArray) h
          (by simpa using relL_splice hr hx off) (belowL_splice hb (below_cells (ev_wf g x)) off)
        refine ⟨cs, ?_, f2⟩
        simp only [List.map_cons, Instr.fill, hp]
        rw [if_neg (by simp; omega)]
        have e : (Array.foldl (fun cs (x : Value × Nat) => cs.setIfInBounds (off + x.2) x.1) zs (s.a.eval x).cells.zipIdx) = (zs.toList.take off ++ (s.a.eval x).cells.toList ++ zs.toList.drop (off + (s.a.eval x).cells.toList.length)).toArray := by
          apply Array.ext'
          have := fill_cells off (s.a.eval x).cells.toList 0 zs (by simp; omega)
          simp only [Nat.add_zero] at this
          rw [← this]
          rw [← Array.foldl_toList]
          simp
        have e' : (Array.foldl (fun cs (x : Value × Nat) => match x with | (c, j) => cs.setIfInBounds (off + j) c) zs (s.a.eval x).cells.zipIdx) = (zs.toList.take off ++ (s.a.eval x).cells.toList ++ zs.toList.drop (off + (s.a.eval x).cells.toList.length)).toArray := e
        rw [e']
        exact f1
      · simp at h
end
end Go.Cz
namespace Go.Cz
variable [Inhabited DrawnP]
open Go
section
variable {G : Gl} {s : St} {K : Env → HProp} {next : Act → World → Prop} {Q : Exit → Act → World → Prop} {o : Oper}

theorem zeroCells_relL {P : Program} {β : Nat → Nat} {t : TypeId} {v : Value} (h : zeroT P t = some v) : relL P β (zeroCells P t) v.cells.toList := by
  unfold zeroCells
  rw [h]
  have hr := ofV_rel (P := P) (β := β) v
  cases v
  case agg cs => simp only [SV.ofV, rel] at hr; obtain ⟨vs, e, hr⟩ := hr; cases e; exact hr
  all_goals exact relL_cons.2 ⟨_, [], rfl, hr, by simp [relL]⟩

theorem placesT_built {P : Program} {t : TypeId} {place : Nat → Option (Nat × Nat)} {z : Value} {cs : Array Value} {parts : List (Nat × Value)} (hp : placesT P t = some place) (hz : zeroT P t = some z) (h : Instr.fill place z.cells parts = some cs) : P.built t parts = some cs := by
  obtain ⟨it, hi, hz⟩ := zeroT_info hz
  unfold placesT at hp
  unfold Program.built
  cases hu : P.underlying t with
  | none => simp [hu] at hp
  | some d =>
    simp only [hu] at hp
    cases d <;> simp only [] at hp <;> try (cases hp; done)
    case struct fs =>
      cases hm : fs.toList.mapM (fun f => (P.info? f.type).map fun i => (f.offset, i.size)) with
      | none => simp [hm] at hp
      | some pl =>
        simp only [hm, Option.some.injEq] at hp
        subst hp
        simp only [hi, hz, hm]
        simpa using h
    case array n e =>
      cases hie : P.info? e with
      | none => simp [hie] at hp
      | some ie =>
        simp only [hie, Option.some.injEq] at hp
        subst hp
        simpa [hi, hz, hie] using h

theorem build_sound (g : Good G s) {t : TypeId} {parts : Array (Nat × Operand)} {place : Nat → Option (Nat × Nat)} {z : Value} {l : List SV} (ho : o.op = .build t parts)
    (hp : placesT G.P t = some place) (hz : zeroT G.P t = some z) (hl : buildC s.e place parts.toList (zeroCells G.P t) = some l) (hK : K (s.e.put o.dst (.agg l)) s.h) : Yl (fun _ => True) G s o K := by
  obtain ⟨cs, h1, h2, h3, h4⟩ := buildC_fill g place parts.toList (zeroCells G.P t) l z.cells hl (zeroCells_relL hz) (zeroCells_below _ _ _)
  have hb := placesT_built hp hz h1
  refine value_step g (x := .agg cs) (v := .agg l) ?_ (by simp only [rel]; exact ⟨cs, rfl, h2⟩) (by simpa [below] using h4) hK
  intro w'
  have := run_build (P := G.P) w' t (parts.map fun (i, x) => (i, s.a.eval x)) cs (by simpa using hb)
  simp [execOp, ho, this]

theorem field_sound (g : Good G s) {t ft : TypeId} {x : Operand} {f off : Nat} {l : List SV} (ho : o.op = .field t x f)
    (hf : fieldOff G.P t f = some (off, ft)) (hx : s.e.ev x = .agg l) (hnone : noneT G.P ft = false)
    (hK : (if isAggT G.P ft then (if Nat.ble (off + sizeT G.P ft) l.length then K (s.e.put o.dst (.agg ((l.drop off).take (sizeT G.P ft)))) else stuckW) else match l.drop off with | x :: _ => K (s.e.put o.dst x) | [] => stuckW) s.h) : Yl (fun _ => True) G s o K := by
  have h1 := ev_rel g x
  have hw := ev_wf g x
  rw [hx] at h1 hw
  simp only [rel] at h1
  simp only [below] at hw
  obtain ⟨vs, hv, hr⟩ := h1
  unfold fieldOff at hf
  split at hf <;> simp at hf
  rename_i fs ht
  split at hf <;> simp at hf
  rename_i f' hf'
  obtain ⟨e1, e2⟩ := hf
  subst e1 e2
  have hf2 : fs[f]? = some f' := by simpa using hf'
  cases hD : G.P.underlying f'.type with
  | none => simp [noneT, hD] at hnone
  | some D =>
  obtain ⟨i, hi⟩ := underlying_info hD
  have hs : sizeT G.P f'.type = i.size := by simp [sizeT, hi]
  cases hg : isAggT G.P f'.type with
  | true =>
    simp only [hg, if_true] at hK
    split at hK
    case isFalse => simp [stuckW] at hK
    rename_i hle
    refine value_step g (x := .agg (vs.extract f'.offset (f'.offset + i.size))) ?_ ?_ ?_ hK
    · simp [execOp, ho, hv, Instr.field, run_underlying ht, hf2, part, run_isAggT hD, hg, run_size hi, asAgg]
    · simp only [rel]
      refine ⟨_, rfl, ?_⟩
      rw [hs]
      have := relL_take i.size (relL_drop f'.offset hr)
      simpa [Array.toList_extract, List.extract_eq_take_drop] using this
    · simp only [below]
      exact belowL_take (belowL_drop hw _) _
  | false =>
    simp only [hg] at hK
    split at hK
    · rename_i h; cases h
    · cases hl : l.drop f'.offset with
      | nil => simp [hl, stuckW] at hK
      | cons y r =>
        simp only [hl] at hK
        obtain ⟨u, hu, hru⟩ := relL_get hr hl
        have hb : below s.e.nloc y = true := by
          have := belowL_drop hw f'.offset
          rw [hl] at this
          simp only [belowL, Bool.and_eq_true] at this
          exact this.1
        refine value_step g (x := u) ?_ hru hb hK
        have hu' : vs[f'.offset]? = some u := by simpa using hu
        simp [execOp, ho, hv, Instr.field, run_underlying ht, hf2, part, run_isAggT hD, hg, hu', asAgg]

theorem eqR_cases {op : BinOp} {c : Bool} {K : SV → HProp} {h : H} (hK : eqR op c K h) : (op = .eql ∨ op = .neq) ∧ K (.b (if op = .eql then c else !c)) h := by
  cases op <;> simp only [eqR] at hK <;> first | (simp [stuckW] at hK; done) | exact ⟨.inl rfl, by simpa using hK⟩ | exact ⟨.inr rfl, by simpa using hK⟩

theorem makeFunc_sound (g : Good G s) {k : FuncId} {first cap : Array Operand} (ho : o.op = .makeFunc (.func k) first cap)
    (hK : K (s.e.put o.dst (.clo k (evs s.e first.toList) (evs s.e cap.toList))) s.h) : Yl (fun _ => True) G s o K := by
  refine value_step g (x := .func (.func k) (first.map s.a.eval) (cap.map s.a.eval)) ?_ ?_ ?_ hK
  · simp [execOp, ho, Instr.makeFunc]
  · simp only [rel]
    exact ⟨_, _, rfl, by simpa using evs_rel g first.toList, by simpa using evs_rel g cap.toList⟩
  · simp [below, evs_wf g]
end
end Go.Cz
