/- Part of the proof of a law of 28: an engine that runs a function over an abstract heap, and what the functions compute; own work. -/
import Derived.Test.YtpmojjeehmadpaaGreatEngF
set_option linter.unusedVariables false
set_option linter.unusedSimpArgs false
set_option linter.unusedSectionVars false
namespace Go.Cz
variable [Inhabited DrawnP]
open Go
set_option linter.unusedSimpArgs false
set_option linter.unusedVariables false
set_option linter.unusedSectionVars false

theorem elem_range {n i : Nat} : i ∈ List.range n ↔ i < n := List.mem_range
theorem apartAll_spec {ops : Array Oper} {cl : List Nat} (h : apartAll ops.toList cl = true) {i j : Nat} {oi oj : Oper} (hi : ops[i]? = some oi) (hj : ops[j]? = some oj)
    (hne : j ≠ i) (d1 : depB cl j i = false) (d2 : depB cl i j = false) : oi.apart ops oj = true := by
  unfold apartAll at h
  rw [List.all_eq_true] at h
  have hi' := (Array.getElem?_eq_some_iff.1 hi).1
  have hj' := (Array.getElem?_eq_some_iff.1 hj).1
  have h1 := h i (by simpa using hi')
  rw [List.all_eq_true] at h1
  have h2 := h1 j (by simpa using hj')
  have hb : Nat.beq i j = false := by
    cases hb : Nat.beq i j
    · rfl
    · exact absurd (Nat.eq_of_beq_eq_true hb).symm hne
  have e1 : ops.toList[i]? = some oi := by simpa using hi
  have e2 : ops.toList[j]? = some oj := by simpa using hj
  simp only [hb, d1, d2, Bool.false_or, e1, e2] at h2
  exact apart_of h2

section
variable {G : Gl}
theorem ready_nil {ops : Array Oper} {arr : Array Bool} {L : List Nat} (hL : LR ops arr L) (h : allListed ops.toList.length L = true) : Region.ready .any ops arr = [] := by
  rw [List.eq_nil_iff_forall_not_mem]
  intro i hi
  obtain ⟨_, o, ho, _⟩ := mem_ready.1 hi
  have hr := (hL.ready i).1 hi
  have hlt := (Array.getElem?_eq_some_iff.1 ho).1
  unfold allListed at h
  rw [within_mask, List.all_eq_true] at h
  have := h i (by simpa using hlt)
  have e1 : ops.toList[i]? = some o := by simpa using ho
  simp only [readyB, e1, hasBit_mask, this, Bool.not_true, Bool.false_and] at hr
  cases hr

theorem fold_eq {f g : Nat → Option HProp → Option HProp} (h : ∀ j acc, f j acc = g j acc) {l : List Nat} {hh : H} (hK : (l.foldr f none).getD stuckW hh) : (l.foldr g none).getD stuckW hh := by
  have e : f = g := funext fun j => funext (h j)
  subst e; exact hK
theorem draw_sound {C : Ctx} (hC : C.P = G.P) (hE : ∀ x ∈ C.eqs, eqStructT G.P x.1 x.2 = true) (hΦ : ∀ en ∈ C.Φ, Linked G.P en) {Q : Exit → Act → World → Prop} (hQ : LetsOut Q → False)
    (hP : ∀ c a w, ¬ Q (.panic c) a w) {ops : Array Oper} (hsel : noSelL ops.toList = true) (hap : apartAll ops.toList (clos ops.toList []) = true)
    (hd : ∀ o ∈ ops.toList, ∀ n, o.dst = some n → n < G.N) {K : Env → HProp} : ∀ (f : Nat) (L : List Nat) (arr : Array Bool) (cs : List Rec) (s : St), Good G s → LR ops arr L → Closed ops arr → (∀ c ∈ cs, RecOk s c) →
    drawOps C ops.toList (clos ops.toList []) f L cs s.e K s.h → (∀ s', K s'.e s'.h → Good G s' → Le s s' → Q .normal s'.a s'.w) →
    wpC G.P ops Q (depB (clos ops.toList [])) f (cs.map (Con s)) arr s.a s.w := by
  intro f
  have sel : ∀ (j : Nat) (o : Oper) cs b, ops[j]? = some o → o.op ≠ .select cs b := fun j o cs b ho => noSel_of hsel o (by
    have : ops.toList[j]? = some o := by simpa using ho
    exact List.mem_of_getElem? this) cs b
  induction f with
  | zero =>
    intro L arr cs s g hL hcl hcs hK hn
    simp only [drawOps] at hK
    split at hK
    · rename_i hall
      exact ⟨ready_nil hL hall, hn s hK g (Le.refl s)⟩
    · simp [stuckW] at hK
  | succ f ih =>
    intro L arr cs s g hL hcl hcs hK hn
    simp only [drawOps] at hK
    cases hf : firstN C.P ops.toList L (List.range ops.toList.length) with
    | some io =>
      obtain ⟨i, o⟩ := io
      simp only [hf] at hK
      obtain ⟨ho', hr, hN⟩ := firstN_spec hf
      have hi : ops[i]? = some o := by simpa using ho'
      have hmem : o ∈ ops.toList := List.mem_of_getElem? ho'
      have hready := (hL.ready i).2 hr
      obtain ⟨e1, g1, le1, hlocs, hnloc, hK⟩ := guarded_spec g hK
      -- the step, for any value
      have go : ∀ (S : World → Prop) (v : Value) (sv : SV) (cs' : List Rec), YieldsS G.P ops S o v s.a → S s.w → rel G.P s.β sv v → below e1.nloc sv = true →
          (∀ c ∈ cs', RecOk { s with e := e1.put o.dst sv, a := s.a.put o.dst v } c) →
          (∀ x ∈ cs.map (Con s) ++ [(i, S)], x ∈ cs'.map (Con s) ∨ ∀ w, x.2 w) →
          drawOps C ops.toList (clos ops.toList []) f (i :: L) cs' (e1.put o.dst sv) K s.h → wpC G.P ops Q (depB (clos ops.toList [])) (f + 1) (cs.map (Con s)) arr s.a s.w := by
        intro S v sv cs' hy hs hrel hbel hcs' hsub hK
        have g2 : Good G { s with e := e1.put o.dst sv, a := s.a.put o.dst v } := Good.put (s := { s with e := e1 }) g1 hrel (hd o hmem) hbel
        have le2 : Le s { s with e := e1.put o.dst sv, a := s.a.put o.dst v } := le1.trans (Le.put (s := { s with e := e1 }) _ _ _)
        have H := ih (i :: L) _ cs' _ g2 (hL.set hready) (hcl.set hready) hcs' hK fun s' hK' g' le' => hn s' hK' g' (le2.trans le')
        refine wpC_first hi sel (fun listed j k hc hj hdp => dep_ready listed j k hc hj hdp) (fun j oj hoj hne d1 d2 => apartAll_spec hap hi hoj hne d1 d2)
          (fun c a w h => absurd h (hP _ _ _)) f (cs.map (Con s)) arr s.a s.w hcl hready hy hs (fun c hc => ?_) ?_
        · obtain ⟨c', hc', rfl⟩ := List.mem_map.1 hc
          exact (hcs c' hc').reads g
        · exact wpC_weak f _ _ _ _ _ hsub H
      have keep : ∀ (sv : SV) (v : Value), ∀ c ∈ cs, RecOk { s with e := e1.put o.dst sv, a := s.a.put o.dst v } c := by
        intro sv v c hc
        refine ⟨(hcs c hc).heap, fun id off hp => ?_⟩
        obtain ⟨l, hl, h⟩ := (hcs c hc).loc id off hp
        refine ⟨l, ?_, h⟩
        have : (e1.put o.dst sv).locs = s.e.locs := by rw [← hlocs]; cases o.dst <;> rfl
        show look (e1.put o.dst sv).locs id = some l
        rw [this]; exact hl
      have sub0 : ∀ x ∈ cs.map (Con s) ++ [(i, fun _ : World => True)], x ∈ cs.map (Con s) ∨ ∀ w, x.2 w := by
        intro x hx
        rcases List.mem_append.1 hx with h | h
        · exact .inl h
        · rw [List.mem_singleton] at h
          subst h
          exact .inr fun _ => trivial
      rcases hK with ⟨hw, hK⟩ | ⟨hw, hK⟩
      · have doN : isN C.P o.op = true → doOp C o e1 (fun e' => drawOps C ops.toList (clos ops.toList []) f (i :: L) cs e' K) s.h → wpC G.P ops Q (depB (clos ops.toList [])) (f + 1) (cs.map (Con s)) arr s.a s.w := by
          intro hN hK
          obtain ⟨sv, v, hK, hrel, hbel, hrun⟩ := doOp_yl (s := { s with e := e1 }) hC hE g1 (by rw [← hC]; exact hN) hK
          exact go (fun _ => True) v sv cs (.inl ⟨hw, hrun⟩) trivial hrel hbel (keep sv v) sub0 hK
        cases hop : o.op
        case load t x =>
          simp only [hop] at hK
          rw [hC] at hK
          obtain ⟨pl, sv, v, vs, hK, hrel, hbel, hcells, hreads, hheap, hloc, hrun⟩ := load_yl (s := { s with e := e1 }) g1 hop hK
          cases hv : toVs sv.cells with
          | none => simp [hv, stuckW] at hK
          | some us =>
            simp only [hv] at hK
            have := toVs_rel hv hcells
            subst this
            refine go (fun w => Reads w (pl.addr s.β) vs) v sv (cs ++ [⟨i, pl, vs⟩]) (.inl ⟨hw, hrun⟩) hreads hrel hbel (fun c hc => ?_) (fun x hx => .inl ?_) hK
            · rcases List.mem_append.1 hc with h | h
              · exact keep sv v c h
              · rw [List.mem_singleton] at h
                subst h
                refine ⟨hheap, fun id off hp => ?_⟩
                obtain ⟨c, hc1, hc2⟩ := hloc id off hp
                have hl : (e1.put o.dst sv).locs = e1.locs := by cases o.dst <;> rfl
                refine ⟨c, by show look (e1.put o.dst sv).locs id = some c; rw [hl]; exact hc1, ?_⟩
                show toVs ((c.drop off).take vs.length) = some vs
                rw [← hc2]; exact hv
            · rw [List.map_append]
              exact hx
        all_goals
          have hN' : isN C.P o.op = true := by
            simp only [hop, isLoad, Bool.or_false] at hN
            rw [hop]; exact hN
          refine doN hN' ?_
          simp only [hop] at hK
          exact hK
      · exact go (fun _ => True) undef (.tup []) cs (.inr ⟨hw, rfl⟩) trivial rel_tup0 below_tup0 (keep _ _) sub0 hK
    | none =>
      simp only [hf] at hK
      split at hK
      · rename_i hall
        have hr := ready_nil hL hall
        refine ⟨fun _ => hn s hK g (Le.refl s), fun j hj => ?_⟩
        rw [hr] at hj; cases hj
      · rename_i hall
        let F : Nat → Option HProp := fun j => match ops.toList[j]? with
          | some o => some (guarded ops.toList o s.e
              (fun e => doOp C o e fun e' => sameW e e' (cs.filter fun c => !depB (clos ops.toList []) j c.i) (drawOps C ops.toList (clos ops.toList []) f (j :: L) (cs.filter fun c => !depB (clos ops.toList []) j c.i) e' K))
              (fun e => drawOps C ops.toList (clos ops.toList []) f (j :: L) (cs.filter fun c => !depB (clos ops.toList []) j c.i) (e.put o.dst (.tup [])) K))
          | none => none
        have hK := fold_eq (g := fun j acc => match F j with | some A => drawOps.bothL A acc | none => drawOps.stuckO) (fun j acc => by
          simp only [F]
          cases ops.toList[j]? <;> rfl) hK
        have hK' := fold_both hK
        have hne := fold_ne hK
        refine ⟨fun h0 => ?_, fun j hj => ?_⟩
        · exfalso
          obtain ⟨x, hx⟩ := List.exists_mem_of_ne_nil _ hne
          rw [List.mem_filter] at hx
          have := (hL.ready x).2 hx.2
          rw [h0] at this; cases this
        · obtain ⟨_, o, ho, _⟩ := mem_ready.1 hj
          have ho' : ops.toList[j]? = some o := by simpa using ho
          have hmem : o ∈ ops.toList := List.mem_of_getElem? ho'
          have hlt := (Array.getElem?_eq_some_iff.1 ho).1
          obtain ⟨A, hA, hAh⟩ := hK' j (List.mem_filter.2 ⟨by simpa using hlt, (hL.ready j).1 hj⟩)
          simp only [F, ho', Option.some.injEq] at hA
          subst hA
          obtain ⟨e1, g1, le1, hlocs, hnloc, hK2⟩ := guarded_spec g hAh
          have conv : ∀ (s' : St), Le s s' → ∀ c ∈ cs, Con s' c = Con s c := by
            intro s' le c hc
            unfold Con
            congr 1
            funext w
            congr 1
            cases hp : c.pl with
            | heap a => rfl
            | loc id off =>
              obtain ⟨l, hl, _⟩ := (hcs c hc).loc id off hp
              simp only [Pl.addr, le.beta id (g.locs id l hl).1]
          have fin : ∀ (s' : St), Le s s' → Good G s' → (∀ c ∈ cs.filter (fun c => !depB (clos ops.toList []) j c.i), RecOk s' c) →
              drawOps C ops.toList (clos ops.toList []) f (j :: L) (cs.filter fun c => !depB (clos ops.toList []) j c.i) s'.e K s'.h →
              (∀ c ∈ cs.map (Con s), depB (clos ops.toList []) j c.1 = false → c.2 s'.w) ∧ wpC G.P ops Q (depB (clos ops.toList [])) f ((cs.map (Con s)).filter fun c => !depB (clos ops.toList []) j c.1) (arr.setIfInBounds j true) s'.a s'.w := by
            intro s' le' g' hok hK'
            constructor
            · intro c hc hdp
              obtain ⟨c', hc', rfl⟩ := List.mem_map.1 hc
              have := (hok c' (List.mem_filter.2 ⟨hc', by simpa [Con] using hdp⟩)).reads g'
              have e := conv s' le' c' hc'
              rw [← e]
              exact this
            · have H := ih (j :: L) _ _ s' g' (hL.set hj) (hcl.set hj) hok hK' fun s'' hK'' g'' le'' => hn s'' hK'' g'' (le'.trans le'')
              have e : (cs.map (Con s)).filter (fun c => !depB (clos ops.toList []) j c.1) = (cs.filter fun c => !depB (clos ops.toList []) j c.i).map (Con s') := by
                rw [List.filter_map]
                have : (cs.filter ((fun c : Nat × (World → Prop) => !depB (clos ops.toList []) j c.1) ∘ Con s)) = cs.filter fun c => !depB (clos ops.toList []) j c.i := rfl
                rw [this]
                refine List.map_congr_left fun c hc => ?_
                exact (conv s' le' c (List.mem_filter.1 hc).1).symm
              rw [e]
              exact H
          unfold wpOp
          simp only [ho]
          rcases hK2 with ⟨hw, hK2⟩ | ⟨hw, hK2⟩
          · rw [if_pos hw]
            refine .inl (doOp_sound (s := { s with e := e1 }) hC hE hΦ hQ g1 (hd o hmem) (fun s' hK' g' le' => ?_) hK2)
            obtain ⟨hK', hsame⟩ := sameW_spec hK'
            refine fin s' (le1.trans le') g' (fun c hc => ⟨(hsame c hc).1, fun id off hp => ?_⟩) hK'
            obtain ⟨l, hl, hv⟩ := (hcs c (List.mem_filter.1 hc).1).loc id off hp
            refine ⟨l, ?_, hv⟩
            obtain ⟨pre, hpre⟩ := le'.locs
            have hnk := (hsame c hc).2 id off hp
            have hpre : s'.e.locs = pre ++ e1.locs := hpre
            have hlen : s'.e.locs.length - e1.locs.length = pre.length := by rw [hpre]; simp
            rw [hlen, hpre, newKeys_append] at hnk
            rw [hpre, look_append, look_keys (by simpa using hnk), hlocs]
            exact hl
          · rw [if_neg (by rw [hw]; simp)]
            refine fin { s with e := e1.put o.dst (.tup []), a := s.a.put o.dst undef } (le1.trans (Le.put (s := { s with e := e1 }) _ _ _)) (Good.put (s := { s with e := e1 }) g1 rel_tup0 (hd o hmem) below_tup0) (fun c hc => ?_) hK2
            refine ⟨(hcs c (List.mem_filter.1 hc).1).heap, fun id off hp => ?_⟩
            obtain ⟨l, hl, h⟩ := (hcs c (List.mem_filter.1 hc).1).loc id off hp
            refine ⟨l, ?_, h⟩
            have : (e1.put o.dst (SV.tup [])).locs = s.e.locs := by rw [← hlocs]; cases o.dst <;> rfl
            show look (e1.put o.dst (SV.tup [])).locs id = some l
            rw [this]; exact hl
end
end Go.Cz
