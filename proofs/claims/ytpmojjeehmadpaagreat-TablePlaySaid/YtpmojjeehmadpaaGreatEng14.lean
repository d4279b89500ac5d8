/- Part of the proof of a law of 28: an engine that runs a function over an abstract heap, and what the functions compute; own work. -/
import Derived.Test.YtpmojjeehmadpaaGreatEngB
set_option linter.unusedVariables false
set_option linter.unusedSimpArgs false
set_option linter.unusedSectionVars false
namespace Go.Cz
variable [Inhabited DrawnP]
open Go
set_option linter.unusedSimpArgs false
set_option linter.unusedVariables false
set_option linter.unusedSectionVars false

section
variable {P : Program} {w : World} {ρ : Operand → Value} {o : Oper}
theorem run_callv {c : Call} {f : Operand} {k : FuncId} {fv cv : Array Value} {fn : Func} {b : Code} (ho : o.op = .call c) (hc : c.callee = .value f) (hf : ρ f = .func (.func k) fv cv) (hk : P.funcs[k]? = some fn) (hb : fn.body = some b) (hn : fn.name ≠ "runtime.NumGoroutine") :
    (execOp ρ o).run P w = .ok (.enter k (fv ++ c.args.map ρ ++ cv)) w := by
  have hn' : (fn.name == "runtime.NumGoroutine") = false := by simpa using hn
  simp [execOp, ho, resolve, hc, Deferred.ofValue, hf, invoke, callFunc, hk, hn, hb]
theorem run_len {c : Call} {t : TypeId} {x : Operand} {v : Value} {n : Nat} (ho : o.op = .call c) (hc : c.callee = .builtin .len) (ha : c.args = #[x]) (ht : c.argTypes = #[t]) (hx : ρ x = v)
    (hv : (∃ a c el, v = .slice a n c ∧ P.underlying t = some (.slice el)) ∨ (∃ z, v = .string z ∧ n = z.size ∧ P.underlying t = some .string)) : (execOp ρ o).run P w = .ok (.value (.int .i64 n)) w := by
  rcases hv with ⟨a, c', el, rfl, hu⟩ | ⟨z, rfl, rfl, hu⟩ <;> simp [execOp, ho, resolve, hc, ha, ht, hx, invoke, builtin, Builtin.len_, run_underlying hu, goInt]
theorem run_cap {c : Call} {t : TypeId} {x : Operand} {n m : Nat} {a : Option Addr} {el : TypeId} (ho : o.op = .call c) (hc : c.callee = .builtin .cap) (ha : c.args = #[x]) (ht : c.argTypes = #[t]) (hx : ρ x = .slice a n m)
    (hu : P.underlying t = some (.slice el)) : (execOp ρ o).run P w = .ok (.value (.int .i64 m)) w := by
  simp [execOp, ho, resolve, hc, ha, ht, hx, invoke, builtin, Builtin.cap_, run_underlying hu, goInt]
theorem run_min2 {c : Call} {x y : Operand} {k k' : IntKind} {a b : Int} (ho : o.op = .call c) (hc : c.callee = .builtin .min) (ha : c.args = #[x, y]) (hx : ρ x = .int k a) (hy : ρ y = .int k' b) :
    (execOp ρ o).run P w = .ok (.value (.int k (minI a b))) w := by
  simp [execOp, ho, resolve, hc, ha, hx, hy, invoke, builtin, Builtin.min_, Builtin.min2, minI]
theorem run_max2 {c : Call} {x y : Operand} {k k' : IntKind} {a b : Int} (ho : o.op = .call c) (hc : c.callee = .builtin .max) (ha : c.args = #[x, y]) (hx : ρ x = .int k a) (hy : ρ y = .int k' b) :
    (execOp ρ o).run P w = .ok (.value (.int k (maxI a b))) w := by
  simp [execOp, ho, resolve, hc, ha, hx, hy, invoke, builtin, Builtin.max_, Builtin.max2, maxI]
end

section
variable {G : Gl} {s : St} {K : Env → HProp} {next : Act → World → Prop} {Q : Exit → Act → World → Prop} {o : Oper}

theorem evs_two {e : Env} {l : List Operand} {x y : SV} (h : evs e l = [x, y]) : ∃ a b, l = [a, b] ∧ e.ev a = x ∧ e.ev b = y := by
  match l, h with
  | [a, b], h => simp only [evs, List.cons.injEq, and_true] at h; exact ⟨a, b, rfl, h.1, h.2⟩
theorem evs_one {e : Env} {l : List Operand} {x : SV} (h : evs e l = [x]) : ∃ a, l = [a] ∧ e.ev a = x := by
  match l, h with
  | [a], h => simp only [evs, List.cons.injEq, and_true] at h; exact ⟨a, rfl, h⟩
theorem toList_eq {α : Type} {a : Array α} {l : List α} (h : a.toList = l) : a = l.toArray := by apply Array.ext'; simpa using h

theorem twoInts_spec {l : List SV} {k : IntKind} {a b : Int} (h : twoInts l = some (k, a, b)) : ∃ k', l = [.i k a, .i k' b] := by
  unfold twoInts at h
  split at h
  · cases h; exact ⟨_, rfl⟩
  · cases h
theorem moreInts_spec {l : List SV} {k : IntKind} {a : Int} {m : List Int} (h : moreInts l = some (k, a, m)) : ∃ k' r, l = .i k' a :: r ∧ intsOf r = some m ∧ k' = k := by
  unfold moreInts at h
  split at h
  · rename_i k1 a1 r1
    cases hr : intsOf r1 with
    | none => simp [hr] at h
    | some q => simp [hr] at h; obtain ⟨rfl, rfl, rfl⟩ := h; exact ⟨_, _, rfl, hr, rfl⟩
  · cases h
theorem evs_cons {e : Env} {l : List Operand} {x : SV} {r : List SV} (h : evs e l = x :: r) : ∃ a b, l = a :: b ∧ e.ev a = x ∧ evs e b = r := by
  match l, h with
  | a :: b, h => simp only [evs, List.cons.injEq] at h; exact ⟨a, b, rfl, h.1, h.2⟩
theorem ints_eval (g : Good G s) : ∀ {y : List Operand} {r : List SV} {m : List Int}, intsOf r = some m → evs s.e y = r → ∃ ks : List IntKind, ks.length = m.length ∧ y.map s.a.eval = (ks.zip m).map fun p => Value.int p.1 p.2
  | [], r, m, hr, hy => by
    simp only [evs] at hy; subst hy
    simp [intsOf] at hr; subst hr
    exact ⟨[], rfl, rfl⟩
  | x :: y, r, m, hr, hy => by
    simp only [evs] at hy
    subst hy
    cases hx : s.e.ev x <;> simp only [hx, intsOf] at hr <;> try (cases hr; done)
    rename_i k a
    cases hm : intsOf (evs s.e y) with
    | none => simp [hm] at hr
    | some q =>
      simp [hm] at hr; subst hr
      obtain ⟨ks, h1, h2⟩ := ints_eval g hm rfl
      have h3 := ev_rel g x
      rw [hx] at h3
      simp only [rel] at h3
      exact ⟨k :: ks, by simp [h1], by simp [h2, h3]⟩
theorem run_fold2 {P : Program} {w : World} {k : IntKind} (f : Value → Value → Sem Value) (op : Int → Int → Int) (hf : ∀ a k' b, (f (.int k a) (.int k' b)).run P w = .ok (.int k (op a b)) w) :
    ∀ (m : List Int) (ks : List IntKind) (a : Int), ks.length = m.length → (((ks.zip m).map fun p => Value.int p.1 p.2).foldlM f (.int k a)).run P w = .ok (.int k (foldI op a m)) w
  | [], ks, a, _ => by cases ks <;> simp_all [foldI]
  | b :: m, [], a, h => by simp at h
  | b :: m, k' :: ks, a, h => by
    simp only [List.zip_cons_cons, List.map_cons, List.foldlM_cons, Sem.run_bind, hf, Result.andThen, foldI]
    exact run_fold2 f op hf m ks (op a b) (by simpa using h)
theorem run_minN {P : Program} {w : World} {ρ : Operand → Value} {c : Call} {x : Operand} {y : List Operand} {k k' : IntKind} {a : Int} {m : List Int} (ho : o.op = .call c) (hc : c.callee = .builtin .min) (ha : c.args = (x :: y).toArray) (hx : ρ x = .int k' a ∧ k' = k)
    (hy : ∃ ks : List IntKind, ks.length = m.length ∧ y.map ρ = (ks.zip m).map fun p => Value.int p.1 p.2) : (execOp ρ o).run P w = .ok (.value (.int k (foldI minI a m))) w := by
  obtain ⟨hx, rfl⟩ := hx
  obtain ⟨ks, h1, h2⟩ := hy
  have := run_fold2 (P := P) (w := w) (k := k') Builtin.min2 minI (fun a k' b => by simp [Builtin.min2, minI]) m ks a h1
  simp [execOp, ho, resolve, invoke, hc, ha, builtin, Builtin.min_, hx, h2, this]
theorem run_maxN {P : Program} {w : World} {ρ : Operand → Value} {c : Call} {x : Operand} {y : List Operand} {k k' : IntKind} {a : Int} {m : List Int} (ho : o.op = .call c) (hc : c.callee = .builtin .max) (ha : c.args = (x :: y).toArray) (hx : ρ x = .int k' a ∧ k' = k)
    (hy : ∃ ks : List IntKind, ks.length = m.length ∧ y.map ρ = (ks.zip m).map fun p => Value.int p.1 p.2) : (execOp ρ o).run P w = .ok (.value (.int k (foldI maxI a m))) w := by
  obtain ⟨hx, rfl⟩ := hx
  obtain ⟨ks, h1, h2⟩ := hy
  have := run_fold2 (P := P) (w := w) (k := k') Builtin.max2 maxI (fun a k' b => by simp [Builtin.max2, maxI]) m ks a h1
  simp [execOp, ho, resolve, invoke, hc, ha, builtin, Builtin.max_, hx, h2, this]
theorem appArgs_spec {c : Call} {e : Env} {t : TypeId} {v : Sl} {x : SV} (h : appArgs c e = some (t, v, x)) : ∃ tx, c.argTypes.toList = [t, tx] ∧ evs e c.args.toList = [.sl v, x] := by
  unfold appArgs at h
  split at h
  · rename_i h1 h2; cases h; exact ⟨_, h1, h2⟩
  · cases h
theorem clearArgs_spec {P : Program} {c : Call} {e : Env} {el : TypeId} {v : Sl} (h : clearArgs P c e = some (el, v)) : ∃ t, c.argTypes.toList = [t] ∧ evs e c.args.toList = [.sl v] ∧ P.underlying t = some (.slice el) := by
  unfold clearArgs at h
  split at h
  · rename_i h1 h2
    split at h
    · rename_i hu; cases h; exact ⟨_, h1, h2, hu⟩
    · cases h
  · cases h
theorem copyArgs_spec {P : Program} {c : Call} {e : Env} {el : TypeId} {v r : Sl} (h : copyArgs P c e = some (el, v, r)) : ∃ t u, c.argTypes.toList = [t, u] ∧ evs e c.args.toList = [.sl v, .sl r] ∧ P.underlying t = some (.slice el) ∧ ∃ i, P.info? el = some i := by
  unfold copyArgs at h
  split at h
  · rename_i h1 h2
    split at h
    · rename_i hu
      split at h
      · rename_i i hi; cases h; exact ⟨_, _, h1, h2, hu, i, hi⟩
      · cases h
    · cases h
  · cases h
/-- the caller behind a call -/
theorem after_call (g : Good G s) (hd : ∀ n, o.dst = some n → n < G.N) (hn : Nexts G s K next) {w' : World} {h' : H} {x : SV} {v : Value} (hr : rel G.P (fun _ => 0) x v) (hb : below 0 x = true)
    (hp : Hpart G.P w' h') (hk : Keeps s.w s.h w' h') (hK : K (s.e.put o.dst x) h') : next (s.a.put o.dst v) w' := by
  have g1 : Good G { s with w := w', h := h' } := g.mem hp hk.size (fun b hb h0 => hk.old b hb h0) hk.os hk.tape hk.output hk.drawn
  exact hn _ hK (g1.put (v := x) (x := v) (rel_any hb hr) hd (below_mono (Nat.zero_le _) hb)) (Le.mem.trans (Le.put _ _ _))

theorem callN_yl {C : Ctx} (hC : C.P = G.P) (g : Good G s) {c : Call} (ho : o.op = .call c) {b : Builtin} (hc : c.callee = .builtin b) (hb : isNB b = true)
    (hK : doCall C c s.e (fun v => K (s.e.put o.dst v)) s.h) : Yl (fun _ => True) G s o K := by
  unfold doCall at hK
  · cases b <;> simp [isNB] at hb <;> simp only [hc] at hK
    case len =>
      cases hl : lenArg C.P c s.e with
      | none => simp [hl, stuckW] at hK
      | some n =>
      simp only [hl] at hK
      rw [hC] at hl
      unfold lenArg at hl
      generalize hu : G.P.underlying (c.argTypes.getD 0 0) = u at hl
      split at hl
      · rename_i el v t he2 he3
        obtain ⟨x, hx, hxe⟩ := evs_one he2
        have hr := ev_rel g x
        rw [hxe] at hr
        have ht := toList_eq he3
        rw [ht] at hu
        cases hl
        exact leaf_step g (fun _ => run_len ho hc (toList_eq hx) ht rfl (.inl ⟨_, _, el, by simpa [rel] using hr, by simpa using hu⟩)) (by simp [rel0]) hK
      · rename_i z t he2 he3
        obtain ⟨x, hx, hxe⟩ := evs_one he2
        have hr := ev_rel g x
        rw [hxe] at hr
        have ht := toList_eq he3
        rw [ht] at hu
        cases hl
        exact leaf_step g (fun _ => run_len ho hc (toList_eq hx) ht rfl (.inr ⟨z, by simpa [rel] using hr, rfl, by simpa using hu⟩)) (by simp [rel0]) hK
      · cases hl
    case cap =>
      cases hl : capArg C.P c s.e with
      | none => simp [hl, stuckW] at hK
      | some n =>
      simp only [hl] at hK
      rw [hC] at hl
      unfold capArg at hl
      generalize hu : G.P.underlying (c.argTypes.getD 0 0) = u at hl
      split at hl
      · rename_i el v t he2 he3
        obtain ⟨x, hx, hxe⟩ := evs_one he2
        have hr := ev_rel g x
        rw [hxe] at hr
        have ht := toList_eq he3
        rw [ht] at hu
        cases hl
        exact leaf_step g (fun _ => run_cap ho hc (toList_eq hx) ht (by simpa [rel] using hr) (by simpa using hu)) (by simp [rel0]) hK
      · cases hl
    case min =>
      cases hl : twoInts (evs s.e c.args.toList) with
      | none =>
        simp only [hl] at hK
        cases hm : moreInts (evs s.e c.args.toList) with
        | none => simp [hm, stuckW] at hK
        | some q =>
        obtain ⟨k, a, l⟩ := q
        simp only [hm] at hK
        obtain ⟨k', r, he, hr⟩ := moreInts_spec hm
        obtain ⟨x, y, hxy, hx, hy⟩ := evs_cons he
        have h1 := ev_rel g x
        rw [hx] at h1
        have h2 := ints_eval g hr.1 hy
        exact leaf_step g (fun _ => run_minN ho hc (toList_eq hxy) ⟨by simpa [rel] using h1, hr.2⟩ h2) (by simp [rel0]) hK
      | some q =>
      obtain ⟨k, a, b⟩ := q
      simp only [hl] at hK
      obtain ⟨k', he⟩ := twoInts_spec hl
      obtain ⟨x, y, hxy, hx, hy⟩ := evs_two he
      have h1 := ev_rel g x
      have h2 := ev_rel g y
      rw [hx] at h1; rw [hy] at h2
      exact leaf_step g (fun _ => run_min2 ho hc (toList_eq hxy) (by simpa [rel] using h1) (by simpa [rel] using h2)) (by simp [rel0]) hK
    case max =>
      cases hl : twoInts (evs s.e c.args.toList) with
      | none =>
        simp only [hl] at hK
        cases hm : moreInts (evs s.e c.args.toList) with
        | none => simp [hm, stuckW] at hK
        | some q =>
        obtain ⟨k, a, l⟩ := q
        simp only [hm] at hK
        obtain ⟨k', r, he, hr⟩ := moreInts_spec hm
        obtain ⟨x, y, hxy, hx, hy⟩ := evs_cons he
        have h1 := ev_rel g x
        rw [hx] at h1
        have h2 := ints_eval g hr.1 hy
        exact leaf_step g (fun _ => run_maxN ho hc (toList_eq hxy) ⟨by simpa [rel] using h1, hr.2⟩ h2) (by simp [rel0]) hK
      | some q =>
      obtain ⟨k, a, b⟩ := q
      simp only [hl] at hK
      obtain ⟨k', he⟩ := twoInts_spec hl
      obtain ⟨x, y, hxy, hx, hy⟩ := evs_two he
      have h1 := ev_rel g x
      have h2 := ev_rel g y
      rw [hx] at h1; rw [hy] at h2
      exact leaf_step g (fun _ => run_max2 ho hc (toList_eq hxy) (by simpa [rel] using h1) (by simpa [rel] using h2)) (by simp [rel0]) hK

theorem call_sound {C : Ctx} (hC : C.P = G.P) (hΦ : ∀ en ∈ C.Φ, Linked G.P en) (hQ : LetsOut Q → False) (g : Good G s) (hd : ∀ n, o.dst = some n → n < G.N) (hn : Nexts G s K next) {c : Call} (ho : o.op = .call c)
    (hK : doCall C c s.e (fun v => K (s.e.put o.dst v)) s.h) : o.wp G.P s.a s.w next Q := by
  unfold doCall at hK
  cases hc : c.callee with
  | invoke r m => simp [hc, stuckW] at hK
  | value f =>
    simp only [hc] at hK
    have hf := ev_rel g f
    have hargs := evs_rel g c.args.toList
    have e2 : (c.args.toList.map s.a.eval).toArray = c.args.map s.a.eval := by apply Array.ext'; simp
    generalize hq : s.e.ev f = q at hK hf
    cases q <;> first | (simp [stuckW] at hK; done) | skip
    case clo k first cap =>
      simp only [] at hK
      cases he : findE C.Φ k with
      | none => simp [he, stuckW] at hK
      | some en =>
        simp only [he] at hK
        obtain ⟨hmem, hk⟩ := makes_pcClo.findE_mem he
        have hl := hΦ en hmem
        simp only [rel] at hf
        obtain ⟨fv, cv, hfv, h1, h2⟩ := hf
        have hrel := relL_append (relL_append h1 hargs) h2
        have := callWith_spec (makes_pcClo hΦ) hl hK hrel g.part
        obtain ⟨fn, b, hk1, hk2, hk3⟩ := hl.1
        rw [hk] at this hk1
        unfold Oper.wp
        rw [run_callv ho hc hfv hk1 hk2 hk3]
        have e : (fv.toList ++ c.args.toList.map s.a.eval ++ cv.toList).toArray = fv ++ c.args.map s.a.eval ++ cv := by rw [← e2]; apply Array.ext'; simp
        rw [e] at this
        refine this.mono ?_
        rintro e w' ⟨x, v, h', rfl, k1, k2, k3, k4, k5⟩
        exact after_call g hd hn k1 k2 k4 k5 k3
    case fn sh rsh F =>
      simp only [] at hK
      split at hK
      case isFalse => simp [stuckW] at hK
      rename_i hfit
      simp only [rel] at hf
      obtain ⟨k, fv, cv, hfv, ⟨fn, b, hk1, hk2, hk3⟩, hl⟩ := hf
      obtain ⟨t, hK, hr⟩ := packL0_spec hK
      have hlen := unpackL0_len _ t
      have hlen2 : (unpackL0 (tysOf0 sh) t).length = (cellsOf (evs s.e c.args.toList)).length := by
        rename_i hK0; rw [hlen, packL0_len hK0]
      have hs := shape0_rel hfit hargs (fun us hu => hr G.P _ us hu) hlen2
      have := hl t _ _ s.h s.w hs g.part hK
      unfold Oper.wp
      rw [run_callv ho hc hfv hk1 hk2 hk3]
      rw [e2] at this
      refine this.mono ?_
      rintro e w' ⟨r, v, h', rfl, k1, k2, k4, k5⟩
      refine after_call g hd hn (leaf_wp.rel0_rel k1) ?_ k4 k5 k2
      exact leaf_wp.rel0_below k1
  | builtin b =>
    cases b <;> simp only [hc] at hK <;> first | (simp [stuckW] at hK; done) | skip
    case len => exact (callN_yl hC g ho hc rfl (by unfold doCall; simp only [hc]; exact hK)).wp trivial g hd hn
    case cap => exact (callN_yl hC g ho hc rfl (by unfold doCall; simp only [hc]; exact hK)).wp trivial g hd hn
    case min => exact (callN_yl hC g ho hc rfl (by unfold doCall; simp only [hc]; exact hK)).wp trivial g hd hn
    case max => exact (callN_yl hC g ho hc rfl (by unfold doCall; simp only [hc]; exact hK)).wp trivial g hd hn
    case clear =>
      rw [hC] at hK
      cases hl : clearArgs G.P c s.e with
      | none => simp [hl, stuckW] at hK
      | some q =>
      obtain ⟨el, v⟩ := q
      simp only [hl] at hK
      obtain ⟨t, he1, he2, hu⟩ := clearArgs_spec hl
      obtain ⟨x, hxy, hx⟩ := evs_one he2
      have hcc : c = ⟨.builtin .clear, #[x], #[t]⟩ := by
        have h1 := toList_eq he1; have h2 := toList_eq hxy
        cases c; simp_all
      cases hz : toVs (zeroCells G.P el) with
      | none => simp [hz, stuckW] at hK
      | some z =>
        simp only [hz] at hK
        split at hK
        case isFalse => simp [stuckW] at hK
        rename_i hcond
        simp only [Bool.and_eq_true] at hcond
        exact clear_sound g hd hn (by rw [ho, hcc]) hu hz hcond.1 (Nat.le_of_ble_eq_true hcond.2) hx hK
    case copy =>
      rw [hC] at hK
      cases hl : copyArgs G.P c s.e with
      | none => simp [hl, stuckW] at hK
      | some q =>
      obtain ⟨el, v, r⟩ := q
      simp only [hl] at hK
      obtain ⟨t, u, he1, he2, hu, hinf⟩ := copyArgs_spec hl
      obtain ⟨x, y, hxy, hx, hy⟩ := evs_two he2
      have hcc : c = ⟨.builtin .copy, #[x, y], #[t, u]⟩ := by
        have h1 := toList_eq he1; have h2 := toList_eq hxy
        cases c; simp_all
      exact copy_sound (el' := 0) g hd hn (by rw [ho, hcc]) hu hinf hx hy hK
    case append =>
      cases hl : appArgs c s.e with
      | none => simp [hl, stuckW] at hK
      | some q =>
      obtain ⟨t, v, y⟩ := q
      simp only [hl] at hK
      obtain ⟨tx, he1, he2⟩ := appArgs_spec hl
      obtain ⟨x, y', hxy, hx, hy⟩ := evs_two he2
      have hat := toList_eq he1
      have hag := toList_eq hxy
      have hcc : c = ⟨.builtin .append, #[x, y'], #[t, tx]⟩ := by cases c; simp_all
      cases hu : C.P.underlying t with
      | none => simp [hu, stuckW] at hK
      | some D =>
      cases D <;> simp only [hu] at hK <;> first | (simp [stuckW] at hK; done) | skip
      rename_i el
      cases hz : toVs (zeroCells C.P el) with
      | none => simp [hz, stuckW] at hK
      | some z =>
        simp only [hz] at hK
        split at hK
        case isFalse => simp [stuckW] at hK
        rename_i hcond
        simp only [Bool.and_eq_true] at hcond
        rw [hC] at hu hz hcond hK
        have hp : 0 < z.length := Nat.le_of_ble_eq_true hcond.1.1.2
        have hby : 0 < bytesT G.P el := Nat.le_of_ble_eq_true hcond.1.2
        have htx : ∃ e', G.P.underlying tx = some (.slice e') := by
          have := hcond.2
          simp only [hat] at this
          unfold isSliceT at this
          split at this
          · rename_i e' h; exact ⟨e', by simpa using h⟩
          · cases this
        obtain ⟨e', htx⟩ := htx
        have hy2 := ev_rel g y'
        rw [hy] at hy2
        have hwy := ev_wf g y'
        rw [hy] at hwy
        cases y <;> first | (simp [stuckW] at hK; done) | skip
        case lsl id n =>
          simp only [] at hK
          cases hl : toVs (s.e.loc id) with
          | none => simp [hl, stuckW] at hK
          | some l =>
            simp only [hl] at hK
            split at hK
            case isFalse => simp [stuckW] at hK
            rename_i hlen
            have hlen := Nat.eq_of_beq_eq_true hlen
            simp only [rel] at hy2
            obtain ⟨cp, hy2⟩ := hy2
            unfold Env.loc at hl
            cases hloc : look s.e.locs id with
            | none =>
              simp [hloc, toVs] at hl
              subst hl
              have hn0 : n = 0 := by
                rcases Nat.mul_eq_zero.1 (show n * z.length = 0 from hlen.symm) with h | h
                · exact h
                · omega
              subst hn0
              refine append_sound g hd hn (by rw [ho, hcc]) hu hz hcond.1.1.1 hp hby hx ?_ hK
              rw [hy2]
              exact Src.ofSlice s.w htx _ 0 cp [] (by simp) (by simp) (by simp)
            | some c' =>
              simp only [hloc] at hl
              obtain ⟨h1, h2, h3, cs, T, h4, h5, h6, h7⟩ := g.locs id c' hloc
              have := toVs_rel hl h5
              subst this
              refine append_sound g hd hn (by rw [ho, hcc]) hu hz hcond.1.1.1 hp hby hx ?_ hK
              rw [hy2]
              refine Src.ofSlice s.w htx _ n cp cs.toList hlen ?_ (fun u hu => one_iff (relL_one h5 h6 u hu))
              intro j u hj
              have e : (⟨s.β id, 0, none⟩ : Addr).add j = ⟨s.β id, j, none⟩ := by unfold Addr.add; split <;> simp_all
              rw [e]
              have hj' : cs[j]? = some u := by simpa using hj
              simp [World.cell?, h4, hj']
        case sl u =>
          simp only [] at hK
          unfold rowW at hK
          obtain ⟨l, hrow, r2, hK⟩ := hK
          obtain ⟨r1, r3, r4⟩ := row_cells g.part hrow
          simp only [rel] at hy2
          refine append_sound g hd hn (by rw [ho, hcc]) hu hz hcond.1.1.1 hp hby hx ?_ hK
          rw [hy2]
          cases hua : u.a with
          | none =>
            have : u.len * z.length = 0 := by
              by_cases h0 : 0 < u.len * z.length
              · obtain ⟨q, hq⟩ := r4 h0; rw [hua] at hq; cases hq
              · omega
            have hu0 : u.len = 0 := by
              rcases Nat.mul_eq_zero.1 this with h | h
              · exact h
              · omega
            have hl0 : l = [] := List.length_eq_zero_iff.1 (by omega)
            rw [hu0, hl0]
            exact Src.ofNil s.w htx _
          | some q => exact Src.ofSlice s.w htx q u.len u.cap l r1 (r3 q hua) (fun v hv => one_iff (r2 v hv))
end
end Go.Cz
