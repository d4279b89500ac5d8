/- Part of the proof of a law of 29: an engine that runs a function over an abstract heap, and what the functions compute; own work. -/
import Derived.Test.YtaoocldgpnmfkaaGreatDoorGA
import Derived.Laws.StructEq
import Derived.Laws.IdiomStrings
import Derived.Laws.BytesString
import Derived.Scope
import Derived.Defers
set_option linter.unusedVariables false
set_option linter.unusedSimpArgs false
set_option linter.unusedSectionVars false
namespace Go.Cz
variable [Inhabited DrawnP]
open Go
set_option linter.unusedSimpArgs false
set_option linter.unusedVariables false
set_option linter.unusedSectionVars false
section
variable {P : Program} {w : World} {ρ : Operand → Value} {o : Oper}
theorem run_callv {c : Call} {f : Operand} {k : FuncId} {fv cv : Array Value} {fn : Func} {b : Code} (ho : o.op = .call c) (hc : c.callee = .value f) (hf : ρ f = .func (.func k) fv cv) (hk : P.funcs[k]? = some fn) (hb : fn.body = some b) (hn : fn.name ≠ "runtime.NumGoroutine") :
    (execOp ρ o).run P w = .ok (.enter k (fv ++ c.args.map ρ ++ cv)) w := by
  have hn' : (fn.name == "runtime.NumGoroutine") = false := by simpa using hn
  simp [execOp, ho, resolve, hc, Deferred.ofValue, hf, invoke, callFunc, hk, hn, hb]
theorem run_method {t : TypeId} {name : String} {k : FuncId} {v : Value} (n : Nat) (h : methK P t name = some k) : (method (n + 1) t v name).run P w = .ok (k, v) w := by
  obtain ⟨i, m, el, hi, hu, hm, hp, hf⟩ := methK_spec h
  simp [method, typeInfo, hi, hm, hp, hf, follow, receiverAt, run_underlying hu, Place.get]
theorem run_inv {c : Call} {r : Operand} {name : String} {t : TypeId} {k : FuncId} {v : Value} {fn : Func} {b : Code} (ho : o.op = .call c) (hc : c.callee = .invoke r name) (hr : ρ r = .iface t v) (hm : methK P t name = some k) (hk : P.funcs[k]? = some fn) (hb : fn.body = some b) (hn : fn.name ≠ "runtime.NumGoroutine") :
    (execOp ρ o).run P w = .ok (.enter k (#[v] ++ c.args.map ρ)) w := by
  have hn' : (fn.name == "runtime.NumGoroutine") = false := by simpa using hn
  have hx : (#[Value.iface t v] ++ c.args.map ρ).extract 1 (#[Value.iface t v] ++ c.args.map ρ).size = c.args.map ρ := by
    apply Array.ext'
    rw [Array.toList_extract, Array.toList_append, List.extract]
    simp only [List.cons_append, List.nil_append, List.drop_succ_cons, List.drop_zero, Array.size_append]
    rw [List.take_of_length_le]
    rw [Array.length_toList, Array.size_map]
    simp
  have h0 : (#[Value.iface t v] ++ c.args.map ρ)[0]? = some (.iface t v) := by simp [Array.getElem?_append]
  have hd : Made.depth = Made.depth - 1 + 1 := by decide
  obtain ⟨n, hn2⟩ : ∃ n, P.types.size + Made.depth = n + 1 := ⟨P.types.size + (Made.depth - 1), by rw [Nat.add_assoc, ← hd]⟩
  have := run_method (P := P) (w := w) (v := v) n hm
  have hcm : (callMethod (.iface t v) name (c.args.map ρ)).run P w = .ok (.enter k (#[v] ++ c.args.map ρ)) w := by
    simp [callMethod, hn2, this, callFunc, hk, hn, hb]
  have hiv : (invoke (.fn (.method name) #[]) (#[Value.iface t v] ++ c.args.map ρ)).run P w = .ok (.enter k (#[v] ++ c.args.map ρ)) w := by
    unfold invoke
    simp only [h0, hx]
    exact hcm
  have he : (execOp ρ o).run P w = (invoke (.fn (.method name) #[]) (#[Value.iface t v] ++ c.args.map ρ)).run P w := by
    simp [execOp, ho, resolve, hc, hr]
  rw [he, hiv]
theorem run_len {c : Call} {t : TypeId} {x : Operand} {v : Value} {n : Nat} (ho : o.op = .call c) (hc : c.callee = .builtin .len) (ha : c.args = #[x]) (ht : c.argTypes = #[t]) (hx : ρ x = v)
    (hv : (∃ a c el, v = .slice a n c ∧ P.underlying t = some (.slice el)) ∨ (∃ z, v = .string z ∧ n = z.size ∧ P.underlying t = some .string)) : (execOp ρ o).run P w = .ok (.value (.int .i64 n)) w := by
  rcases hv with ⟨a, c', el, rfl, hu⟩ | ⟨z, rfl, rfl, hu⟩ <;> simp [execOp, ho, resolve, hc, ha, ht, hx, invoke, builtin, Builtin.len_, run_underlying hu, goInt]
theorem run_cap {c : Call} {t : TypeId} {x : Operand} {n m : Nat} {a : Option Addr} {el : TypeId} (ho : o.op = .call c) (hc : c.callee = .builtin .cap) (ha : c.args = #[x]) (ht : c.argTypes = #[t]) (hx : ρ x = .slice a n m)
    (hu : P.underlying t = some (.slice el)) : (execOp ρ o).run P w = .ok (.value (.int .i64 m)) w := by
  simp [execOp, ho, resolve, hc, ha, ht, hx, invoke, builtin, Builtin.cap_, run_underlying hu, goInt]
theorem run_min2 {c : Call} {x y : Operand} {k k' : IntKind} {a b : Int} (ho : o.op = .call c) (hc : c.callee = .builtin .min) (ha : c.args = #[x, y]) (hx : ρ x = .int k a) (hy : ρ y = .int k' b) :
    (execOp ρ o).run P w = .ok (.value (.int k (minI a b))) w := by
  simp [execOp, ho, resolve, hc, ha, hx, hy, invoke, builtin, Builtin.min_, Builtin.min2, minI]
theorem run_max2 {c : Call} {x y : Operand} {k k' : IntKind} {a b : Int} (ho : o.op = .call c) (hc : c.callee = .builtin .max) (ha : c.args = #[x, y]) (hx : ρ x = .int k a) (hy : ρ y = .int k' b) :
    (execOp ρ o).run P w = .ok (.value (.int k (maxI a b))) w := by
  simp [execOp, ho, resolve, hc, ha, hx, hy, invoke, builtin, Builtin.max_, Builtin.max2, maxI]
end
section
variable {G : Gl} {s : St} {K : Env → HProp} {next : Act → World → Prop} {Q : Exit → Act → World → Prop} {o : Oper}
theorem evs_two {e : Env} {l : List Operand} {x y : SV} (h : evs e l = [x, y]) : ∃ a b, l = [a, b] ∧ e.ev a = x ∧ e.ev b = y := by
  match l, h with
  | [a, b], h => simp only [evs, List.cons.injEq, and_true] at h; exact ⟨a, b, rfl, h.1, h.2⟩
theorem evs_one {e : Env} {l : List Operand} {x : SV} (h : evs e l = [x]) : ∃ a, l = [a] ∧ e.ev a = x := by
  match l, h with
  | [a], h => simp only [evs, List.cons.injEq, and_true] at h; exact ⟨a, rfl, h⟩
theorem toList_eq {α : Type} {a : Array α} {l : List α} (h : a.toList = l) : a = l.toArray := by apply Array.ext'; simpa using h
theorem twoInts_spec {l : List SV} {k : IntKind} {a b : Int} (h : twoInts l = some (k, a, b)) : ∃ k', l = [.i k a, .i k' b] := by
  unfold twoInts at h
  split at h
  · cases h; exact ⟨_, rfl⟩
  · cases h
theorem moreInts_spec {l : List SV} {k : IntKind} {a : Int} {m : List Int} (h : moreInts l = some (k, a, m)) : ∃ k' r, l = .i k' a :: r ∧ intsOf r = some m ∧ k' = k := by
  unfold moreInts at h
  split at h
  · rename_i k1 a1 r1
    cases hr : intsOf r1 with
    | none => simp [hr] at h
    | some q => simp [hr] at h; obtain ⟨rfl, rfl, rfl⟩ := h; exact ⟨_, _, rfl, hr, rfl⟩
  · cases h
theorem evs_cons {e : Env} {l : List Operand} {x : SV} {r : List SV} (h : evs e l = x :: r) : ∃ a b, l = a :: b ∧ e.ev a = x ∧ evs e b = r := by
  match l, h with
  | a :: b, h => simp only [evs, List.cons.injEq] at h; exact ⟨a, b, rfl, h.1, h.2⟩
theorem ints_eval (g : Good G s) : ∀ {y : List Operand} {r : List SV} {m : List Int}, intsOf r = some m → evs s.e y = r → ∃ ks : List IntKind, ks.length = m.length ∧ y.map s.a.eval = (ks.zip m).map fun p => Value.int p.1 p.2
  | [], r, m, hr, hy => by
    simp only [evs] at hy; subst hy
    simp [intsOf] at hr; subst hr
    exact ⟨[], rfl, rfl⟩
  | x :: y, r, m, hr, hy => by
    simp only [evs] at hy
    subst hy
    cases hx : s.e.ev x <;> simp only [hx, intsOf] at hr <;> try (cases hr; done)
    rename_i k a
    cases hm : intsOf (evs s.e y) with
    | none => simp [hm] at hr
    | some q =>
      simp [hm] at hr; subst hr
      obtain ⟨ks, h1, h2⟩ := ints_eval g hm rfl
      have h3 := ev_rel g x
      rw [hx] at h3
      simp only [rel] at h3
      exact ⟨k :: ks, by simp [h1], by simp [h2, h3]⟩
theorem run_fold2 {P : Program} {w : World} {k : IntKind} (f : Value → Value → Sem Value) (op : Int → Int → Int) (hf : ∀ a k' b, (f (.int k a) (.int k' b)).run P w = .ok (.int k (op a b)) w) :
    ∀ (m : List Int) (ks : List IntKind) (a : Int), ks.length = m.length → (((ks.zip m).map fun p => Value.int p.1 p.2).foldlM f (.int k a)).run P w = .ok (.int k (foldI op a m)) w
  | [], ks, a, _ => by cases ks <;> simp_all [foldI]
  | b :: m, [], a, h => by simp at h
  | b :: m, k' :: ks, a, h => by
    simp only [List.zip_cons_cons, List.map_cons, List.foldlM_cons, Sem.run_bind, hf, Result.andThen, foldI]
    exact run_fold2 f op hf m ks (op a b) (by simpa using h)
theorem run_minN {P : Program} {w : World} {ρ : Operand → Value} {c : Call} {x : Operand} {y : List Operand} {k k' : IntKind} {a : Int} {m : List Int} (ho : o.op = .call c) (hc : c.callee = .builtin .min) (ha : c.args = (x :: y).toArray) (hx : ρ x = .int k' a ∧ k' = k)
    (hy : ∃ ks : List IntKind, ks.length = m.length ∧ y.map ρ = (ks.zip m).map fun p => Value.int p.1 p.2) : (execOp ρ o).run P w = .ok (.value (.int k (foldI minI a m))) w := by
  obtain ⟨hx, rfl⟩ := hx
  obtain ⟨ks, h1, h2⟩ := hy
  have := run_fold2 (P := P) (w := w) (k := k') Builtin.min2 minI (fun a k' b => by simp [Builtin.min2, minI]) m ks a h1
  simp [execOp, ho, resolve, invoke, hc, ha, builtin, Builtin.min_, hx, h2, this]
theorem run_maxN {P : Program} {w : World} {ρ : Operand → Value} {c : Call} {x : Operand} {y : List Operand} {k k' : IntKind} {a : Int} {m : List Int} (ho : o.op = .call c) (hc : c.callee = .builtin .max) (ha : c.args = (x :: y).toArray) (hx : ρ x = .int k' a ∧ k' = k)
    (hy : ∃ ks : List IntKind, ks.length = m.length ∧ y.map ρ = (ks.zip m).map fun p => Value.int p.1 p.2) : (execOp ρ o).run P w = .ok (.value (.int k (foldI maxI a m))) w := by
  obtain ⟨hx, rfl⟩ := hx
  obtain ⟨ks, h1, h2⟩ := hy
  have := run_fold2 (P := P) (w := w) (k := k') Builtin.max2 maxI (fun a k' b => by simp [Builtin.max2, maxI]) m ks a h1
  simp [execOp, ho, resolve, invoke, hc, ha, builtin, Builtin.max_, hx, h2, this]
theorem appArgs_spec {c : Call} {e : Env} {t : TypeId} {v : Sl} {x : SV} (h : appArgs c e = some (t, v, x)) : ∃ tx, c.argTypes.toList = [t, tx] ∧ evs e c.args.toList = [.sl v, x] := by
  unfold appArgs at h
  split at h
  · rename_i h1 h2; cases h; exact ⟨_, h1, h2⟩
  · cases h
theorem clearArgs_spec {P : Program} {c : Call} {e : Env} {el : TypeId} {v : Sl} (h : clearArgs P c e = some (el, v)) : ∃ t, c.argTypes.toList = [t] ∧ evs e c.args.toList = [.sl v] ∧ P.underlying t = some (.slice el) := by
  unfold clearArgs at h
  split at h
  · rename_i h1 h2
    split at h
    · rename_i hu; cases h; exact ⟨_, h1, h2, hu⟩
    · cases h
  · cases h
theorem copyArgs_spec {P : Program} {c : Call} {e : Env} {el : TypeId} {v r : Sl} (h : copyArgs P c e = some (el, v, r)) : ∃ t u, c.argTypes.toList = [t, u] ∧ evs e c.args.toList = [.sl v, .sl r] ∧ P.underlying t = some (.slice el) ∧ ∃ i, P.info? el = some i := by
  unfold copyArgs at h
  split at h
  · rename_i h1 h2
    split at h
    · rename_i hu
      split at h
      · rename_i i hi; cases h; exact ⟨_, _, h1, h2, hu, i, hi⟩
      · cases h
    · cases h
  · cases h
/-- the caller behind a call -/
theorem after_call (g : Good G s) (hd : ∀ n, o.dst = some n → n < G.N) (hn : Nexts G s K next) {w' : World} {h' : H} {x : SV} {v : Value} (hr : rel G.P (fun _ => 0) x v) (hb : below 0 x = true)
    (hp : Hpart G.P w' h') (hk : Keeps s.w s.h w' h') (hK : K (s.e.put o.dst x) h') : next (s.a.put o.dst v) w' := by
  have g1 : Good G { s with w := w', h := h' } := g.mem hp hk.size (fun b hb h0 => hk.old b hb h0) hk.os hk.tape hk.output hk.drawn
  exact hn _ hK (g1.put (v := x) (x := v) (rel_any hb hr) hd (below_mono (Nat.zero_le _) hb)) (Le.mem.trans (Le.put _ _ _))
theorem callN_yl {C : Ctx} (hC : C.P = G.P) (g : Good G s) {c : Call} (ho : o.op = .call c) {b : Builtin} (hc : c.callee = .builtin b) (hb : isNB b = true) (hm : b = .len → isMapT C.P (c.argTypes.getD 0 0) = false)
    (hK : doCall C c s.e (fun v => K (s.e.put o.dst v)) s.h) : Yl (fun _ => True) G s o K := by
  unfold doCall at hK
  · cases b <;> simp [isNB] at hb <;> simp only [hc] at hK
    case len =>
      cases hl : lenArg C.P c s.e with
      | none =>
        simp only [hl] at hK
        cases hq : mapArg C.P c s.e with
        | none => simp [hq, stuckW] at hK
        | some r =>
          unfold mapArg at hq
          split at hq
          · rename_i h1 h2
            have ht := toList_eq h2
            have hm := hm rfl
            rw [ht] at hm
            rename_i t
            have e : (#[t] : Array TypeId).getD 0 0 = t := rfl
            have hm : isMapT C.P t = false := hm
            rw [hm] at hq
            simp at hq
          · cases hq
      | some n =>
      simp only [hl] at hK
      rw [hC] at hl
      unfold lenArg at hl
      generalize hu : G.P.underlying (c.argTypes.getD 0 0) = u at hl
      split at hl
      · rename_i el v t he2 he3
        obtain ⟨x, hx, hxe⟩ := evs_one he2
        have hr := ev_rel g x
        rw [hxe] at hr
        have ht := toList_eq he3
        rw [ht] at hu
        cases hl
        exact leaf_step g (fun _ => run_len ho hc (toList_eq hx) ht rfl (.inl ⟨_, _, el, by simpa [rel] using hr, by simpa using hu⟩)) (by simp [rel0]) hK
      · rename_i z t he2 he3
        obtain ⟨x, hx, hxe⟩ := evs_one he2
        have hr := ev_rel g x
        rw [hxe] at hr
        have ht := toList_eq he3
        rw [ht] at hu
        cases hl
        exact leaf_step g (fun _ => run_len ho hc (toList_eq hx) ht rfl (.inr ⟨z, by simpa [rel] using hr, rfl, by simpa using hu⟩)) (by simp [rel0]) hK
      · cases hl
    case cap =>
      cases hl : capArg C.P c s.e with
      | none => simp [hl, stuckW] at hK
      | some n =>
      simp only [hl] at hK
      rw [hC] at hl
      unfold capArg at hl
      generalize hu : G.P.underlying (c.argTypes.getD 0 0) = u at hl
      split at hl
      · rename_i el v t he2 he3
        obtain ⟨x, hx, hxe⟩ := evs_one he2
        have hr := ev_rel g x
        rw [hxe] at hr
        have ht := toList_eq he3
        rw [ht] at hu
        cases hl
        exact leaf_step g (fun _ => run_cap ho hc (toList_eq hx) ht (by simpa [rel] using hr) (by simpa using hu)) (by simp [rel0]) hK
      · cases hl
    case min =>
      cases hl : twoInts (evs s.e c.args.toList) with
      | none =>
        simp only [hl] at hK
        cases hm : moreInts (evs s.e c.args.toList) with
        | none => simp [hm, stuckW] at hK
        | some q =>
        obtain ⟨k, a, l⟩ := q
        simp only [hm] at hK
        obtain ⟨k', r, he, hr⟩ := moreInts_spec hm
        obtain ⟨x, y, hxy, hx, hy⟩ := evs_cons he
        have h1 := ev_rel g x
        rw [hx] at h1
        have h2 := ints_eval g hr.1 hy
        exact leaf_step g (fun _ => run_minN ho hc (toList_eq hxy) ⟨by simpa [rel] using h1, hr.2⟩ h2) (by simp [rel0]) hK
      | some q =>
      obtain ⟨k, a, b⟩ := q
      simp only [hl] at hK
      obtain ⟨k', he⟩ := twoInts_spec hl
      obtain ⟨x, y, hxy, hx, hy⟩ := evs_two he
      have h1 := ev_rel g x
      have h2 := ev_rel g y
      rw [hx] at h1; rw [hy] at h2
      exact leaf_step g (fun _ => run_min2 ho hc (toList_eq hxy) (by simpa [rel] using h1) (by simpa [rel] using h2)) (by simp [rel0]) hK
    case max =>
      cases hl : twoInts (evs s.e c.args.toList) with
      | none =>
        simp only [hl] at hK
        cases hm : moreInts (evs s.e c.args.toList) with
        | none => simp [hm, stuckW] at hK
        | some q =>
        obtain ⟨k, a, l⟩ := q
        simp only [hm] at hK
        obtain ⟨k', r, he, hr⟩ := moreInts_spec hm
        obtain ⟨x, y, hxy, hx, hy⟩ := evs_cons he
        have h1 := ev_rel g x
        rw [hx] at h1
        have h2 := ints_eval g hr.1 hy
        exact leaf_step g (fun _ => run_maxN ho hc (toList_eq hxy) ⟨by simpa [rel] using h1, hr.2⟩ h2) (by simp [rel0]) hK
      | some q =>
      obtain ⟨k, a, b⟩ := q
      simp only [hl] at hK
      obtain ⟨k', he⟩ := twoInts_spec hl
      obtain ⟨x, y, hxy, hx, hy⟩ := evs_two he
      have h1 := ev_rel g x
      have h2 := ev_rel g y
      rw [hx] at h1; rw [hy] at h2
      exact leaf_step g (fun _ => run_max2 ho hc (toList_eq hxy) (by simpa [rel] using h1) (by simpa [rel] using h2)) (by simp [rel0]) hK
theorem lenArg_map {P : Program} {c : Call} {e : Env} {n : Int} (h : lenArg P c e = some n) : isMapT P (c.argTypes.getD 0 0) = false := by
  unfold lenArg at h
  unfold isMapT
  split at h
  · rename_i hu _ _; rw [hu]
  · rename_i hu _ _; rw [hu]
  · cases h
theorem call_sound {C : Ctx} (hC : C.P = G.P) (hΦ : ∀ en ∈ C.Φ, Linked G.P en) (hQ : LetsOut Q → False) (g : Good G s) (hd : ∀ n, o.dst = some n → n < G.N) (hn : Nexts G s K next) {c : Call} (ho : o.op = .call c)
    (hK : doCall C c s.e (fun v => K (s.e.put o.dst v)) s.h) : o.wp G.P s.a s.w next Q := by
  unfold doCall at hK
  cases hc : c.callee with
  | invoke r m =>
    simp only [hc] at hK
    have hf := ev_rel g r
    have hargs := evs_rel g c.args.toList
    have e2 : (c.args.toList.map s.a.eval).toArray = c.args.map s.a.eval := by apply Array.ext'; simp
    generalize hq : s.e.ev r = q at hK hf
    cases q <;> first | (simp [stuckW] at hK; done) | skip
    rename_i x
    simp only [] at hK
    unfold ifcW at hK
    obtain ⟨T, a, rfl, hK⟩ := hK
    simp only [rel, ifcV] at hf
    have key : ∀ (l : List Nat), invGo C m (evs s.e c.args.toList) T a (fun v => K (s.e.put o.dst v)) l s.h → o.wp G.P s.a s.w next Q := by
      intro l
      induction l with
      | nil => intro hK; simp [invGo, stuckW] at hK
      | cons d l ih =>
        intro hK
        simp only [invGo] at hK
        cases hm : methK C.P d m with
        | none => simp [hm, stuckW] at hK
        | some k => cases he : findE C.Φ k with
          | none => simp [hm, he, stuckW] at hK
          | some en =>
            simp only [hm, he] at hK
            unfold iteW eqN at hK
            by_cases hT : T = d
            · subst hT
              rw [if_pos (by simp)] at hK
              rw [hC] at hm
              obtain ⟨hmem, hk⟩ := makes_pcClo.findE_mem he
              have hl := hΦ en hmem
              have hrel : relL G.P s.β (.p a :: evs s.e c.args.toList) (.pointer a :: c.args.toList.map s.a.eval) := relL_cons.2 ⟨_, _, rfl, by simp [rel], hargs⟩
              have := callWith_spec (makes_pcClo hΦ) hl hK hrel g.part
              obtain ⟨fn, b, hk1, hk2, hk3⟩ := hl.1
              rw [hk] at this hk1
              unfold Oper.wp
              rw [run_inv ho hc hf hm hk1 hk2 hk3]
              have e : (Value.pointer a :: c.args.toList.map s.a.eval).toArray = #[Value.pointer a] ++ c.args.map s.a.eval := by rw [← e2]; apply Array.ext'; simp
              rw [e] at this
              refine this.mono ?_
              rintro e w' ⟨x, v, h', rfl, k1, k2, k3, k4, k5⟩
              exact after_call g hd hn k1 k2 k4 k5 k3
            · rw [if_neg (by simpa using hT)] at hK
              exact ih hK
    exact key _ hK
  | value f =>
    simp only [hc] at hK
    have hf := ev_rel g f
    have hargs := evs_rel g c.args.toList
    have e2 : (c.args.toList.map s.a.eval).toArray = c.args.map s.a.eval := by apply Array.ext'; simp
    generalize hq : s.e.ev f = q at hK hf
    cases q <;> first | (simp [stuckW] at hK; done) | skip
    case clo k first cap =>
      simp only [] at hK
      cases he : findE C.Φ k with
      | none =>
        simp only [he] at hK
        cases hx : extK C.P k with
        | none => simp [hx, stuckW] at hK
        | some x =>
          cases first <;> cases cap <;> simp only [hx] at hK <;> first | (simp [stuckW] at hK; done) | skip
          rw [hC] at hx
          simp only [rel] at hf
          obtain ⟨fv, cv, hfv, h1, h2⟩ := hf
          rw [relL_nil] at h1 h2
          have e1 : fv = #[] := by apply Array.ext'; simpa using h1
          have e2 : cv = #[] := by apply Array.ext'; simpa using h2
          subst e1; subst e2
          exact ext_sound g hd hn ho hc hfv hx hK
      | some en =>
        simp only [he] at hK
        obtain ⟨hmem, hk⟩ := makes_pcClo.findE_mem he
        have hl := hΦ en hmem
        simp only [rel] at hf
        obtain ⟨fv, cv, hfv, h1, h2⟩ := hf
        have hrel := relL_append (relL_append h1 hargs) h2
        have := callWith_spec (makes_pcClo hΦ) hl hK hrel g.part
        obtain ⟨fn, b, hk1, hk2, hk3⟩ := hl.1
        rw [hk] at this hk1
        unfold Oper.wp
        rw [run_callv ho hc hfv hk1 hk2 hk3]
        have e : (fv.toList ++ c.args.toList.map s.a.eval ++ cv.toList).toArray = fv ++ c.args.map s.a.eval ++ cv := by rw [← e2]; apply Array.ext'; simp
        rw [e] at this
        refine this.mono ?_
        rintro e w' ⟨x, v, h', rfl, k1, k2, k3, k4, k5⟩
        exact after_call g hd hn k1 k2 k4 k5 k3
    case fk x =>
      simp only [] at hK
      unfold fkW at hK
      obtain ⟨k, rfl, hK⟩ := hK
      simp only [rel, fkV] at hf
      have key : ∀ (l : List Nat), fkGo C (evs s.e c.args.toList) k (fun v => K (s.e.put o.dst v)) l s.h → o.wp G.P s.a s.w next Q := by
        intro l
        induction l with
        | nil => intro hK; simp [fkGo, stuckW] at hK
        | cons d l ih =>
          intro hK
          simp only [fkGo] at hK
          cases he : findE C.Φ d with
          | none => simp [he, stuckW] at hK
          | some en =>
            simp only [he] at hK
            unfold iteW eqN at hK
            by_cases hT : k = d
            · subst hT
              rw [if_pos (by simp)] at hK
              obtain ⟨hmem, hk⟩ := makes_pcClo.findE_mem he
              have hl := hΦ en hmem
              have := callWith_spec (makes_pcClo hΦ) hl hK hargs g.part
              obtain ⟨fn, b, hk1, hk2, hk3⟩ := hl.1
              rw [hk] at this hk1
              unfold Oper.wp
              rw [run_callv ho hc hf hk1 hk2 hk3]
              have e : (c.args.toList.map s.a.eval).toArray = #[] ++ c.args.map s.a.eval ++ #[] := by rw [← e2]; apply Array.ext'; simp
              rw [e] at this
              refine this.mono ?_
              rintro e w' ⟨x, v, h', rfl, k1, k2, k3, k4, k5⟩
              exact after_call g hd hn k1 k2 k4 k5 k3
            · rw [if_neg (by simpa using hT)] at hK
              exact ih hK
      exact key _ hK
    case fn sh rsh F =>
      simp only [] at hK
      split at hK
      case isFalse => simp [stuckW] at hK
      rename_i hfit
      simp only [rel] at hf
      obtain ⟨k, fv, cv, hfv, ⟨fn, b, hk1, hk2, hk3⟩, hl⟩ := hf
      obtain ⟨t, hK, hr⟩ := packL0_spec hK
      have hlen := unpackL0_len _ t
      have hlen2 : (unpackL0 (tysOf0 sh) t).length = (cellsOf (evs s.e c.args.toList)).length := by
        rename_i hK0; rw [hlen, packL0_len hK0]
      have hs := shape0_rel hfit hargs (fun us hu => hr G.P _ us hu) hlen2
      have := hl t _ _ s.h s.w hs g.part hK
      unfold Oper.wp
      rw [run_callv ho hc hfv hk1 hk2 hk3]
      rw [e2] at this
      refine this.mono ?_
      rintro e w' ⟨r, v, h', rfl, k1, k2, k4, k5⟩
      refine after_call g hd hn (leaf_wp.rel0_rel k1) ?_ k4 k5 k2
      exact leaf_wp.rel0_below k1
  | builtin b =>
    cases b <;> simp only [hc] at hK <;> first | (simp [stuckW] at hK; done) | skip
    case len =>
      cases hl : lenArg C.P c s.e with
      | some n => exact (callN_yl hC g ho hc rfl (fun _ => lenArg_map hl) (by unfold doCall; simp only [hc]; exact hK)).wp trivial g hd hn
      | none =>
        simp only [hl] at hK
        cases hq : mapArg C.P c s.e with
        | none => simp [hq, stuckW] at hK
        | some r =>
          simp only [hq] at hK
          rw [hC] at hq
          unfold mapArg at hq
          split at hq
          · rename_i r' t h1 h2
            split at hq
            · rename_i hmt
              cases hq
              obtain ⟨x, hxy, hx⟩ := evs_one h1
              have hcc : c = ⟨.builtin .len, #[x], #[t]⟩ := by
                have h1 := toList_eq h2; have h2 := toList_eq hxy
                cases c; simp_all
              exact lenM_sound g hd hn (by rw [ho, hcc]) hmt hx hK
            · cases hq
          · cases hq
    case delete =>
      cases hq : delArgs C c s.e with
      | none => simp [hq, stuckW] at hK
      | some q =>
        obtain ⟨r, kt, key⟩ := q
        simp only [hq] at hK
        unfold delArgs at hq
        split at hq
        · rename_i r' y t u h1 h2
          split at hq
          · rename_i k el key' hu hkey
            split at hq
            · rename_i hku
              split at hq
              · rename_i kt' hkt
                cases hq
                have hku := Nat.eq_of_beq_eq_true hku
                subst hku
                obtain ⟨x, y', hxy, hx, hy⟩ := evs_two h1
                subst hy
                have hcc : c = ⟨.builtin .delete, #[x, y'], #[t, k]⟩ := by
                  have h1 := toList_eq h2; have h2 := toList_eq hxy
                  cases c; simp_all
                have hkt := keyTC_spec hkt
                rw [hC] at hkt hu
                exact delete_sound g hd hn (by rw [ho, hcc]) hu hkt hx hkey hK
              · cases hq
            · cases hq
          · cases hq
        · cases hq
    case cap => exact (callN_yl hC g ho hc rfl (fun e => by cases e) (by unfold doCall; simp only [hc]; exact hK)).wp trivial g hd hn
    case min => exact (callN_yl hC g ho hc rfl (fun e => by cases e) (by unfold doCall; simp only [hc]; exact hK)).wp trivial g hd hn
    case max => exact (callN_yl hC g ho hc rfl (fun e => by cases e) (by unfold doCall; simp only [hc]; exact hK)).wp trivial g hd hn
    case clear =>
      rw [hC] at hK
      cases hl : clearArgs G.P c s.e with
      | none => simp [hl, stuckW] at hK
      | some q =>
      obtain ⟨el, v⟩ := q
      simp only [hl] at hK
      obtain ⟨t, he1, he2, hu⟩ := clearArgs_spec hl
      obtain ⟨x, hxy, hx⟩ := evs_one he2
      have hcc : c = ⟨.builtin .clear, #[x], #[t]⟩ := by
        have h1 := toList_eq he1; have h2 := toList_eq hxy
        cases c; simp_all
      cases hz : toVs (zeroCells G.P el) with
      | none => simp [hz, stuckW] at hK
      | some z =>
        simp only [hz] at hK
        split at hK
        case isFalse => simp [stuckW] at hK
        rename_i hcond
        simp only [Bool.and_eq_true] at hcond
        exact clear_sound g hd hn (by rw [ho, hcc]) hu hz hcond.1 (Nat.le_of_ble_eq_true hcond.2) hx hK
    case copy =>
      rw [hC] at hK
      cases hl : copyArgs G.P c s.e with
      | none => simp [hl, stuckW] at hK
      | some q =>
      obtain ⟨el, v, r⟩ := q
      simp only [hl] at hK
      obtain ⟨t, u, he1, he2, hu, hinf⟩ := copyArgs_spec hl
      obtain ⟨x, y, hxy, hx, hy⟩ := evs_two he2
      have hcc : c = ⟨.builtin .copy, #[x, y], #[t, u]⟩ := by
        have h1 := toList_eq he1; have h2 := toList_eq hxy
        cases c; simp_all
      exact copy_sound (el' := 0) g hd hn (by rw [ho, hcc]) hu hinf hx hy hK
    case append =>
      cases hl : appArgs c s.e with
      | none => simp [hl, stuckW] at hK
      | some q =>
      obtain ⟨t, v, y⟩ := q
      simp only [hl] at hK
      obtain ⟨tx, he1, he2⟩ := appArgs_spec hl
      obtain ⟨x, y', hxy, hx, hy⟩ := evs_two he2
      have hat := toList_eq he1
      have hag := toList_eq hxy
      have hcc : c = ⟨.builtin .append, #[x, y'], #[t, tx]⟩ := by cases c; simp_all
      cases hu : C.P.underlying t with
      | none => simp [hu, stuckW] at hK
      | some D =>
      cases D <;> simp only [hu] at hK <;> first | (simp [stuckW] at hK; done) | skip
      rename_i el
      cases hz : toVs (zeroCells C.P el) with
      | none => simp [hz, stuckW] at hK
      | some z =>
        simp only [hz] at hK
        split at hK
        case isFalse => simp [stuckW] at hK
        rename_i hcond
        simp only [Bool.and_eq_true] at hcond
        rw [hC] at hu hz hcond hK
        have hp : 0 < z.length := Nat.le_of_ble_eq_true hcond.1.1.2
        have hby : 0 < bytesT G.P el := Nat.le_of_ble_eq_true hcond.1.2
        have htx : ∃ e', G.P.underlying tx = some (.slice e') := by
          have := hcond.2
          simp only [hat] at this
          unfold isSliceT at this
          split at this
          · rename_i e' h; exact ⟨e', by simpa using h⟩
          · cases this
        obtain ⟨e', htx⟩ := htx
        have hy2 := ev_rel g y'
        rw [hy] at hy2
        have hwy := ev_wf g y'
        rw [hy] at hwy
        cases y <;> first | (simp [stuckW] at hK; done) | skip
        case lsl id n =>
          simp only [] at hK
          cases hl : toVs (s.e.loc id) with
          | none => simp [hl, stuckW] at hK
          | some l =>
            simp only [hl] at hK
            split at hK
            case isFalse => simp [stuckW] at hK
            rename_i hlen
            have hlen := Nat.eq_of_beq_eq_true hlen
            simp only [rel] at hy2
            obtain ⟨cp, hy2⟩ := hy2
            unfold Env.loc at hl
            cases hloc : look s.e.locs id with
            | none =>
              simp [hloc, toVs] at hl
              subst hl
              have hn0 : n = 0 := by
                rcases Nat.mul_eq_zero.1 (show n * z.length = 0 from hlen.symm) with h | h
                · exact h
                · omega
              subst hn0
              refine append_sound g hd hn (by rw [ho, hcc]) hu hz hcond.1.1.1 hp hby hx ?_ hK
              rw [hy2]
              exact Src.ofSlice s.w htx _ 0 cp [] (by simp) (by simp) (by simp)
            | some c' =>
              simp only [hloc] at hl
              obtain ⟨h1, h2, h3, cs, T, h4, h5, h6, h7⟩ := g.locs id c' hloc
              have := toVs_rel hl h5
              subst this
              refine append_sound g hd hn (by rw [ho, hcc]) hu hz hcond.1.1.1 hp hby hx ?_ hK
              rw [hy2]
              refine Src.ofSlice s.w htx _ n cp cs.toList hlen ?_ (fun u hu => one_iff (relL_one h5 h6 u hu))
              intro j u hj
              have e : (⟨s.β id, 0, none⟩ : Addr).add j = ⟨s.β id, j, none⟩ := by unfold Addr.add; split <;> simp_all
              rw [e]
              have hj' : cs[j]? = some u := by simpa using hj
              simp [World.cell?, h4, hj']
        case sl u =>
          simp only [] at hK
          unfold rowW at hK
          obtain ⟨l, hrow, r2, hK⟩ := hK
          obtain ⟨r1, r3, r4⟩ := row_cells g.part hrow
          simp only [rel] at hy2
          refine append_sound g hd hn (by rw [ho, hcc]) hu hz hcond.1.1.1 hp hby hx ?_ hK
          rw [hy2]
          cases hua : u.a with
          | none =>
            have : u.len * z.length = 0 := by
              by_cases h0 : 0 < u.len * z.length
              · obtain ⟨q, hq⟩ := r4 h0; rw [hua] at hq; cases hq
              · omega
            have hu0 : u.len = 0 := by
              rcases Nat.mul_eq_zero.1 this with h | h
              · exact h
              · omega
            have hl0 : l = [] := List.length_eq_zero_iff.1 (by omega)
            rw [hu0, hl0]
            exact Src.ofNil s.w htx _
          | some q => exact Src.ofSlice s.w htx q u.len u.cap l r1 (r3 q hua) (fun v hv => one_iff (r2 v hv))
end
end Go.Cz
namespace Go.Cz
variable [Inhabited DrawnP]
open Go
set_option linter.unusedSimpArgs false
set_option linter.unusedVariables false
set_option linter.unusedSectionVars false
section
variable {P : Program} {w : World}
theorem eqT {t : TypeId} {n : Nat} (h : eqStructT P t n = true) : ∃ fs, P.underlying t = some (.struct fs) ∧ fs.toList.length = n ∧ intFields P 0 fs.toList = true ∧ P.stoodInHeld t = false ∧ P.eqGuardType P.depth t = false := by
  unfold eqStructT at h
  split at h
  · rename_i fs hfs
    simp only [Bool.and_eq_true, Bool.not_eq_true'] at h
    exact ⟨fs, hfs, Nat.eq_of_beq_eq_true h.1.1.1, h.1.1.2, h.1.2, h.2⟩
  · cases h
theorem eqPairs_cons (a b : Int) (r : List (Int × Int)) : eqPairs ((a, b) :: r) = (eqI a b && eqPairs r) := by
  cases r <;> simp [eqPairs]
theorem run_part_int {t : TypeId} {k : IntKind} {cs : Array Value} {n : Nat} {v : Value} (ht : P.underlying t = some (.int k)) (hv : cs[n]? = some v) : (part t cs n).run P w = .ok v w := by
  have : isAggT P t = false := by simp [isAggT, ht]
  simp [part, run_isAggT ht, this, hv]
theorem run_eqFields_ints {β : Nat → Nat} (d : Nat) (xs ys : Array Value) : ∀ (fs : List Field) (n : Nat) (la lb : List SV) (l : List (Int × Int)), intFields P n fs = true → eqLeaves la lb = some l → la.length = fs.length →
    (∀ j (v : SV), la[j]? = some v → ∃ x, xs[n + j]? = some x ∧ rel P β v x) → (∀ j (v : SV), lb[j]? = some v → ∃ x, ys[n + j]? = some x ∧ rel P β v x) →
    (Op.eqFields (d + 1) xs ys fs).run P w = .ok (eqPairs l) w
  | [], n, la, lb, l, _, he, hl, _, _ => by
    have : la = [] := List.length_eq_zero_iff.1 hl
    subst this
    cases lb <;> simp [eqLeaves] at he
    subst he
    simp [Op.eqFields, eqPairs]
  | f :: r, n, la, lb, l, hi, he, hl, hx, hy => by
    match la, lb, he, hl with
    | .i k a :: la, .i k' b :: lb, he, hl =>
      simp only [eqLeaves] at he
      split at he
      case isFalse => cases he
      rename_i hkk
      cases hr : eqLeaves la lb with
      | none => simp [hr] at he
      | some l' =>
        simp only [hr, Option.some.injEq] at he
        subst he
        simp only [intFields, Bool.and_eq_true, Bool.not_eq_true'] at hi
        obtain ⟨⟨⟨h1, h2⟩, h3⟩, h4⟩ := hi
        have h1 := Nat.eq_of_beq_eq_true h1
        have h2 : f.name ≠ "_" := by simpa using h2
        split at h3 <;> try (cases h3; done)
        rename_i kk hu
        obtain ⟨x, hx1, hx2⟩ := hx 0 (.i k a) rfl
        obtain ⟨y, hy1, hy2⟩ := hy 0 (.i k' b) rfl
        simp only [rel] at hx2 hy2
        subst hx2 hy2
        have hp1 : (part f.type xs f.offset).run P w = .ok (.int k a) w := run_part_int hu (by rw [h1]; simpa using hx1)
        have hp2 : (part f.type ys f.offset).run P w = .ok (.int k' b) w := run_part_int hu (by rw [h1]; simpa using hy1)
        have ih := run_eqFields_ints d xs ys r (n + 1) la lb l' h4 hr (by simpa using hl) (fun j v hv => by have := hx (j + 1) v (by simpa using hv); rwa [show n + (j + 1) = n + 1 + j by omega] at this) (fun j v hv => by have := hy (j + 1) v (by simpa using hv); rwa [show n + (j + 1) = n + 1 + j by omega] at this)
        rw [Op.eqFields, eqPairs_cons]
        simp only [if_pos h2, Sem.run_bind, hp1, hp2, Result.andThen_ok]
        subst hkk
        have he : (Op.equalIn (d + 1) f.type (.int k a) (.int k b)).run P w = .ok (a == b) w := by simp [Op.equalIn, run_underlying hu]
        rw [he]
        have : (a == b) = eqI a b := by unfold eqI; rfl
        rw [this]
        cases eqI a b
        · simp
        · simpa using ih
end
theorem relL_at {P : Program} {β : Nat → Nat} : ∀ {l : List SV} {vs : List Value} {j : Nat} {v : SV}, relL P β l vs → l[j]? = some v → ∃ x, vs[j]? = some x ∧ rel P β v x
  | [], vs, j, v, h, e => by simp at e
  | x :: r, vs, 0, v, h, e => by
    obtain ⟨y, us, rfl, h1, h2⟩ := relL_cons.1 h
    simp at e; subst e
    exact ⟨y, rfl, h1⟩
  | x :: r, vs, j + 1, v, h, e => by
    obtain ⟨y, us, rfl, h1, h2⟩ := relL_cons.1 h
    obtain ⟨z, hz, hr⟩ := relL_at h2 (by simpa using e)
    exact ⟨z, by simpa using hz, hr⟩
theorem run_eqAgg {P : Program} {w : World} {ρ : Operand → Value} {o : Oper} {β : Nat → Nat} {op : BinOp} {t u : TypeId} {x y : Operand} {la lb : List SV} {l : List (Int × Int)} {xs ys : Array Value} (ho : o.op = .binOp op t x y u) (hx : ρ x = .agg xs) (hy : ρ y = .agg ys)
    (h1 : relL P β la xs.toList) (h2 : relL P β lb ys.toList) (he : eqLeaves la lb = some l) (ht : eqStructT P t la.length = true) (hop : op = .eql ∨ op = .neq) :
    (execOp ρ o).run P w = .ok (.value (.bool (if op = .eql then eqPairs l else !eqPairs l))) w := by
  obtain ⟨fs, hfs, hlen, hi, hs, hg⟩ := eqT ht
  have hf : P.fieldsOf t = fs := by simp [Program.fieldsOf, hfs]
  have hrun : ∀ d, (Op.equalIn (d + 2) t (.agg xs) (.agg ys)).run P w = .ok (eqPairs l) w := fun d => by
    rw [run_equalIn_struct (P := P) w (d + 1) t xs ys (by rw [hf]; exact hfs) hs, hf]
    exact run_eqFields_ints d xs ys fs.toList 0 la lb l hi he hlen.symm (fun j v hv => by simpa using relL_at h1 hv) (fun j v hv => by simpa using relL_at h2 hv)
  have hr := hrun 9998
  rcases hop with rfl | rfl
  · simp [execOp, ho, hx, hy, eqGuard, hg, binOp, Op.equal, Op.maxDepth, hr]
  · simp [execOp, ho, hx, hy, eqGuard, hg, binOp, Op.equal, Op.maxDepth, hr]
end Go.Cz
namespace Go.Cz
variable [Inhabited DrawnP]
open Go
set_option linter.unusedSimpArgs false
set_option linter.unusedVariables false
set_option linter.unusedSectionVars false
section
variable {G : Gl} {s : St} {K : Env → HProp} {next : Act → World → Prop} {Q : Exit → Act → World → Prop} {o : Oper}
theorem convBS_to {P : Program} {src dst e : TypeId} (h : convBS P src dst = some (e, true)) : P.underlying src = some .string ∧ P.underlying dst = some (.slice e) ∧ P.underlying e = some (.int .u8) := by
  unfold convBS at h
  split at h
  · split at h
    · rename_i h1 h2 _ h3; cases h; exact ⟨h1, h2, h3⟩
    · cases h
  · split at h <;> cases h
  · cases h
theorem convBS_of {P : Program} {src dst e : TypeId} (h : convBS P src dst = some (e, false)) : P.underlying src = some (.slice e) ∧ P.underlying dst = some .string ∧ P.underlying e = some (.int .u8) := by
  unfold convBS at h
  split at h
  · split at h <;> cases h
  · split at h
    · rename_i h1 h2 _ h3; cases h; exact ⟨h1, h2, h3⟩
    · cases h
  · cases h
theorem bytesRow_list (z : ByteArray) (cap : Nat) : (bytesRow z cap).toList = byteVals z ++ List.replicate (cap - z.size) (.int .u8 0) := by
  simp [bytesRow, byteVals]
theorem toBytes_sound (g : Good G s) (hd : ∀ n, o.dst = some n → n < G.N) (hn : Nexts G s K next) {src dst el : TypeId} {x : Operand} {z : ByteArray} (ho : o.op = .convert src dst x)
    (hc : convBS G.P src dst = some (el, true)) (hx : s.e.ev x = .s z) (hK : bytesW z (fun v => K (s.e.put o.dst (.sl v))) s.h) : o.wp G.P s.a s.w next Q := by
  have h1 := ev_rel g x
  rw [hx] at h1
  simp only [rel] at h1
  obtain ⟨c1, c2, c3⟩ := convBS_to hc
  unfold bytesW at hK
  have hr := run_bytes_of_string (P := G.P) s.w src dst el z c1 c2 c3
  have hrun : (execOp s.a.eval o).run G.P s.w = .ok (.value (.slice (some ⟨s.w.heap.size, 0, none⟩) z.size (grownCap s.w z.size 0 el)))
      (s.w.drew.alloc (.cells (bytesRow z (grownCap s.w z.size 0 el)) el ((bytesRow z (grownCap s.w z.size 0 el)).size, (bytesRow z (grownCap s.w z.size 0 el)).size + 1))) := by
    simp [execOp, ho, h1, hr]
  unfold Oper.wp
  rw [hrun]
  show next (s.a.put o.dst _) _
  have hge := grownCap_ge s.w z.size 0 el
  have g1 := g.newBlock (byteVals z ++ List.replicate (grownCap s.w z.size 0 el - z.size) (.int .u8 0)) el ((bytesRow z (grownCap s.w z.size 0 el)).size, (bytesRow z (grownCap s.w z.size 0 el)).size + 1)
    (by
      intro i hi hh
      have : (bytesRow z (grownCap s.w z.size 0 el)).size = (byteVals z ++ List.replicate (grownCap s.w z.size 0 el - z.size) (Value.int .u8 0)).length := by
        rw [← bytesRow_list, Array.length_toList]
      omega)
    (s.w.drew.alloc (.cells (bytesRow z (grownCap s.w z.size 0 el)) el ((bytesRow z (grownCap s.w z.size 0 el)).size, (bytesRow z (grownCap s.w z.size 0 el)).size + 1)))
    (by rw [← bytesRow_list]; rfl) rfl rfl rfl (by
      intro u hu
      rcases List.mem_append.1 hu with hu | hu
      · simp only [byteVals, List.mem_map] at hu; obtain ⟨_, _, rfl⟩ := hu; trivial
      · rw [(List.mem_replicate.1 hu).2]; trivial)
  exact hn _ (hK _ s.w.heap.size hge (g.part.fresh (Nat.le_refl _))) (g1.put (v := .sl ⟨some ⟨s.w.heap.size, 0, none⟩, z.size, grownCap s.w z.size 0 el⟩) (x := .slice (some ⟨s.w.heap.size, 0, none⟩) z.size (grownCap s.w z.size 0 el)) (by simp [rel]) hd (by simp [below])) (Le.mem.trans (Le.put _ _ _))
theorem foldl_text (ns : List Int) : ∀ r : ByteArray, ns.foldl (fun r n => r.push (UInt8.ofNat n.toNat)) r = ⟨r.data ++ (ns.map fun n => UInt8.ofNat n.toNat).toArray⟩ := by
  induction ns with
  | nil => intro r; simp
  | cons n ns ih =>
    intro r
    simp only [List.foldl_cons, List.map_cons]
    rw [ih]
    congr 1
    apply Array.ext'
    simp [ByteArray.push]
theorem toText_sound (g : Good G s) (hd : ∀ n, o.dst = some n → n < G.N) (hn : Nexts G s K next) {src dst el : TypeId} {x : Operand} {v : Sl} (ho : o.op = .convert src dst x)
    (hc : convBS G.P src dst = some (el, false)) (hx : s.e.ev x = .sl v) (hK : textW v (fun z => K (s.e.put o.dst (.s z))) s.h) : o.wp G.P s.a s.w next Q := by
  have h1 := ev_rel g x
  rw [hx] at h1
  simp only [rel] at h1
  obtain ⟨c1, c2, c3⟩ := convBS_of hc
  unfold textW at hK
  obtain ⟨ns, hrow, hK⟩ := hK
  obtain ⟨r1, r3, r4⟩ := row_cells g.part hrow
  have hr := run_convert_bytes_string (P := G.P) s.w src dst el v.a v.len v.cap c1 c3 c2
  have hb : (Conv.bytesToString (.slice v.a v.len v.cap)).run G.P s.w = .ok (.string (textOf ns)) s.w := by
    cases ha : v.a with
    | none =>
      have : ns = [] := by
        cases ns with
        | nil => rfl
        | cons n ns =>
          simp at r1
          obtain ⟨q, hq⟩ := r4 (by omega)
          rw [ha] at hq; cases hq
      subst this
      have e0 : textOf [] = ByteArray.empty := by unfold textOf; rfl
      rw [e0]
      simp [Conv.bytesToString]
    | some q =>
      have hl : (loadCells q v.len).run G.P s.w = .ok (ns.map (Value.int .u8)).toArray s.w := by
        have := run_loadCells_list (P := G.P) (w := s.w) q (ns.map (Value.int .u8)) (fun j u hu => r3 q ha j u hu)
        rw [r1] at this
        exact this
      rw [run_bytesToString s.w q v.len v.cap ns hl, foldl_text]
      have e0 : textOf ns = ⟨ByteArray.empty.data ++ (ns.map fun n => UInt8.ofNat n.toNat).toArray⟩ := by
        unfold textOf
        congr 1
        apply Array.ext'
        simp [ByteArray.empty, ByteArray.emptyWithCapacity]
        try rfl
      rw [e0]
  refine leaf_wp g hd hn (v := .s (textOf ns)) (x := .string (textOf ns)) ?_ (by simp [rel0]) hK
  simp [execOp, ho, h1, hr, hb]
end
end Go.Cz
namespace Go.Cz
variable [Inhabited DrawnP]
open Go
set_option linter.unusedSimpArgs false
set_option linter.unusedVariables false
set_option linter.unusedSectionVars false
section
variable {G : Gl} {s : St} {K : Env → HProp} {next : Act → World → Prop} {Q : Exit → Act → World → Prop} {o : Oper}
theorem binI_spec {op : BinOp} {k : IntKind} {a b : Int} {K : SV → HProp} {h : H} (hK : binI op k a b K h) : ∃ v, binV op k a b = some v ∧ K v h ∧ ((op = .quo ∨ op = .rem) → b ≠ 0) := by
  cases op <;> simp only [binI] at hK <;> first | (simp [stuckW] at hK; done) | skip
  case quo | rem => unfold mustW at hK; exact ⟨_, rfl, hK.2, fun _ => hK.1⟩
  all_goals exact ⟨_, rfl, hK, by simp⟩
theorem memE_mem : ∀ {l : List (Nat × Nat)} {t n : Nat}, memE l t n = true → (t, n) ∈ l
  | [], t, n, h => by simp [memE] at h
  | (u, m) :: r, t, n, h => by
    simp only [memE, Bool.or_eq_true, Bool.and_eq_true] at h
    rcases h with ⟨h1, h2⟩ | h
    · have := Nat.eq_of_beq_eq_true h1; have := Nat.eq_of_beq_eq_true h2; simp_all
    · exact List.mem_cons_of_mem _ (memE_mem h)
theorem binOp_sound {eqs : List (Nat × Nat)} (hE : ∀ x ∈ eqs, eqStructT G.P x.1 x.2 = true) (g : Good G s) {op : BinOp} {t u : TypeId} {x y : Operand} (ho : o.op = .binOp op t x y u)
    (hK : (match binKind G.P eqs op t (s.e.ev x) (s.e.ev y) with
    | some (.ii k a b) => binI op k a b fun v => K (s.e.put o.dst v)
    | some (.sl k a b) => mustW (0 ≤ b) (K (s.e.put o.dst (.i k (shl k a b))))
    | some (.sr k a b) => mustW (0 ≤ b) (K (s.e.put o.dst (.i k (shr k a b))))
    | some (.ss a b) => binS op a b fun v => K (s.e.put o.dst v)
    | some (.eq c) => eqR op c fun v => K (s.e.put o.dst v)
    | some (.lit c) => K (s.e.put o.dst (.t c))
    | some (.ifn q) => match litEq op false with | some (.lit c) => ifcW q fun _ _ => K (s.e.put o.dst (.t c)) | _ => stuckW
    | none => stuckW) s.h) : Yl (fun _ => True) G s o K := by
  have hx := ev_rel g x
  have hy := ev_rel g y
  generalize hqx : s.e.ev x = qx at hK hx
  generalize hqy : s.e.ev y = qy at hK hy
  have eqB : ∀ c, eqR op c (fun v => K (s.e.put o.dst v)) s.h → ((op = .eql ∨ op = .neq) → ∀ w, (execOp s.a.eval o).run G.P w = .ok (.value (.bool (if op = .eql then c else !c))) w) → Yl (fun _ => True) G s o K := by
    intro c hK hrun
    obtain ⟨hop, hK⟩ := eqR_cases hK
    exact leaf_step g (hrun hop) (by simp [rel0]) hK
  cases qx <;> cases qy <;> first | (simp [binKind, stuckW] at hK; done) | skip
  case i.i k a k' b =>
    simp only [rel] at hx hy
    cases op
    case shl => simp only [binKind] at hK; unfold mustW at hK; exact leaf_step g (fun _ => run_shl ho hx hy hK.1) (by simp [rel0]) hK.2
    case shr => simp only [binKind] at hK; unfold mustW at hK; exact leaf_step g (fun _ => run_shr ho hx hy hK.1) (by simp [rel0]) hK.2
    all_goals
      by_cases hkk : k = k'
      · subst hkk
        simp only [binKind, if_true] at hK
        obtain ⟨v, hv, hK, hb⟩ := binI_spec hK
        obtain ⟨z, hz, hr⟩ := run_bin (P := G.P) ho hx hy hv hb
        exact leaf_step g hz hr hK
      · simp [binKind, hkk, stuckW] at hK
  case s.s a b =>
    simp only [binKind] at hK
    simp only [rel] at hx hy
    obtain ⟨z, v, hz, hr, hK⟩ := run_str (P := G.P) ho hx hy s.h hK
    exact leaf_step g hz hr hK
  case agg.agg la lb =>
    simp only [binKind] at hK
    simp only [rel] at hx hy
    obtain ⟨xs, hx, h1⟩ := hx
    obtain ⟨ys, hy, h2⟩ := hy
    cases he : eqLeaves la lb with
    | none => simp [he, stuckW] at hK
    | some l =>
      simp only [he] at hK
      cases hm : memE eqs t la.length with
      | false => simp [hm, stuckW] at hK
      | true =>
        have ht := hE _ (memE_mem hm)
        simp only [hm, if_true] at hK
        exact eqB _ hK fun hop w => run_eqAgg ho hx hy h1 h2 he ht hop
  case p.p q q' =>
    cases q' with
    | some q' => simp [binKind, stuckW] at hK
    | none =>
      simp only [binKind] at hK
      simp only [rel] at hx hy
      cases ht : isPtrT G.P t with
      | false => simp [ht, stuckW] at hK
      | true =>
        simp only [ht, if_true] at hK
        unfold isPtrT at ht
        split at ht
        · rename_i el hu
          exact eqB _ hK fun hop w => by have := run_eqNilP (P := G.P) (w := w) ho hx hy hu hop; rw [this]; unfold isNilP; rfl
        · cases ht
  case ad.p q q' =>
    cases q' with
    | some q' => simp [binKind, stuckW] at hK
    | none =>
      simp only [binKind] at hK
      simp only [rel] at hx hy
      cases ht : isPtrT G.P t with
      | false => simp [ht, stuckW] at hK
      | true =>
        simp only [ht, if_true] at hK
        unfold isPtrT at ht
        split at ht
        · rename_i el hu
          cases op <;> simp only [litEq] at hK <;> first | (simp [stuckW] at hK; done) | skip
          · exact leaf_step g (fun _ => run_eqNilP ho hx hy hu (.inl rfl)) (by simp [rel0]) hK
          · exact leaf_step g (fun _ => run_eqNilP ho hx hy hu (.inr rfl)) (by simp [rel0]) hK
        · cases ht
  case sl.sl v v' =>
    obtain ⟨a', l', c'⟩ := v'
    cases a' with
    | some q' => simp [binKind, stuckW] at hK
    | none =>
      simp only [binKind] at hK
      simp only [rel] at hx hy
      cases ht : isSliceT G.P t with
      | false => simp [ht, stuckW] at hK
      | true =>
        simp only [ht, if_true] at hK
        unfold isSliceT at ht
        split at ht
        · rename_i el hu
          exact eqB _ hK fun hop w => by have := run_eqNilS (P := G.P) (w := w) ho hx hy hu hop; rw [this]; unfold isNilP; rfl
        · cases ht
  case m.m q q' =>
    cases q' with
    | some q' => simp [binKind, stuckW] at hK
    | none =>
      simp only [binKind] at hK
      simp only [rel] at hx hy
      cases ht : isMapT G.P t with
      | false => simp [ht, stuckW] at hK
      | true =>
        simp only [ht, if_true] at hK
        unfold isMapT at ht
        split at ht
        · rename_i kk el hu
          exact eqB _ hK fun hop w => by have := run_eqNilM (P := G.P) (w := w) ho hx hy hu hop; rw [this]; unfold isNilM; rfl
        · cases ht
  case ifc.ifc q q' =>
    cases q' with
    | some q' => simp [binKind, stuckW] at hK
    | none =>
      simp only [binKind] at hK
      simp only [rel] at hx hy
      cases ht : isIfaceT G.P t with
      | false => simp [ht, stuckW] at hK
      | true =>
        simp only [ht, if_true] at hK
        unfold isIfaceT at ht
        split at ht
        · rename_i ms hu
          cases op <;> simp only [litEq] at hK <;> first | (simp [stuckW] at hK; done) | skip
          · unfold ifcW at hK
            obtain ⟨T, a, rfl, hK⟩ := hK
            exact leaf_step g (fun _ => run_eqNilF ho hx hy hu (.inl rfl)) (by simp [rel0]) hK
          · unfold ifcW at hK
            obtain ⟨T, a, rfl, hK⟩ := hK
            exact leaf_step g (fun _ => run_eqNilF ho hx hy hu (.inr rfl)) (by simp [rel0]) hK
        · cases ht
  case fk.fk q q' =>
    cases q' with
    | some q' => simp [binKind, stuckW] at hK
    | none =>
      simp only [binKind] at hK
      simp only [rel] at hx hy
      cases ht : isFuncT G.P t with
      | false => simp [ht, stuckW] at hK
      | true =>
        simp only [ht, if_true] at hK
        unfold isFuncT at ht
        split at ht
        · rename_i ps rs va hu
          exact eqB _ hK fun hop w => by have := run_eqNilK (P := G.P) (w := w) ho hx hy hu hop; rw [this]; unfold isNilK; rfl
        · cases ht
  case b.b c d =>
    simp only [binKind] at hK
    simp only [rel] at hx hy
    cases ht : isBoolT G.P t with
    | false => simp [ht, stuckW] at hK
    | true =>
      simp only [ht, if_true] at hK
      unfold isBoolT at ht
      split at ht
      · rename_i hu
        exact eqB _ hK fun hop w => run_eqB ho hx hy hu hop
      · cases ht
  case b.t c d =>
    simp only [binKind] at hK
    simp only [rel] at hx hy
    cases ht : isBoolT G.P t with
    | false => simp [ht, stuckW] at hK
    | true =>
      simp only [ht, if_true] at hK
      unfold isBoolT at ht
      split at ht
      · rename_i hu
        exact eqB _ hK fun hop w => run_eqB ho hx hy hu hop
      · cases ht
theorem run_pick {P : Program} {w : World} {ρ : Operand → Value} {c x y : Operand} {b : Bool} (ho : o.op = .pick c x y) (hc : ρ c = .bool b) : (execOp ρ o).run P w = .ok (.value (if b then ρ x else ρ y)) w := by
  cases b <;> simp [execOp, ho, hc, asBool]
theorem doOp_yl {C : Ctx} (hC : C.P = G.P) (hE : ∀ x ∈ C.eqs, eqStructT G.P x.1 x.2 = true) (g : Good G s) (hN : isN G.P o.op = true) (hK : doOp C o s.e K s.h) : Yl (fun _ => True) G s o K := by
  unfold doOp at hK
  cases ho : o.op <;> simp only [ho] at hK <;> first | (simp [stuckW] at hK; done) | skip
  case move x => exact move_sound g (.inl ho) hK
  case assign x => exact move_sound g (.inr ho) hK
  case pick c x y =>
    have hc := ev_rel g c
    cases hl : litOf (s.e.ev c) with
    | none => simp [hl, stuckW] at hK
    | some b =>
      simp only [hl] at hK
      have : s.a.eval c = .bool b := by
        generalize s.e.ev c = q at hl hc
        cases q <;> simp [litOf] at hl
        subst hl
        simpa [rel] using hc
      refine value_step g (fun _ => run_pick ho this) ?_ ?_ hK
      · cases b <;> simp [ev_rel g]
      · cases b <;> simp [ev_wf g]
  case binOp op t x y u => rw [hC] at hK; exact binOp_sound hE g ho hK
  case unOp op t x =>
    have hx := ev_rel g x
    cases hv : unV op (s.e.ev x) with
    | none => simp [hv, stuckW] at hK
    | some v =>
      simp only [hv] at hK
      generalize s.e.ev x = q at hv hx
      cases op <;> cases q <;> simp [unV] at hv <;> subst hv <;> simp only [rel] at hx
      case not.b => exact leaf_step g (fun _ => run_not ho hx) (by simp [rel0]) hK
      case not.t => exact leaf_step g (fun _ => run_not ho hx) (by simp [rel0]) hK
      case neg.i => exact leaf_step g (fun _ => run_neg ho hx) (by simp [rel0]) hK
      case xor.i => exact leaf_step g (fun _ => run_xor ho hx) (by simp [rel0]) hK
  case convert src dst x =>
    have hx := ev_rel g x
    rw [hC] at hK
    have hcb : convBS G.P src dst = none := by simpa [ho, isN] using hN
    simp only [hcb] at hK
    cases hv : convArgs G.P src dst (s.e.ev x) with
    | none => simp [hv, stuckW] at hK
    | some q =>
      obtain ⟨k, n⟩ := q
      simp only [hv] at hK
      unfold convArgs at hv
      generalize s.e.ev x = q at hv hx
      cases q <;> simp only [] at hv <;> try (cases hv; done)
      rename_i k' m
      split at hv
      · rename_i d kk h1 h2
        cases hv
        simp only [rel] at hx
        exact leaf_step g (fun _ => run_conv ho hx ⟨d, h1⟩ h2) (by simp [rel0]) hK
      · cases hv
  case fieldAddr t x f =>
    rw [hC] at hK
    cases hf : fieldOff G.P t f with
    | none => simp [hf, stuckW] at hK
    | some q =>
      obtain ⟨off, ft⟩ := q
      simp only [hf] at hK
      cases hs : Nat.blt 0 (sizeT G.P ft) with
      | false => simp [hs, stuckW] at hK
      | true =>
        simp only [hs, if_true] at hK
        exact fieldAddr_sound g ho hf (Nat.le_of_ble_eq_true hs) hK
  case field t x f =>
    rw [hC] at hK
    cases hf : fieldOff G.P t f with
    | none => simp [hf, stuckW] at hK
    | some q =>
      obtain ⟨off, ft⟩ := q
      cases hl : aggOf (s.e.ev x) with
      | none => simp [hf, hl, stuckW] at hK
      | some l =>
        simp only [hf, hl] at hK
        have hx : s.e.ev x = .agg l := by
          generalize s.e.ev x = q at hl
          cases q <;> simp [aggOf] at hl
          subst hl; rfl
        cases hv : fieldV G.P ft off l with
        | none => simp [hv, stuckW] at hK
        | some v =>
          simp only [hv] at hK
          unfold fieldV at hv
          cases hnn : noneT G.P ft with
          | true => simp [hnn] at hv
          | false =>
            refine field_sound g ho hf hx hnn ?_
            simp only [hnn] at hv
            cases hg : isAggT G.P ft with
            | true =>
              simp [hg] at hv
              simp [hg, hv.1, hv.2, hK]
            | false =>
              simp [hg] at hv
              cases hl' : l.drop off with
              | nil => simp [hl'] at hv
              | cons y r => simp [hl'] at hv; subst hv; simpa [hg] using hK
  case nilCheck x => exact nilCheck_sound g ho hK
  case indexAddr t x y =>
    rw [hC] at hK
    cases hv : idxArgs G.P t (s.e.ev x) (s.e.ev y) with
    | none =>
      simp only [hv] at hK
      cases ha : arrArgs G.P t (s.e.ev y) with
      | none => simp [ha, stuckW] at hK
      | some q =>
        obtain ⟨n, len, el⟩ := q
        simp only [ha] at hK
        generalize hy : s.e.ev y = qy at ha
        cases qy <;> simp only [arrArgs] at ha <;> try (cases ha; done)
        split at ha
        · rename_i len' el' hu
          split at ha
          · rename_i hs
            cases ha
            exact indexArr_sound g ho hu (Nat.le_of_ble_eq_true hs) hy hK
          · cases ha
        · cases ha
    | some q =>
      obtain ⟨v, n, el⟩ := q
      simp only [hv] at hK
      generalize hx : s.e.ev x = qx at hv
      generalize hy : s.e.ev y = qy at hv
      cases qx <;> simp only [idxArgs] at hv <;> try (cases hv; done)
      cases qy <;> simp only [idxArgs] at hv <;> try (cases hv; done)
      split at hv
      · rename_i el' hu
        split at hv
        · rename_i hs
          cases hv
          exact indexAddr_sound g ho hu (Nat.le_of_ble_eq_true hs) hx hy hK
        · cases hv
      · cases hv
  case slice t x lo hi mx =>
    rw [hC] at hK
    cases hv : sliceArgs G.P t (s.e.ev x) mx with
    | none =>
      simp only [hv] at hK
      cases hw : sliceArrArgs G.P t (s.e.ev x) mx with
      | none => simp [hw, stuckW] at hK
      | some q =>
        obtain ⟨q, n, el⟩ := q
        simp only [hw] at hK
        unfold sliceArrArgs at hw
        cases mx with
        | some m => simp at hw
        | none =>
          simp only [] at hw
          split at hw
          · rename_i n' el' hu
            split at hw
            · rename_i hs
              have hx : s.e.ev x = .p q ∨ ∃ a, q = some a ∧ s.e.ev x = .ad a := by
                generalize s.e.ev x = y at hw ⊢
                cases y <;> simp at hw
                · obtain ⟨rfl, _, _⟩ := hw; exact .inl rfl
                · obtain ⟨rfl, _, _⟩ := hw; exact .inr ⟨_, rfl, rfl⟩
              have hne : n' = n ∧ el' = el := by
                generalize s.e.ev x = y at hw
                cases y <;> simp at hw
                · exact hw.2
                · exact hw.2
              obtain ⟨rfl, rfl⟩ := hne
              cases h1 : optI s.e lo 0 with
              | none => simp [h1, stuckW] at hK
              | some l => cases h2 : optI s.e hi n' with
                | none => simp [h1, h2, stuckW] at hK
                | some h => simp only [h1, h2] at hK; exact sliceArr_sound g ho hu (Nat.le_of_ble_eq_true hs) hx h1 h2 hK
            · cases hw
          · cases hw
    | some q =>
      generalize hx : s.e.ev x = qx at hv
      unfold sliceArgs at hv
      cases mx with
      | some m => simp at hv
      | none =>
        cases qx <;> simp only [] at hv <;> try (cases hv; done)
        case sl v =>
          split at hv
          · rename_i el hu
            split at hv
            · rename_i hs
              cases hv
              have hv' : sliceArgs G.P t (s.e.ev x) none = some (.inl (v, el)) := by rw [hx]; simp [sliceArgs, hu, hs]
              simp only [hv'] at hK
              cases h1 : optI s.e lo 0 with
              | none => simp [h1, stuckW] at hK
              | some l => cases h2 : optI s.e hi v.len with
                | none => simp [h1, h2, stuckW] at hK
                | some h => simp only [h1, h2] at hK; exact slice_sound g ho hu (Nat.le_of_ble_eq_true hs) hx h1 h2 hK
            · cases hv
          · cases hv
        case s z =>
          split at hv
          · rename_i hu
            cases hv
            have hv' : sliceArgs G.P t (s.e.ev x) none = some (.inr z) := by rw [hx]; simp [sliceArgs, hu]
            simp only [hv'] at hK
            cases h1 : optI s.e lo 0 with
            | none => simp [h1, stuckW] at hK
            | some l => cases h2 : optI s.e hi z.size with
              | none => simp [h1, h2, stuckW] at hK
              | some h => simp only [h1, h2] at hK; exact cut_sound g ho hu hx h1 h2 hK
          · cases hv
  case build t parts =>
    rw [hC] at hK
    cases hp : placesT G.P t with
    | none => simp [hp, stuckW] at hK
    | some place => cases hz : zeroT G.P t with
      | none => simp [hp, hz, stuckW] at hK
      | some z =>
        simp only [hp, hz] at hK
        cases hl : buildC s.e place parts.toList (zeroCells G.P t) with
        | none => simp [hl, stuckW] at hK
        | some l => simp only [hl] at hK; exact build_sound g ho hp hz hl hK
  case index t x y =>
    rw [hC] at hK
    cases hv : byteArgs G.P t (s.e.ev x) (s.e.ev y) with
    | none => simp [hv, stuckW] at hK
    | some q =>
      obtain ⟨z, n⟩ := q
      simp only [hv] at hK
      generalize hx : s.e.ev x = qx at hv
      generalize hy : s.e.ev y = qy at hv
      cases qx <;> simp only [byteArgs] at hv <;> try (cases hv; done)
      cases qy <;> simp only [byteArgs] at hv <;> try (cases hv; done)
      split at hv
      · rename_i hu
        cases hv
        exact index_sound g ho hu hx hy hK
      · cases hv
  case extract x n =>
    cases hv : tupAt (s.e.ev x) n with
    | none => simp [hv, stuckW] at hK
    | some v =>
      simp only [hv] at hK
      generalize hx : s.e.ev x = qx at hv
      cases qx <;> simp only [tupAt] at hv <;> try (cases hv; done)
      rename_i l
      cases hl : l.drop n with
      | nil => simp [hl] at hv
      | cons y r => simp only [hl, Option.some.injEq] at hv; subst hv; exact extract_sound g ho hx hl hK
  case makeFunc fn first cap =>
    cases fn <;> simp only [] at hK <;> first | (simp [stuckW] at hK; done) | skip
    · exact makeFunc_sound g ho hK
    · rw [hC] at hK
      exact makeFz_sound g ho hK
  case call c =>
    simp only [ho, isN] at hN
    cases hc : c.callee <;> simp only [hc] at hN <;> try (cases hN; done)
    rw [Bool.and_eq_true, Bool.not_eq_true'] at hN
    exact callN_yl hC g ho hc hN.1 (fun _ => by rw [hC]; exact hN.2) hK
  all_goals (simp [ho, isN] at hN)
theorem doOp_sound {C : Ctx} (hC : C.P = G.P) (hE : ∀ x ∈ C.eqs, eqStructT G.P x.1 x.2 = true) (hΦ : ∀ en ∈ C.Φ, Linked G.P en) (hQ : LetsOut Q → False) (g : Good G s) (hd : ∀ n, o.dst = some n → n < G.N) (hn : Nexts G s K next)
    (hK : doOp C o s.e K s.h) : o.wp G.P s.a s.w next Q := by
  by_cases hN : isN G.P o.op = true
  · exact (doOp_yl hC hE g hN hK).wp trivial g hd hn
  unfold doOp at hK
  cases ho : o.op <;> simp only [ho] at hK <;> first | (simp [stuckW] at hK; done) | skip
  case alloc t =>
    rw [hC] at hK
    cases hl : leafs (zeroCells G.P t) with
    | false => simp [hl, stuckW] at hK
    | true =>
      simp only [hl, if_true] at hK
      cases hB : isBldT G.P t with
      | false => simp only [hB, Bool.false_eq_true, if_false] at hK; exact alloc_sound hC g hd hn ho hl hK
      | true =>
        simp only [hB, if_true] at hK
        cases hH : isHeap C o.dst with
        | false => simp [hH, stuckW] at hK
        | true =>
          simp only [hH, if_true] at hK
          cases hv : toVs (zeroCells G.P t) with
          | none => simp [hv, stuckW] at hK
          | some l => simp only [hv] at hK; exact allocRaw_sound hC g hd hn ho hl hv hK
  case box t x =>
    cases hl : leafs (s.e.ev x).cells with
    | false => simp [hl, stuckW] at hK
    | true => simp only [hl, if_true] at hK; exact box_sound g hd hn ho hl hK
  case convert src dst x =>
    rw [hC] at hK
    cases hcb : convBS G.P src dst with
    | none => exact absurd (by simp [ho, isN, hcb]) hN
    | some q =>
      obtain ⟨el, b⟩ := q
      cases b <;> simp only [hcb] at hK
      · cases hx : s.e.ev x <;> simp only [hx] at hK <;> first | (simp [stuckW] at hK; done) | skip
        exact toText_sound g hd hn ho hcb hx hK
      · cases hx : s.e.ev x <;> simp only [hx] at hK <;> first | (simp [stuckW] at hK; done) | skip
        exact toBytes_sound g hd hn ho hcb hx hK
  case load t x => rw [hC] at hK; exact load_sound g hd hn ho hK
  case store t x y =>
    cases hdst : o.dst with
    | some d => simp [hdst, stuckW] at hK
    | none => simp only [hdst] at hK; rw [hC] at hK; exact store_sound g hdst hn ho hK
  case makeSlice t l c =>
    rw [hC] at hK
    cases hv : makeArgs G.P t (s.e.ev l) (s.e.ev c) with
    | none => simp [hv, stuckW] at hK
    | some q =>
      obtain ⟨el, ln, cn, z⟩ := q
      simp only [hv] at hK
      generalize hx : s.e.ev l = qx at hv
      generalize hy : s.e.ev c = qy at hv
      unfold makeArgs at hv
      split at hv
      · split at hv
        · rename_i el' hu
          cases hz : toVs (zeroCells G.P el') with
          | none => simp [hz] at hv
          | some z' =>
            simp only [hz] at hv
            split at hv
            · rename_i hs
              simp only [Bool.and_eq_true] at hs
              cases hv
              exact make_sound g hd hn ho hu hx hy hz hs.1 hs.2 hK
            · cases hv
        · cases hv
      · cases hv
  case buildSlice t n parts =>
    rw [hC] at hK
    cases hv : buildSArgs G.P t n with
    | none => simp [hv, stuckW] at hK
    | some el =>
      simp only [hv] at hK
      unfold buildSArgs at hv
      split at hv
      · rename_i el' hu
        split at hv
        · rename_i hs
          cases hv
          cases hl : buildC s.e (fun i => some (i * sizeT G.P el, sizeT G.P el)) parts.toList (List.replicate n (zeroCells G.P el)).flatten with
          | none => simp [hl, stuckW] at hK
          | some l => simp only [hl] at hK; exact buildSlice_sound hC g hd hn ho hu hs hl hK
        · cases hv
      · cases hv
  case call c => exact call_sound hC hΦ hQ g hd hn ho hK
  case range t x =>
    cases h2 : s.e.ev x <;> simp only [h2] at hK <;> first | (simp [stuckW] at hK; done) | skip
    case m r =>
      split at hK
      · rename_i hm; rw [hC] at hm; exact range_sound g hd hn ho hm h2 hK
      · simp [stuckW] at hK
    case s z =>
      split at hK
      · rename_i hm; rw [hC] at hm; exact rangeS_sound g hd hn ho hm h2 hK
      · simp [stuckW] at hK
  case next x str =>
    cases h2 : s.e.ev x <;> simp only [h2] at hK <;> first | (simp [stuckW] at hK; done) | skip
    cases str with
    | true => exact nextS_sound g hd hn ho h2 hK
    | false => exact next_sound g hd hn ho h2 hK
  case entry x =>
    cases h2 : s.e.ev x <;> simp only [h2] at hK <;> first | (simp [stuckW] at hK; done) | skip
    rename_i b t
    cases h1 : mapTC C t with
    | none => simp [h1, stuckW] at hK
    | some q =>
      obtain ⟨kt, ty, z⟩ := q
      simp only [h1] at hK
      have h1 := mapTC_spec h1
      rw [hC] at h1
      exact entry_sound (z := z) g hd hn ho h2 hK
  case makeInterface t x =>
    cases hp : isPtrT C.P t with
    | false => simp [hp, stuckW] at hK
    | true =>
      simp only [hp, if_true] at hK
      rw [hC] at hp
      unfold isPtrT at hp
      split at hp
      · rename_i el hu
        have h1 := ev_rel g x
        cases hx : s.e.ev x <;> simp only [hx] at hK h1 <;> first | (simp [stuckW] at hK; done) | skip
        · rename_i a
          simp only [rel] at h1
          exact (leaf_step g (v := .ifc (some (t, a))) (x := .iface t (.pointer a)) (fun w' => by simp [execOp, ho, h1, Instr.makeInterface, run_underlying hu]) (by simp [rel0, ifcV]) hK).wp trivial g hd hn
        · rename_i a
          simp only [rel] at h1
          exact (leaf_step g (v := .ifc (some (t, some a))) (x := .iface t (.pointer (some a))) (fun w' => by simp [execOp, ho, h1, Instr.makeInterface, run_underlying hu]) (by simp [rel0, ifcV]) hK).wp trivial g hd hn
      · cases hp
  case makeMap t r =>
    cases r with
    | some r => simp [stuckW] at hK
    | none =>
      simp only [] at hK
      split at hK
      · exact makeMap_sound g hd hn ho hK
      · simp [stuckW] at hK
  case lookup t x y ok =>
    cases h1 : mapTC C t with
    | none => simp [h1, stuckW] at hK
    | some q =>
      obtain ⟨kt, ty, z⟩ := q
      cases h2 : s.e.ev x <;> simp only [h1, h2] at hK <;> first | (simp [stuckW] at hK; done) | skip
      rename_i r
      cases h3 : keyV (s.e.ev y) with
      | none => simp [h3, stuckW] at hK
      | some key =>
        simp only [h3] at hK
        have h1 := mapTC_spec h1
        rw [hC] at h1
        exact lookup_sound g hd hn ho h1 h2 h3 hK
  case mapUpdate t m x y =>
    cases hdst : o.dst with
    | some d => simp [hdst, stuckW] at hK
    | none =>
      simp only [hdst] at hK
      cases h1 : mapTC C t with
      | none => simp [h1, stuckW] at hK
      | some q =>
        obtain ⟨kt, ty, z⟩ := q
        cases h2 : s.e.ev m <;> simp only [h1, h2] at hK <;> first | (simp [stuckW] at hK; done) | skip
        rename_i r
        cases h3 : keyV (s.e.ev x) with
        | none => simp [h3, stuckW] at hK
        | some key => cases h4 : (s.e.ev y).toV with
          | none => simp [h3, h4, stuckW] at hK
          | some val =>
            simp only [h3, h4] at hK
            have h1 := mapTC_spec h1
            rw [hC] at h1
            exact update_sound g hdst hn ho h1 h2 h3 h4 hK
  all_goals exact absurd (by simp [ho, isN]) hN
end
end Go.Cz
namespace Go.Cz
variable [Inhabited DrawnP]
open Go
set_option linter.unusedSimpArgs false
set_option linter.unusedVariables false
set_option linter.unusedSectionVars false
section
variable {G : Gl} {s : St} {K : Env → HProp} {Q : Exit → Act → World → Prop} {o : Oper}
/-- where a guard looks -/
theorem yielded_of {ops : Array Oper} {tmps : Array Value} {j d : Nat} {b : Bool} (hd : dstOf ops j = some d) (hv : tmps.getD d undef = .bool b) : yielded ops tmps j = some b := by
  unfold dstOf at hd
  cases ho : ops.toList[j]? with
  | none => simp [ho] at hd
  | some o =>
    simp only [ho] at hd
    have ho' : ops[j]? = some o := by simpa using ho
    simp [yielded, ho', hd]
    simp [Array.getD_eq_getD_getElem?] at hv
    cases hx : tmps[d]? with
    | none => simp [hx, undef] at hv
    | some v => simp [hx] at hv; subst hv; simp [hx]
end
end Go.Cz
namespace Go.Cz
variable [Inhabited DrawnP]
open Go
section
variable {G : Gl} {s : St} {K : Env → HProp} {Q : Exit → Act → World → Prop} {o : Oper}
theorem Good.learn (g : Good G s) {d : Nat} {b : Bool} (hv : s.a.tmps[d]? = some (.bool b)) : Good G { s with e := s.e.put (some d) (.t b) } := by
  refine ⟨g.size, ?_, ?_, g.locs, g.inj, g.part, g.keeps⟩
  · intro n u hn
    simp only [Env.put, slotPut, look_cons] at hn
    by_cases e : d = n
    · subst e
      simp at hn; subst hn
      exact ⟨_, hv, by simp [rel]⟩
    · rw [if_neg e] at hn
      exact g.slots n u hn
  · intro n u hn
    simp only [Env.put, slotPut, look_cons] at hn
    by_cases e : d = n
    · subst e; simp at hn; subst hn; simp [below]
    · rw [if_neg e] at hn; exact g.wf n u hn
theorem Le.learn {d : Nat} {v : SV} : Le s { s with e := s.e.put (some d) v } := ⟨fun _ _ => rfl, Nat.le_refl _, ⟨[(d, v)], rfl⟩, ⟨[], rfl⟩, rfl⟩
theorem rel_tup0 {P : Program} {β : Nat → Nat} : rel P β (.tup []) undef := by
  simp only [rel]; exact ⟨#[], rfl, by simp [relL]⟩
theorem below_tup0 {n : Nat} : below n (.tup []) = true := by simp [below, belowL]
theorem yielded_undef {ops : Array Oper} {tmps : Array Value} {j d : Nat} (hd : dstOf ops j = some d) (hv : tmps.getD d undef = undef) : yielded ops tmps j = none := by
  unfold dstOf at hd
  cases ho : ops.toList[j]? with
  | none => simp [ho] at hd
  | some o =>
    simp only [ho] at hd
    have ho' : ops[j]? = some o := by simpa using ho
    simp [yielded, ho', hd]
    simp [Array.getD_eq_getD_getElem?] at hv
    cases hx : tmps[d]? with
    | none => simp [hx]
    | some v => simp [hx] at hv; subst hv; simp [hx, undef]
theorem doOps_pre {C : Ctx} (hC : C.P = G.P) (hE : ∀ x ∈ C.eqs, eqStructT G.P x.1 x.2 = true) (hΦ : ∀ en ∈ C.Φ, Linked G.P en) (hQ : LetsOut Q → False) {ops : Array Oper} (R : List Oper) : ∀ (l : List Oper) (s : St), Good G s → (∀ o ∈ l, ∀ n, o.dst = some n → n < G.N) →
    doOps C ops l s.e K s.h → (∀ s', K s'.e s'.h → Good G s' → Le s s' → wpList G.P ops Q R s'.a s'.w) → wpList G.P ops Q (l ++ R) s.a s.w
  | [], s, g, _, hK, hn => hn s hK g (Le.refl s)
  | o :: rest, s, g, hd, hK, hn => by
    have hd0 := hd o (by simp)
    have hdr : ∀ o ∈ rest, ∀ n, o.dst = some n → n < G.N := fun o ho => hd o (by simp [ho])
    -- one that runs
    have run : ∀ (s1 : St), Good G s1 → Le s s1 → s1.a = s.a → s1.w = s.w → doOp C o s1.e (fun e' => doOps C ops rest e' K) s1.h → o.wp G.P s.a s.w (wpList G.P ops Q (rest ++ R)) Q := by
      intro s1 g1 le e1 e2 hK
      rw [← e1, ← e2]
      exact doOp_sound hC hE hΦ hQ g1 hd0 (fun s' hK' g' le' => doOps_pre hC hE hΦ hQ R rest s' g' hdr hK' fun s'' hK'' g'' le'' => hn s'' hK'' g'' (le.trans (le'.trans le''))) hK
    -- one that is passed by
    have pass : ∀ (s1 : St), Good G s1 → Le s s1 → s1.a = s.a → s1.w = s.w → doOps C ops rest (s1.e.put o.dst (.tup [])) K s1.h → wpList G.P ops Q (rest ++ R) (s.a.put o.dst undef) s.w := by
      intro s1 g1 le e1 e2 hK
      rw [← e1, ← e2]
      exact doOps_pre hC hE hΦ hQ R rest _ (g1.put (v := .tup []) (x := undef) rel_tup0 hd0 below_tup0) hdr hK fun s'' hK'' g'' le'' => hn s'' hK'' g'' (le.trans ((Le.put _ _ _).trans le''))
    rw [List.cons_append]
    unfold wpList
    simp only [doOps] at hK
    cases hg : o.guard with
    | none =>
      simp only [hg] at hK
      rw [if_pos (by simp [Region.wanted, hg])]
      exact .inl (run s g (Le.refl s) rfl rfl hK)
    | some jw =>
      obtain ⟨j, want⟩ := jw
      simp only [hg] at hK
      cases hds : dstOf ops j with
      | none => simp [hds, stuckW] at hK
      | some d =>
        simp only [hds] at hK
        obtain ⟨x, hx, hr⟩ := rel_get g d
        have hsl : s.e.get d ≠ .und → s.a.tmps[d]? = some x := by
          intro hne
          unfold Env.get at hne hr
          cases hl : look s.e.slots d with
          | none => simp [hl] at hne
          | some v =>
            obtain ⟨y, hy, _⟩ := g.slots d v hl
            simp [Array.getD_eq_getD_getElem?, hy] at hx
            rw [hy, hx]
        generalize hq : s.e.get d = q at hK hr hsl
        cases q <;> first | (simp [stuckW] at hK; done) | skip
        case tup l =>
          cases l with
          | cons x r => simp [stuckW] at hK
          | nil =>
            simp only [] at hK
            simp only [rel] at hr
            obtain ⟨vs, rfl, hvs⟩ := hr
            have hvs : vs.toList = [] := by simpa [relL] using hvs
            have hvs : vs = #[] := by simpa using hvs
            subst hvs
            have hy := yielded_undef (ops := ops) hds hx
            rw [if_neg (by simp [Region.wanted, hg, hy])]
            exact pass s g (Le.refl s) rfl rfl hK
        case t c =>
          simp only [] at hK
          simp only [rel] at hr
          subst hr
          have hy := yielded_of (ops := ops) hds hx
          by_cases hcw : c = want
          · subst hcw
            simp only [if_true] at hK
            rw [if_pos (by simp [Region.wanted, hg, hy])]
            exact .inl (run s g (Le.refl s) rfl rfl hK)
          · rw [if_neg hcw] at hK
            rw [if_neg (by simp [Region.wanted, hg, hy, hcw])]
            exact pass s g (Le.refl s) rfl rfl hK
        case b c =>
          simp only [] at hK
          simp only [rel] at hr
          subst hr
          have hy := yielded_of (ops := ops) hds hx
          have hv := hsl (by simp)
          unfold iteW at hK
          cases c with
          | true =>
            simp only [if_true] at hK
            cases want with
            | true =>
              simp only [if_true] at hK
              rw [if_pos (by simp [Region.wanted, hg, hy])]
              exact .inl (run _ (g.learn hv) Le.learn rfl rfl hK)
            | false =>
              simp only [Bool.false_eq_true, if_false] at hK
              rw [if_neg (by simp [Region.wanted, hg, hy])]
              exact pass _ (g.learn hv) Le.learn rfl rfl hK
          | false =>
            simp only [Bool.false_eq_true, if_false] at hK
            cases want with
            | true =>
              simp only [if_true] at hK
              rw [if_neg (by simp [Region.wanted, hg, hy])]
              exact pass _ (g.learn hv) Le.learn rfl rfl hK
            | false =>
              simp only [Bool.false_eq_true, if_false] at hK
              rw [if_pos (by simp [Region.wanted, hg, hy])]
              exact .inl (run _ (g.learn hv) Le.learn rfl rfl hK)
theorem doOps_sound {C : Ctx} (hC : C.P = G.P) (hE : ∀ x ∈ C.eqs, eqStructT G.P x.1 x.2 = true) (hΦ : ∀ en ∈ C.Φ, Linked G.P en) (hQ : LetsOut Q → False) {ops : Array Oper} (l : List Oper) (s : St) (g : Good G s) (hd : ∀ o ∈ l, ∀ n, o.dst = some n → n < G.N)
    (hK : doOps C ops l s.e K s.h) (hn : ∀ s', K s'.e s'.h → Good G s' → Le s s' → Q .normal s'.a s'.w) : wpList G.P ops Q l s.a s.w := by
  have := doOps_pre hC hE hΦ hQ (ops := ops) (K := K) [] l s g hd hK fun s' h1 h2 h3 => wpList_nil (hn s' h1 h2 h3)
  rwa [List.append_nil] at this
end
end Go.Cz
namespace Go.Cz
variable [Inhabited DrawnP]
open Go
set_option linter.unusedSimpArgs false
set_option linter.unusedVariables false
set_option linter.unusedSectionVars false
theorem subset_spec : ∀ {l m : List Nat}, subset l m = true → ∀ x ∈ l, x ∈ m
  | [], m, _, x, hx => by simp at hx
  | y :: r, m, h, x, hx => by
    simp only [subset, Bool.and_eq_true] at h
    rcases List.mem_cons.1 hx with rfl | hx
    · simpa using h.1
    · exact subset_spec h.2 x hx
theorem newKeys_append {α : Type} : ∀ (pre l : List (Nat × α)), newKeys pre.length (pre ++ l) = keys pre
  | [], l => rfl
  | (k, v) :: r, l => by simp [newKeys, keys, newKeys_append r l]
theorem look_append {α : Type} : ∀ (a b : List (Nat × α)) (n : Nat), look (a ++ b) n = match look a n with | some v => some v | none => look b n
  | [], b, n => by simp [look]
  | (k, v) :: r, b, n => by
    rw [List.cons_append, look_cons, look_cons, look_append r b n]
    by_cases h : k = n <;> simp [h]
theorem look_keys {α : Type} : ∀ {a : List (Nat × α)} {n : Nat}, n ∉ keys a → look a n = none
  | [], n, _ => rfl
  | (k, v) :: r, n, h => by
    simp only [keys, List.mem_cons, not_or] at h
    rw [look_cons, if_neg (fun e => h.1 e.symm), look_keys h.2]
theorem look_tomb : ∀ {l : List Nat} {n : Nat}, look (tomb l) n = if n ∈ l then some .und else none
  | [], n => by simp [tomb, look]
  | k :: r, n => by
    rw [tomb, look_cons, look_tomb]
    by_cases e : k = n
    · simp [e]
    · have : ¬ n = k := fun h => e h.symm
      simp [e, this]
theorem fitsAll_L {e : Env} : ∀ {l : List (Nat × Sh)}, fitsAll e l = true → fitsL (l.map fun x => e.get x.1) (l.map (·.2)) = true
  | [], _ => rfl
  | (n, s) :: r, h => by
    simp only [fitsAll, Bool.and_eq_true] at h
    simp [fitsL, h.1, fitsAll_L h.2]
theorem slotCells_eq {e : Env} : ∀ {l : List (Nat × Sh)}, slotCells e l = cellsOf (l.map fun x => e.get x.1)
  | [] => rfl
  | (n, s) :: r => by simp [slotCells, cellsOf, slotCells_eq (l := r)]
theorem zip_look {P : Program} {β : Nat → Nat} {tmps : Array Value} : ∀ {l : List (Nat × Sh)} {xs : List SV} {n : Nat} {v : SV}, relL P β xs (l.map fun x => tmps.getD x.1 undef) → look ((keys l).zip xs) n = some v →
    v ∈ xs ∧ rel P β v (tmps.getD n undef)
  | [], xs, n, v, h, e => by simp [keys, look] at e
  | (k, s) :: r, xs, n, v, h, e => by
    cases xs with
    | nil => simp [look] at e
    | cons x xs =>
      obtain ⟨u, us, e1, h1, h2⟩ := relL_cons.1 h
      simp only [List.map_cons, List.cons.injEq] at e1
      obtain ⟨rfl, rfl⟩ := e1
      simp only [keys, List.zip_cons_cons, look_cons] at e
      by_cases hk : k = n
      · subst hk
        simp at e; subst e
        exact ⟨by simp, h1⟩
      · rw [if_neg hk] at e
        obtain ⟨h3, h4⟩ := zip_look h2 e
        exact ⟨by simp [h3], h4⟩
/-- no leaf is 'undefined' -/
def solid : SV → Bool
  | .und | .tup _ => false
  | _ => true
theorem rel_undef {P : Program} {β : Nat → Nat} {v : SV} (h : rel P β v undef) (hs : solid v = true) : False := by
  cases v <;> simp [solid] at hs <;> simp [rel, undef, LinkedV] at h
  case ifc x => cases x <;> simp [ifcV] at h
  case fk x => cases x <;> simp [fkV] at h
theorem solid_of {t : Ty} {x : t.den} : solid (SV.of t x) = true := by
  cases t with
  | o t => cases t <;> rfl
  | fn sh rsh => rfl
  | clo k caps => rfl
theorem solid_unpack : ∀ (ts : List Ty) (t : Tup ts), ∀ x ∈ unpackL ts t, solid x = true ∧ leafs [x] = true
  | [], _, x, h => by simp [unpackL] at h
  | [t], y, x, h => by
    simp only [unpackL, List.mem_singleton] at h
    subst h
    exact ⟨solid_of, leaf_of⟩
  | t :: u :: r, y, x, h => by
    simp only [unpackL, List.mem_cons] at h
    rcases h with rfl | h
    · exact ⟨solid_of, leaf_of⟩
    · exact solid_unpack (u :: r) y.2 x h
where
  leaf_of {t : Ty} {x : t.den} : leafs [SV.of t x] = true := by
    cases t with
    | o t => cases t <;> rfl
    | fn sh rsh => rfl
    | clo k caps => rfl
theorem solid_shape : ∀ (sh : List Sh) (l : List SV), (∀ x ∈ l, solid x = true) → ∀ x ∈ shape sh l, solid x = true
  | [], l, _, x, h => by simp [shape] at h
  | .leaf _ :: q, [], hl, x, h => by simp [shape] at h
  | .leaf _ :: q, y :: l, hl, x, h => by
    simp only [shape, List.mem_cons] at h
    rcases h with rfl | h
    · exact hl _ (by simp)
    · exact solid_shape q l (fun z hz => hl z (by simp [hz])) x h
  | .agg ts :: q, l, hl, x, h => by
    simp only [shape, List.mem_cons] at h
    rcases h with rfl | h
    · rfl
    · exact solid_shape q _ (fun z hz => hl z (List.mem_of_mem_drop hz)) x h
/-- locals laid anew -/
theorem layLocs_look {P : Program} {β : Nat → Nat} {w : World} {e : Env} {n0 : Nat} : ∀ {l : List (Nat × List Ty)} {xs : List SV}, fitsLocs e n0 l = true → xs.length = (locCells e l).length →
    (∀ us, relL P β (locCells e l) us → relL P β xs us) → (∀ x ∈ xs, leafs [x] = true) → (∀ id, ∃ us, relL P β (e.loc id) us) →
    ∀ {n : Nat} {c : List SV}, look (layLocs l xs) n = some c → n < n0 ∧ leafs c = true ∧ (∀ x ∈ c, x ∈ xs) ∧ 0 < (e.loc n).length ∧ ∀ us, relL P β (e.loc n) us → relL P β c us
  | [], xs, _, _, _, _, _, n, c, h => by simp [layLocs, look] at h
  | (k, ts) :: r, xs, hf, hlen, hr, hl, hex, n, c, h => by
    simp only [fitsLocs, Bool.and_eq_true] at hf
    obtain ⟨⟨⟨h1, h2⟩, h3⟩, h4⟩ := hf
    have h1 := Nat.eq_of_beq_eq_true h1
    have h2 : k < n0 := Nat.le_of_ble_eq_true h2
    have h3 : 0 < ts.length := Nat.le_of_ble_eq_true h3
    simp only [locCells, List.length_append] at hlen hr
    have hsplit : ∀ us vs, relL P β (e.loc k) us → relL P β (locCells e r) vs → relL P β (xs.take ts.length) us ∧ relL P β (xs.drop ts.length) vs := fun us vs hu hv => by
      have := hr (us ++ vs) (relL_append hu hv)
      rw [← List.take_append_drop ts.length xs] at this
      obtain ⟨a, b, e', k1, k2⟩ := relL_append_inv this
      have la := relL_length k1
      have lu := relL_length hu
      have hx : (xs.take ts.length).length = ts.length := by simp; omega
      have := List.append_inj e'.symm (by omega)
      rw [this.1] at k1; rw [this.2] at k2
      exact ⟨k1, k2⟩
    have hexr : ∃ vs, relL P β (locCells e r) vs := ex_cells hex r
    obtain ⟨us0, hus0⟩ := hex k
    obtain ⟨vs0, hvs0⟩ := hexr
    simp only [layLocs, look_cons] at h
    by_cases hk : k = n
    · subst hk
      simp at h; subst h
      refine ⟨h2, leafs_mem.2 fun x hx => hl x (List.mem_of_mem_take hx), fun x hx => List.mem_of_mem_take hx, by omega, fun us hu => (hsplit us vs0 hu hvs0).1⟩
    · rw [if_neg hk] at h
      have ih := layLocs_look (w := w) h4 (xs := xs.drop ts.length) (by simp; omega) (fun vs hv => (hsplit us0 vs hus0 hv).2) (fun x hx => hl x (List.mem_of_mem_drop hx)) hex h
      exact ⟨ih.1, ih.2.1, fun x hx => List.mem_of_mem_drop (ih.2.2.1 x hx), ih.2.2.2⟩
where
  ex_cells {P : Program} {β : Nat → Nat} {e : Env} (hex : ∀ id, ∃ us, relL P β (e.loc id) us) : ∀ l : List (Nat × List Ty), ∃ vs, relL P β (locCells e l) vs
    | [] => ⟨[], by simp [locCells, relL]⟩
    | (n, ts) :: r => by
      obtain ⟨us, hu⟩ := hex n
      obtain ⟨vs, hv⟩ := ex_cells hex r
      exact ⟨us ++ vs, relL_append hu hv⟩
theorem layLocs_keys : ∀ (l : List (Nat × List Ty)) (xs : List SV), keys (layLocs l xs) = keys l
  | [], xs => rfl
  | (n, ts) :: r, xs => by simp [layLocs, keys, layLocs_keys r]
theorem give_sound {G : Gl} {C : Ctx} (hΦ : ∀ en ∈ C.Φ, Linked G.P en) {s0 s : St} (g0 : Good G s0) (g : Good G s) (le : Le s0 s) {j : Join} {wr : List Nat} (hwr : ∀ n ∈ wr, n < G.N) {K : Tup j.tys → HProp}
    (hK : j.give s0.e C.Φ wr s.e K s.h) : ∃ t, K t s.h ∧ Good G { s with e := j.take s0.e wr t } ∧ Le s0 { s with e := j.take s0.e wr t } := by
  unfold Join.give at hK
  split at hK
  case isFalse => simp [stuckW] at hK
  rename_i hc
  simp only [Bool.and_eq_true] at hc
  obtain ⟨⟨⟨c1, c2⟩, c3⟩, c4⟩ := hc
  obtain ⟨t, hK, hl1, hl2, hr, hb⟩ := packL_spec (β := s.β) (makes_pcClo hΦ) hK
  refine ⟨t, hK, ?_, ?_⟩
  rotate_left
  · refine ⟨le.beta, Nat.le_refl _, ⟨_, rfl⟩, ⟨_, rfl⟩, le.defers⟩
  obtain ⟨pre, hpre⟩ := le.slots
  obtain ⟨pre', hpre'⟩ := le.locs
  have hnk : newKeys (s.e.slots.length - s0.e.slots.length) s.e.slots = keys pre := by
    rw [hpre]
    have : (pre ++ s0.e.slots).length - s0.e.slots.length = pre.length := by simp
    rw [this, newKeys_append]
  have hnk' : newKeys (s.e.locs.length - s0.e.locs.length) s.e.locs = keys pre' := by
    rw [hpre']
    have : (pre' ++ s0.e.locs).length - s0.e.locs.length = pre'.length := by simp
    rw [this, newKeys_append]
  rw [hnk] at c3
  rw [hnk'] at c4
  have hsub := subset_spec c3
  have hsub' := subset_spec c4
  -- the leaves in two parts
  have hex : ∀ id, ∃ us, relL G.P s.β (s.e.loc id) us := fun id => by
    unfold Env.loc
    cases h : look s.e.locs id with
    | none => exact ⟨[], by simp [relL]⟩
    | some c => obtain ⟨_, _, _, cs, T, _, h5, _⟩ := g.locs id c h; exact ⟨_, h5⟩
  have hvals : relL G.P s.β (j.slots.map fun x => s.e.get x.1) (j.slots.map fun x => s.a.tmps.getD x.1 undef) := by
    have : ∀ l : List (Nat × Sh), relL G.P s.β (l.map fun x => s.e.get x.1) (l.map fun x => s.a.tmps.getD x.1 undef) := by
      intro l
      induction l with
      | nil => simp [relL]
      | cons x r ih =>
        obtain ⟨y, hy, h⟩ := rel_get g x.1
        exact relL_cons.2 ⟨_, _, rfl, by subst hy; exact h, ih⟩
    exact this _
  have hf := fitsAll_L c1
  obtain ⟨us0, hus0⟩ := shape_rel.cells_ex hf hvals
  rw [← slotCells_eq] at hus0
  obtain ⟨vs0, hvs0⟩ := layLocs_look.ex_cells hex j.locs
  let k := (tysOf (j.slots.map (·.2))).length
  have hkl : (slotCells s.e j.slots).length = k := by
    have h1 := fits_len hf
    rw [slotCells_eq]; exact h1
  have hlen := hl2
  have hlenT : j.tys.length = k + (locCells s.e j.locs).length := by
    rw [← hl1]; simp [hkl]
  have hsplit : ∀ us vs, relL G.P s.β (slotCells s.e j.slots) us → relL G.P s.β (locCells s.e j.locs) vs → relL G.P s.β ((unpackL j.tys t).take k) us ∧ relL G.P s.β ((unpackL j.tys t).drop k) vs := fun us vs hu hv => by
    have := hr (us ++ vs) (relL_append hu hv)
    rw [← List.take_append_drop k (unpackL j.tys t)] at this
    obtain ⟨a, b, e', k1, k2⟩ := relL_append_inv this
    have la := relL_length k1
    have lu := relL_length hu
    have hx : ((unpackL j.tys t).take k).length = k := by simp; omega
    have := List.append_inj e'.symm (by omega)
    rw [this.1] at k1; rw [this.2] at k2
    exact ⟨k1, k2⟩
  have hshape := shape_rel (us := us0) hf hvals (l := (unpackL j.tys t).take k) (fun us hu => (hsplit us vs0 (by rw [slotCells_eq]; exact hu) hvs0).1) (by
    rw [← slotCells_eq, hkl]; simp; omega)
  have hsolid := solid_shape (j.slots.map (·.2)) ((unpackL j.tys t).take k) (fun x hx => (solid_unpack _ _ x (List.mem_of_mem_take hx)).1)
  have hlocs : ∀ {n : Nat} {c : List SV}, look (layLocs j.locs ((unpackL j.tys t).drop k)) n = some c → _ := fun {n c} h => layLocs_look (P := G.P) (β := s.β) (w := s.w) c2 (xs := (unpackL j.tys t).drop k) (by simp; omega) (fun vs hv => (hsplit us0 vs hus0 hv).2) (fun x hx => (solid_unpack _ _ x (List.mem_of_mem_drop hx)).2) hex h
  -- what the new places come from
  have hold : ∀ id c, look (j.take s0.e wr t).locs id = some c → id < s0.e.nloc ∧ leafs c = true ∧ belowL s0.e.nloc c = true ∧ ∃ c', look s.e.locs id = some c' ∧ ∀ us, relL G.P s.β c' us → relL G.P s.β c us := by
    intro id c hc
    simp only [Join.take] at hc
    rw [look_append] at hc
    cases h1 : look (layLocs j.locs ((unpackL j.tys t).drop k)) id with
    | some c1 =>
      rw [h1] at hc
      simp only [Option.some.injEq] at hc
      subst hc
      obtain ⟨q1, q2, q3, q4, q5⟩ := hlocs h1
      refine ⟨q1, q2, belowL_mem.2 fun x hx => belowL_mem.1 (hb _) x (List.mem_of_mem_drop (q3 x hx)), ?_⟩
      unfold Env.loc at q4 q5
      cases h2 : look s.e.locs id with
      | none => simp [h2] at q4
      | some c' => simp only [h2] at q5; exact ⟨c', rfl, q5⟩
    | none =>
      rw [h1] at hc
      simp only [] at hc
      obtain ⟨p1, p2, p3, cs, T, p4, p5, p6, p7⟩ := g0.locs id c hc
      refine ⟨p1, p6, p7, c, ?_, fun us h => h⟩
      have hnot : id ∉ keys pre' := fun hin => by
        have : id ∈ keys j.locs := hsub' id (List.mem_filter.2 ⟨hin, by simpa using p1⟩)
        rw [← layLocs_keys j.locs ((unpackL j.tys t).drop k)] at this
        have := look_none_keys h1
        contradiction
      rw [hpre', look_append, look_keys hnot]
      exact hc
  refine ⟨g.size, ?_, ?_, ?_, ?_, g.part, g.keeps⟩
  · intro n v hn
    simp only [Join.take] at hn
    rw [List.append_assoc, look_append] at hn
    cases h1 : look ((keys j.slots).zip (shape (j.slots.map (·.2)) ((unpackL j.tys t).take k))) n with
    | some v1 =>
      rw [h1] at hn
      simp only [Option.some.injEq] at hn
      subst hn
      obtain ⟨q1, q2⟩ := zip_look hshape h1
      cases h2 : s.a.tmps[n]? with
      | none =>
        exfalso
        have : s.a.tmps.getD n undef = undef := by simp [Array.getD_eq_getD_getElem?, h2]
        rw [this] at q2
        exact rel_undef q2 (hsolid _ q1)
      | some x => exact ⟨x, rfl, by simpa [Array.getD_eq_getD_getElem?, h2] using q2⟩
    | none =>
      rw [h1] at hn
      simp only [] at hn
      rw [look_append, look_tomb] at hn
      by_cases hw : n ∈ wr
      · rw [if_pos hw] at hn
        simp only [Option.some.injEq] at hn
        subst hn
        have : n < s.a.tmps.size := by rw [g.size]; exact hwr n hw
        exact ⟨s.a.tmps[n], by simp [this], by simp [rel]⟩
      · rw [if_neg hw] at hn
        simp only [] at hn
        refine g.slots n v ?_
        rw [hpre, look_append, look_keys (fun hin => hw (hsub n hin))]
        exact hn
  · intro n v hn
    simp only [Join.take] at hn ⊢
    rw [List.append_assoc, look_append] at hn
    cases h1 : look ((keys j.slots).zip (shape (j.slots.map (·.2)) ((unpackL j.tys t).take k))) n with
    | some v1 =>
      rw [h1] at hn
      simp only [Option.some.injEq] at hn
      subst hn
      obtain ⟨q1, q2⟩ := zip_look hshape h1
      exact belowL_mem.1 (shape_below (belowL_take (hb _) _)) _ q1
    | none =>
      rw [h1] at hn
      simp only [] at hn
      rw [look_append, look_tomb] at hn
      by_cases hw : n ∈ wr
      · rw [if_pos hw] at hn
        simp only [Option.some.injEq] at hn
        subst hn
        simp [below]
      · rw [if_neg hw] at hn
        exact g0.wf n v hn
  · intro id c hc
    obtain ⟨q1, q2, q3, c', q4, q5⟩ := hold id c hc
    obtain ⟨p1, p2, p3, cs, T, p4, p5, p6, p7⟩ := g.locs id c' q4
    exact ⟨q1, p2, p3, cs, T, p4, q5 _ p5, q2, q3⟩
  · intro i j' c d hc hd he
    obtain ⟨_, _, _, c', q4, _⟩ := hold i c hc
    obtain ⟨_, _, _, d', q4', _⟩ := hold j' d hd
    exact g.inj i j' c' d' q4 q4' he
where
  look_none_keys {α : Type} : ∀ {a : List (Nat × α)} {n : Nat}, look a n = none → n ∉ keys a
    | [], n, _ => by simp [keys]
    | (k, v) :: r, n, h => by
      rw [look_cons] at h
      by_cases e : k = n
      · simp [e] at h
      · rw [if_neg e] at h
        simp only [keys, List.mem_cons, not_or]
        exact ⟨fun e' => e e'.symm, look_none_keys h⟩
  fits_len : ∀ {sh : List Sh} {args : List SV}, fitsL args sh = true → (cellsOf args).length = (tysOf sh).length
    | [], [], _ => rfl
    | [], _ :: _, h => by simp [fitsL] at h
    | _ :: _, [], h => by simp [fitsL] at h
    | s :: q, x :: r, h => by
      simp only [fitsL, Bool.and_eq_true] at h
      simp only [cellsOf, tysOf, List.length_append, fits_len h.2]
      congr 1
      cases s with
      | leaf t => cases x <;> simp_all [fits, SV.cells, Sh.tys]
      | agg ts =>
        cases x <;> simp [fits] at h
        simpa [SV.cells, Sh.tys] using h.1
end Go.Cz
namespace Go.Cz
variable [Inhabited DrawnP]
open Go
set_option linter.unusedSimpArgs false
set_option linter.unusedVariables false
set_option linter.unusedSectionVars false
section
variable {P : Program} {ops : Array Oper} {Q : Exit → Act → World → Prop}
/-- like wpAny, with constraints on the worlds: what an operation that is not yet taken needs -/
def wpC (P : Program) (ops : Array Oper) (Q : Exit → Act → World → Prop) (dep : Nat → Nat → Bool) : Nat → List (Nat × (World → Prop)) → Array Bool → Act → World → Prop
  | 0, _, listed, a, w => Region.ready .any ops listed = [] ∧ Q .normal a w
  | f + 1, cs, listed, a, w => (Region.ready .any ops listed = [] → Q .normal a w) ∧
    ∀ j ∈ Region.ready .any ops listed, wpOp P ops Q j (fun a' w' => (∀ c ∈ cs, dep j c.1 = false → c.2 w') ∧ wpC P ops Q dep f (cs.filter fun c => !dep j c.1) (listed.setIfInBounds j true) a' w') a w
theorem wpC_any {dep : Nat → Nat → Bool} : ∀ (f : Nat) (cs : List (Nat × (World → Prop))) (listed : Array Bool) (a : Act) (w : World), wpC P ops Q dep f cs listed a w → wpAny P .any ops Q f listed a w
  | 0, cs, listed, a, w, h => h
  | f + 1, cs, listed, a, w, h => ⟨h.1, fun j hj => wpOp_mono (fun a' w' h' => wpC_any f _ _ a' w' h'.2) (h.2 j hj)⟩
theorem wpC_sub {dep : Nat → Nat → Bool} : ∀ (f : Nat) (cs ds : List (Nat × (World → Prop))) (listed : Array Bool) (a : Act) (w : World), (∀ c ∈ ds, c ∈ cs) → wpC P ops Q dep f cs listed a w → wpC P ops Q dep f ds listed a w
  | 0, cs, ds, listed, a, w, _, h => h
  | f + 1, cs, ds, listed, a, w, hs, h => ⟨h.1, fun j hj => wpOp_mono (fun a' w' h' => ⟨fun c hc hd => h'.1 c (hs c hc) hd, wpC_sub f _ _ _ a' w' (fun c hc => by
      rw [List.mem_filter] at hc ⊢
      exact ⟨hs c hc.1, hc.2⟩) h'.2⟩) (h.2 j hj)⟩
/-- an operation gives a value in each world that meets S -/
def YieldsS (P : Program) (ops : Array Oper) (S : World → Prop) (o : Oper) (v : Value) (a : Act) : Prop :=
  (Region.wanted o (yielded ops a.tmps) = true ∧ ∀ w, S w → (execOp a.eval o).run P w = .ok (.value v) w) ∨
  (Region.wanted o (yielded ops a.tmps) = false ∧ v = undef)
theorem YieldsS.wpOp {S : World → Prop} {i : Nat} {o : Oper} {v : Value} {a : Act} (hi : ops[i]? = some o) (hy : YieldsS P ops S o v a)
    {K : Act → World → Prop} {w : World} (hs : S w) (h : K (a.put o.dst v) w) : wpOp P ops Q i K a w := by
  unfold Go.wpOp
  simp only [hi]
  rcases hy with ⟨hw, hv⟩ | ⟨hw, rfl⟩
  · simp only [hw, if_true, Oper.wp, hv w hs, Oper.upon]; exact .inl h
  · simp only [hw, Bool.false_eq_true, if_false]; exact h
theorem YieldsS.of_same {S : World → Prop} {o : Oper} {v : Value} {a a' : Act} (hy : YieldsS P ops S o v a) (he : execOp a'.eval o = execOp a.eval o)
    (hw : Region.wanted o (yielded ops a'.tmps) = Region.wanted o (yielded ops a.tmps)) : YieldsS P ops S o v a' := by
  unfold YieldsS at *
  rw [he, hw]
  exact hy
theorem wpOp_putS {S : World → Prop} {j : Nat} {oi oj : Oper} {v : Value} (hj : ops[j]? = some oj) (hap : oi.apart ops oj = true)
    (hsi : ∀ cs b, oi.op ≠ .select cs b) (hsj : ∀ cs b, oj.op ≠ .select cs b)
    (hQ : ∀ c a w, Q (.panic c) (a.put oi.dst v) w → Q (.panic c) a w) {K : Act → World → Prop} {a : Act} {w : World}
    (hy : YieldsS P ops S oi v a) (h : wpOp P ops Q j K (a.put oi.dst v) w) :
    wpOp P ops Q j (fun a' w' => YieldsS P ops S oi v a' ∧ K (a'.put oi.dst v) w') a w := by
  obtain ⟨h1, h2, h3⟩ := Oper.apart_spec hap
  have keep : ∀ (a : Act), YieldsS P ops S oi v a → ∀ u, YieldsS P ops S oi v (a.put oj.dst u) := fun a hy u =>
    hy.of_same (execOp_put oi hsi a oj.dst u h3) (wanted_put oi a oj.dst u h3)
  have keepD : ∀ d, YieldsS P ops S oi v { a with defers := d :: a.defers } := fun d => hy.of_same rfl rfl
  unfold wpOp at *
  simp only [hj] at *
  rw [wanted_put oj a oi.dst v h1] at h
  split
  · rename_i hw
    simp only [hw, if_true] at h
    rcases h with h | ⟨hasks, hlets⟩
    case inr => exact .inr ⟨by unfold Oper.asks at *; rw [execOp_put oj hsj a oi.dst v h1] at hasks; exact hasks, hlets⟩
    refine .inl ?_
    unfold Oper.wp at *
    rw [execOp_put oj hsj a oi.dst v h1] at h
    generalize (execOp a.eval oj).run P w = r at *
    cases r with
    | ok n w' =>
      cases n <;> simp only [Oper.upon] at h ⊢
      case value u => exact ⟨keep a hy u, by rw [← Act.put_comm a v u h2]; exact h⟩
      case skip => exact ⟨keep a hy _, by rw [← Act.put_comm a v undef h2]; exact h⟩
      case defer d =>
        refine ⟨keep _ (keepD d) _, ?_⟩
        rw [← Act.put_comm _ v undef h2, ← Act.put_defers]
        exact h
      case enter f args =>
        refine Calls.mono h fun e w'' he => ?_
        cases e with
        | returned u => exact ⟨keep a hy u, by rw [← Act.put_comm a v u h2]; exact he⟩
        | panicked c => exact hQ _ _ _ he
        | outgrown => exact he
      case row row args => exact Rows.mono h fun u w'' he => ⟨keep a hy u, by rw [← Act.put_comm a v u h2]; exact he⟩
    | halt x w' =>
      cases x <;> simp only [Oper.upon] at h ⊢
      case panic u => exact hQ _ _ _ h
  · rename_i hw
    simp only [hw] at h
    exact ⟨keep a hy _, by rw [← Act.put_comm a v undef h2]; exact h⟩
/-- what is listed is closed -/
def Closed (ops : Array Oper) (listed : Array Bool) : Prop := ∀ (k : Nat) (o : Oper), ops[k]? = some o → listed.getD k false = true → ∀ e ∈ o.after, Region.binds .any e = true → listed.getD e.on false = true
theorem Closed.set {listed : Array Bool} {j : Nat} (hc : Closed ops listed) (hj : j ∈ Region.ready .any ops listed) : Closed ops (listed.setIfInBounds j true) := by
  intro k o hk hl e he hb
  by_cases e' : j = k
  · subst e'
    obtain ⟨_, o', ho', h⟩ := mem_ready.1 hj
    rw [hk] at ho'; cases ho'
    exact getD_set_true (h e he hb)
  · rw [getD_set_ne false e'] at hl
    exact getD_set_true (hc k o hk hl e he hb)
/-- AN OPERATION MAY BE TAKEN FIRST that gives its value in each world in which the others may leave it. -/
theorem wpC_first {dep : Nat → Nat → Bool} {S : World → Prop} {i : Nat} {oi : Oper} {v : Value} (hi : ops[i]? = some oi) (hsel : ∀ (j : Nat) (o : Oper) cs b, ops[j]? = some o → o.op ≠ .select cs b)
    (hdep : ∀ (listed : Array Bool) (j k : Nat), Closed ops listed → j ∈ Region.ready .any ops listed → dep j k = true → listed.getD k false = true)
    (hap : ∀ (j : Nat) (oj : Oper), ops[j]? = some oj → j ≠ i → dep j i = false → dep i j = false → oi.apart ops oj = true)
    (hQ : ∀ c a w, Q (.panic c) (a.put oi.dst v) w → Q (.panic c) a w) :
    ∀ (f : Nat) (cs : List (Nat × (World → Prop))) (listed : Array Bool) (a : Act) (w : World), Closed ops listed →
      i ∈ Region.ready .any ops listed → YieldsS P ops S oi v a → S w → (∀ c ∈ cs, c.2 w) →
      wpC P ops Q dep f (cs ++ [(i, S)]) (listed.setIfInBounds i true) (a.put oi.dst v) w → wpC P ops Q dep (f + 1) cs listed a w := by
  intro f
  have unl : ∀ {listed : Array Bool} {k : Nat}, k ∈ Region.ready .any ops listed → listed.getD k false = false := by
    intro listed k hk
    have h0 := (mem_ready.1 hk).1
    rcases Nat.lt_or_ge k listed.size with h' | h'
    · simp [h'] at h0 ⊢; exact h0
    · simp [Array.getElem?_eq_none h'] at h0
  induction f with
  | zero =>
    intro cs listed a w hcl hr hy hs hcs H
    refine ⟨fun h => (by rw [h] at hr; cases hr), fun j hj => ?_⟩
    by_cases hji : j = i
    · subst hji; exact hy.wpOp hi hs ⟨fun c hc _ => hcs c hc, H⟩
    · have := ready_mono hj hji
      rw [H.1] at this
      cases this
  | succ f ih =>
    intro cs listed a w hcl hr hy hs hcs H
    refine ⟨fun h => (by rw [h] at hr; cases hr), fun j hj => ?_⟩
    by_cases hji : j = i
    · subst hji
      refine hy.wpOp hi hs ⟨fun c hc _ => hcs c hc, wpC_sub _ _ _ _ _ _ (fun c hc => ?_) H⟩
      rw [List.mem_filter] at hc
      exact List.mem_append.2 (.inl hc.1)
    · have h1 := H.2 j (ready_mono hj hji)
      obtain ⟨hjun, oj, hoj, hall⟩ := mem_ready.1 hj
      have d1 : dep j i = false := by
        cases hd : dep j i with
        | false => rfl
        | true => have := hdep listed j i hcl hj hd; rw [unl hr] at this; cases this
      have d2 : dep i j = false := by
        cases hd : dep i j with
        | false => rfl
        | true => have := hdep listed i j hcl hr hd; rw [unl hj] at this; cases this
      have h2 := wpOp_putS hoj (hap j oj hoj hji d1 d2) (fun cs b => hsel i oi cs b hi) (fun cs b => hsel j oj cs b hoj) hQ hy h1
      refine wpOp_mono (fun a' w' h3 => ?_) h2
      obtain ⟨h3, h4, h5⟩ := h3
      have hf : (cs ++ [(i, S)]).filter (fun c => !dep j c.1) = cs.filter (fun c => !dep j c.1) ++ [(i, S)] := by
        rw [List.filter_append]
        congr 1
        simp [d1]
      rw [hf] at h5
      refine ⟨fun c hc hd => h4 c (List.mem_append.2 (.inl hc)) hd, ih _ _ a' w' (hcl.set hj) (ready_mono hr (Ne.symm hji)) h3 (h4 (i, S) (by simp) d1) (fun c hc => ?_) ?_⟩
      · rw [List.mem_filter] at hc
        exact h4 c (List.mem_append.2 (.inl hc.1)) (by simpa using hc.2)
      · rw [Array.setIfInBounds_comm _ _ hji]
        exact h5
end
end Go.Cz
namespace Go.Cz
variable [Inhabited DrawnP]
open Go
set_option linter.unusedSimpArgs false
set_option linter.unusedVariables false
set_option linter.unusedSectionVars false
theorem wpC_weak {P : Program} {ops : Array Oper} {Q : Exit → Act → World → Prop} {dep : Nat → Nat → Bool} : ∀ (f : Nat) (cs ds : List (Nat × (World → Prop))) (listed : Array Bool) (a : Act) (w : World), (∀ c ∈ ds, c ∈ cs ∨ ∀ w, c.2 w) → wpC P ops Q dep f cs listed a w → wpC P ops Q dep f ds listed a w
  | 0, cs, ds, listed, a, w, _, h => h
  | f + 1, cs, ds, listed, a, w, hs, h => ⟨h.1, fun j hj => wpOp_mono (fun a' w' h' => ⟨fun c hc hd => (hs c hc).elim (fun hc => h'.1 c hc hd) (fun ht => ht w'), wpC_weak f _ _ _ a' w' (fun c hc => by
      rw [List.mem_filter] at hc
      rcases hs c hc.1 with h | h
      · exact .inl (List.mem_filter.2 ⟨h, hc.2⟩)
      · exact .inr h) h'.2⟩) (h.2 j hj)⟩
theorem hasBit_eq (m i : Nat) : hasBit m i = m.testBit i := by
  unfold hasBit
  rw [Nat.testBit_eq_decide_div_mod_eq]
  show Nat.beq ((m >>> i) &&& 1) 1 = _
  rw [Nat.and_one_is_mod, Nat.shiftRight_eq_div_pow]
  rw [Bool.eq_iff_iff, Nat.beq_eq, decide_eq_true_iff]
theorem tb1 (n : Nat) : Nat.testBit 1 n = decide (n = 0) := by
  cases n with
  | zero => rfl
  | succ n => rw [Nat.testBit_succ]; simp
theorem maskOf_bit : ∀ (l : List Nat) (i : Nat), (maskOf l).testBit i = l.elem i
  | [], i => by simp [maskOf]
  | k :: r, i => by
    have e : maskOf (k :: r) = (1 <<< k) ||| maskOf r := rfl
    rw [e, Nat.testBit_or, maskOf_bit r, Nat.testBit_shiftLeft]
    by_cases h : i = k
    · subst h; simp
    · by_cases h2 : k ≤ i
      · have h3 : ¬ i - k = 0 := by omega
        have h4 : Nat.testBit 1 (i - k) = false := by rw [tb1]; simp [h3]
        simp [h4, h]
      · simp [h2, h]
theorem hasBit_mask (l : List Nat) (i : Nat) : hasBit (maskOf l) i = l.elem i := by rw [hasBit_eq, maskOf_bit]
theorem within_iff (a b : Nat) : within a b = true ↔ ∀ i, a.testBit i = true → b.testBit i = true := by
  unfold within
  rw [Nat.beq_eq]
  show a &&& b = a ↔ _
  constructor
  · intro h i hi
    have : (a &&& b).testBit i = true := by rw [h]; exact hi
    rw [Nat.testBit_and] at this
    simp at this; exact this.2
  · intro h
    apply Nat.eq_of_testBit_eq
    intro i
    rw [Nat.testBit_and]
    cases ha : a.testBit i with
    | false => rfl
    | true => rw [h i ha]; rfl
theorem within_mask (a b : List Nat) : within (maskOf a) (maskOf b) = a.all fun i => b.elem i := by
  rw [Bool.eq_iff_iff, within_iff, List.all_eq_true]
  constructor
  · intro h i hi
    have := h i (by rw [maskOf_bit]; simpa using hi)
    rw [maskOf_bit] at this; exact this
  · intro h i hi
    rw [maskOf_bit] at hi ⊢
    exact h i (by simpa using hi)
theorem clos_prefix : ∀ (l : List Oper) (acc : List Nat) (e : Nat), e < acc.length → (clos l acc).getD e 0 = acc.getD e 0
  | [], acc, e, h => rfl
  | o :: r, acc, e, h => by
    rw [clos, clos_prefix r _ e (by simp; omega)]
    simp [List.getD_eq_getElem?_getD, List.getElem?_append_left h]
theorem closE_mem {acc : List Nat} {k : Nat} : ∀ {es : List Nat}, (closE acc es).testBit k = true → ∃ e ∈ es, k = e ∨ (acc.getD e 0).testBit k = true
  | [], h => by simp [closE] at h
  | e :: r, h => by
    have eq : closE acc (e :: r) = ((1 <<< e) ||| acc.getD e 0) ||| closE acc r := rfl
    rw [eq, Nat.testBit_or, Nat.testBit_or, Bool.or_eq_true, Bool.or_eq_true] at h
    rcases h with (h | h) | h
    · refine ⟨e, by simp, .inl ?_⟩
      rw [Nat.testBit_shiftLeft] at h
      simp only [Bool.and_eq_true, decide_eq_true_eq] at h
      have := h.2
      rw [tb1] at this
      simp at this; omega
    · exact ⟨e, by simp, .inr h⟩
    · obtain ⟨e', he', h⟩ := closE_mem h
      exact ⟨e', by simp [he'], h⟩
theorem clos_spec : ∀ (l : List Oper) (acc : List Nat) (j k : Nat), acc.length ≤ j → ((clos l acc).getD j 0).testBit k = true → ∃ o, l[j - acc.length]? = some o ∧ ∃ e ∈ edgesOf o, k = e ∨ (e < j ∧ ((clos l acc).getD e 0).testBit k = true)
  | [], acc, j, k, hj, h => by
    simp [clos, List.getD_eq_getElem?_getD, List.getElem?_eq_none hj] at h
  | o :: r, acc, j, k, hj, h => by
    rw [clos] at h ⊢
    by_cases hj' : j = acc.length
    · subst hj'
      rw [clos_prefix _ _ _ (by simp)] at h
      have : (acc ++ [closE acc (edgesOf o)]).getD acc.length 0 = closE acc (edgesOf o) := by simp [List.getD_eq_getElem?_getD]
      rw [this] at h
      obtain ⟨e, he, h⟩ := closE_mem h
      refine ⟨o, by simp, e, he, h.imp id fun h => ?_⟩
      have hlt : e < acc.length := by
        rcases Nat.lt_or_ge e acc.length with h' | h'
        · exact h'
        · simp [List.getD_eq_getElem?_getD, List.getElem?_eq_none h'] at h
      refine ⟨hlt, ?_⟩
      rw [clos_prefix _ _ _ (by simp; omega)]
      simpa [List.getD_eq_getElem?_getD, List.getElem?_append_left hlt] using h
    · obtain ⟨o', h1, h2⟩ := clos_spec r _ j k (by simp; omega) h
      refine ⟨o', ?_, h2⟩
      have : j - acc.length = (j - (acc.length + 1)) + 1 := by omega
      rw [this]
      simpa using h1
theorem edges_listed {ops : Array Oper} {listed : Array Bool} {o : Oper} (h : ∀ e ∈ o.after, Region.binds .any e = true → listed.getD e.on false = true) : ∀ e ∈ edgesOf o, listed.getD e false = true := by
  intro e he
  unfold edgesOf at he
  obtain ⟨x, hx, rfl⟩ := List.mem_map.1 he
  rw [List.mem_filter] at hx
  exact h x (by simpa using hx.1) hx.2
theorem dep_listed {ops : Array Oper} {listed : Array Bool} (hcl : Closed ops listed) : ∀ (j k : Nat), (∀ o, ops[j]? = some o → ∀ e ∈ edgesOf o, listed.getD e false = true) → depB (clos ops.toList []) j k = true → listed.getD k false = true := by
  intro j
  induction j using Nat.strongRecOn with
  | _ j ih =>
    intro k hj hd
    unfold depB at hd
    rw [hasBit_eq] at hd
    obtain ⟨o, ho, e, he, h⟩ := clos_spec ops.toList [] j k (by simp) hd
    have ho' : ops[j]? = some o := by simpa using ho
    have hel := hj o ho' e he
    rcases h with rfl | ⟨hlt, h⟩
    · exact hel
    · exact ih e hlt k (fun o' ho'' => edges_listed (ops := ops) (hcl e o' ho'' hel)) (by unfold depB; rw [hasBit_eq]; exact h)
theorem dep_ready {ops : Array Oper} (listed : Array Bool) (j k : Nat) (hcl : Closed ops listed) (hj : j ∈ Region.ready .any ops listed) (hd : depB (clos ops.toList []) j k = true) : listed.getD k false = true := by
  obtain ⟨_, o, ho, h⟩ := mem_ready.1 hj
  exact dep_listed hcl j k (fun o' ho' => by rw [ho] at ho'; cases ho'; exact edges_listed (ops := ops) h) hd
/-- the two lists of what is taken -/
structure LR (ops : Array Oper) (arr : Array Bool) (L : List Nat) : Prop where
  size : arr.size = ops.size
  mem : ∀ i, arr.getD i false = L.elem i
theorem LR.ready {ops : Array Oper} {arr : Array Bool} {L : List Nat} (h : LR ops arr L) (i : Nat) : i ∈ Region.ready .any ops arr ↔ readyB ops.toList L i = true := by
  rw [mem_ready]
  unfold readyB edgesM
  simp only [hasBit_mask, within_mask]
  have e0 : ops.toList[i]? = ops[i]? := by simp
  rw [e0]
  cases ho : ops[i]? with
  | none => simp
  | some o =>
    have hlt : i < arr.size := by rw [h.size]; exact (Array.getElem?_eq_some_iff.1 ho).1
    have e1 : arr.getD i true = arr.getD i false := by simp [hlt]
    rw [e1, h.mem]
    simp only [Bool.and_eq_true, Bool.not_eq_true', Option.some.injEq, exists_eq_left']
    constructor
    · rintro ⟨h1, h2⟩
      refine ⟨h1, ?_⟩
      rw [List.all_eq_true]
      intro e he
      have := edges_listed (ops := ops) h2 e he
      rw [h.mem] at this
      exact this
    · rintro ⟨h1, h2⟩
      refine ⟨h1, fun e he hb => ?_⟩
      rw [List.all_eq_true] at h2
      rw [h.mem]
      exact h2 e.on (by unfold edgesOf; exact List.mem_map.2 ⟨e, List.mem_filter.2 ⟨by simpa using he, hb⟩, rfl⟩)
theorem LR.set {ops : Array Oper} {arr : Array Bool} {L : List Nat} (h : LR ops arr L) {i : Nat} (hi : i ∈ Region.ready .any ops arr) : LR ops (arr.setIfInBounds i true) (i :: L) := by
  obtain ⟨_, o, ho, _⟩ := mem_ready.1 hi
  have hlt : i < arr.size := by rw [h.size]; exact (Array.getElem?_eq_some_iff.1 ho).1
  refine ⟨by simp [h.size], fun k => ?_⟩
  by_cases e : i = k
  · subst e; simp [hlt]
  · rw [getD_set_ne false e, h.mem]
    have : ¬ k = i := fun h => e h.symm
    simp [this]
theorem firstN_spec {P : Program} {ops : List Oper} {L : List Nat} : ∀ {l : List Nat} {i : Nat} {o : Oper}, firstN P ops L l = some (i, o) → ops[i]? = some o ∧ readyB ops L i = true ∧ (isN P o.op || isLoad o.op) = true
  | [], i, o, h => by simp [firstN] at h
  | k :: r, i, o, h => by
    simp only [firstN] at h
    cases ho : ops[k]? with
    | none => simp only [ho] at h; exact firstN_spec h
    | some o' =>
      simp only [ho] at h
      split at h
      · rename_i hc
        simp only [Bool.and_eq_true] at hc
        cases h
        exact ⟨ho, hc.1, hc.2⟩
      · exact firstN_spec h
theorem apart_of {ops : Array Oper} {x y : Oper} (h : apartL ops.toList x y = true) : x.apart ops y = true := by
  have looks : ∀ z : Oper, z.looksAt ops = looksL ops.toList z := by
    intro z
    unfold Oper.looksAt looksL
    congr 1
    · generalize z.op.operands.toList = l
      induction l with
      | nil => rfl
      | cons a r ih => cases a <;> simp [List.filterMap_cons, looksL.tmpsOf, ← ih]
    · cases z.guard with
      | none => rfl
      | some p =>
        obtain ⟨g, b⟩ := p
        simp only []
        have e : ops.toList[g]? = ops[g]? := by simp
        rw [e]
        cases ops[g]? with
        | none => rfl
        | some o => cases hd : o.dst <;> simp [hd]
  unfold apartL at h
  unfold Oper.apart
  simp only [Bool.and_eq_true] at h ⊢
  obtain ⟨h1, h2⟩ := h
  rw [looks x, looks y]
  constructor
  · cases hx : x.dst with
    | none => simp [hx]
    | some d =>
      simp only [hx, Bool.and_eq_true] at h1 ⊢
      refine ⟨by simpa using h1.1, ?_⟩
      cases hy : y.dst with
      | none => simp
      | some e =>
        have := h1.2
        simp only [hy, Bool.not_eq_true'] at this
        have hne : e ≠ d := fun e' => by subst e'; simp at this
        simp [hne]
  · cases hy : y.dst with
    | none => simp [hy]
    | some d => simp only [hy] at h2 ⊢; simpa using h2
theorem noSel_of : ∀ {l : List Oper}, noSelL l = true → ∀ o ∈ l, ∀ cs b, o.op ≠ .select cs b
  | [], _, o, ho, cs, b => by simp at ho
  | x :: r, h, o, ho, cs, b => by
    simp only [noSelL, Bool.and_eq_true] at h
    rcases List.mem_cons.1 ho with rfl | ho
    · intro e; rw [e] at h; simp at h
    · exact noSel_of h.2 o ho cs b
end Go.Cz
namespace Go.Cz
variable [Inhabited DrawnP]
open Go
set_option linter.unusedSimpArgs false
set_option linter.unusedVariables false
set_option linter.unusedSectionVars false
structure RecOk (s : St) (c : Rec) : Prop where
  heap : ∀ a, c.pl = .heap a → ∀ j u, c.vs[j]? = some u → s.h.cell? (a.add j) = some u
  loc : ∀ id off, c.pl = .loc id off → ∃ l, look s.e.locs id = some l ∧ toVs ((l.drop off).take c.vs.length) = some c.vs
def Con (s : St) (c : Rec) : Nat × (World → Prop) := (c.i, fun w => Reads w (c.pl.addr s.β) c.vs)
section
variable {G : Gl} {s : St}
theorem RecOk.reads {c : Rec} (g : Good G s) (h : RecOk s c) : Reads s.w (c.pl.addr s.β) c.vs := by
  cases hp : c.pl with
  | heap a => intro j u hj; exact g.part.cell (h.heap a hp j u hj)
  | loc id off =>
    obtain ⟨l, hl, hv⟩ := h.loc id off hp
    obtain ⟨h1, h2, h3, cs, T, h4, h5, h6, h7⟩ := g.locs id l hl
    have e := toVs_rel hv (relL_take c.vs.length (relL_drop off h5))
    intro j u hj
    have hj' : ((cs.toList.drop off).take c.vs.length)[j]? = some u := by rw [e]; exact hj
    have hc : cs[off + j]? = some u := by
      rw [List.getElem?_take] at hj'
      split at hj'
      · simpa using hj'
      · cases hj'
    show s.w.cell? ((⟨s.β id, off, none⟩ : Addr).add j) = some u
    rw [loc_add]
    simp [World.cell?, h4, hc]
theorem guarded_spec {ops : Array Oper} {o : Oper} {run pass : Env → HProp} (g : Good G s) (hK : guarded ops.toList o s.e run pass s.h) :
    ∃ e1, Good G { s with e := e1 } ∧ Le s { s with e := e1 } ∧ e1.locs = s.e.locs ∧ e1.nloc = s.e.nloc ∧
      ((Region.wanted o (yielded ops s.a.tmps) = true ∧ run e1 s.h) ∨ (Region.wanted o (yielded ops s.a.tmps) = false ∧ pass e1 s.h)) := by
  unfold guarded at hK
  cases hg : o.guard with
  | none =>
    simp only [hg] at hK
    exact ⟨s.e, g, Le.refl s, rfl, rfl, .inl ⟨by simp [Region.wanted, hg], hK⟩⟩
  | some jw =>
    obtain ⟨j, want⟩ := jw
    simp only [hg] at hK
    cases hoj : ops.toList[j]? with
    | none => simp [hoj, stuckW] at hK
    | some oj =>
    simp only [hoj] at hK
    cases hds : oj.dst with
    | none => simp [hds, stuckW] at hK
    | some d =>
      simp only [hds] at hK
      have hdst : dstOf ops j = some d := by simp [dstOf, hoj, hds]
      obtain ⟨x, hx, hr⟩ := rel_get g d
      have hsl : s.e.get d ≠ .und → s.a.tmps[d]? = some x := by
        intro hne
        unfold Env.get at hne hr
        cases hl : look s.e.slots d with
        | none => simp [hl] at hne
        | some v =>
          obtain ⟨y, hy, _⟩ := g.slots d v hl
          simp [Array.getD_eq_getD_getElem?, hy] at hx
          rw [hy, hx]
      generalize hq : s.e.get d = q at hK hr hsl
      cases q <;> first | (simp [stuckW] at hK; done) | skip
      case tup l =>
        cases l with
        | cons x r => simp [stuckW] at hK
        | nil =>
          simp only [] at hK
          simp only [rel] at hr
          obtain ⟨vs, rfl, hvs⟩ := hr
          have hvs : vs.toList = [] := by simpa [relL] using hvs
          have hvs : vs = #[] := by simpa using hvs
          subst hvs
          have hy := yielded_undef (ops := ops) hdst hx
          exact ⟨s.e, g, Le.refl s, rfl, rfl, .inr ⟨by simp [Region.wanted, hg, hy], hK⟩⟩
      case t c =>
        simp only [] at hK
        simp only [rel] at hr
        subst hr
        have hy := yielded_of (ops := ops) hdst hx
        refine ⟨s.e, g, Le.refl s, rfl, rfl, ?_⟩
        by_cases hcw : c = want
        · subst hcw
          simp only [if_true] at hK
          exact .inl ⟨by simp [Region.wanted, hg, hy], hK⟩
        · rw [if_neg hcw] at hK
          exact .inr ⟨by simp [Region.wanted, hg, hy, hcw], hK⟩
      case b c =>
        simp only [] at hK
        simp only [rel] at hr
        subst hr
        have hy := yielded_of (ops := ops) hdst hx
        have hv := hsl (by simp)
        refine ⟨s.e.put (some d) (.t c), g.learn hv, Le.learn, rfl, rfl, ?_⟩
        unfold iteW at hK
        cases c <;> cases want <;> simp only [if_true, Bool.false_eq_true, if_false] at hK
        · exact .inl ⟨by simp [Region.wanted, hg, hy], hK⟩
        · exact .inr ⟨by simp [Region.wanted, hg, hy], hK⟩
        · exact .inr ⟨by simp [Region.wanted, hg, hy], hK⟩
        · exact .inl ⟨by simp [Region.wanted, hg, hy], hK⟩
theorem sameW_spec {e e' : Env} {K : HProp} {h : H} : ∀ {l : List Rec}, sameW e e' l K h → K h ∧ ∀ c ∈ l, (∀ a, c.pl = .heap a → ∀ j u, c.vs[j]? = some u → h.cell? (a.add j) = some u) ∧
    (∀ id off, c.pl = .loc id off → (newKeys (e'.locs.length - e.locs.length) e'.locs).elem id = false)
  | [], hK => ⟨hK, fun c hc => by simp at hc⟩
  | c :: r, hK => by
    simp only [sameW] at hK
    cases hp : c.pl with
    | heap a =>
      simp only [hp] at hK
      unfold keepsW at hK
      obtain ⟨h1, h2⟩ := hK
      obtain ⟨h3, h4⟩ := sameW_spec h2
      refine ⟨h3, fun c' hc' => ?_⟩
      rcases List.mem_cons.1 hc' with rfl | hc'
      · exact ⟨fun b hb => by rw [hp] at hb; cases hb; exact h1, fun id off hb => by rw [hp] at hb; cases hb⟩
      · exact h4 c' hc'
    | loc id off =>
      simp only [hp] at hK
      cases he : (newKeys (e'.locs.length - e.locs.length) e'.locs).elem id with
      | true => simp only [he, if_true] at hK; simp [stuckW] at hK
      | false =>
        simp only [he, Bool.false_eq_true, if_false] at hK
        obtain ⟨h3, h4⟩ := sameW_spec hK
        refine ⟨h3, fun c' hc' => ?_⟩
        rcases List.mem_cons.1 hc' with rfl | hc'
        · exact ⟨fun b hb => (by rw [hp] at hb; cases hb), fun id' off' hb => (by rw [hp] at hb; cases hb; exact he)⟩
        · exact h4 c' hc'
theorem fold_both {F : Nat → Option HProp} {h : H} : ∀ {l : List Nat}, ((l.foldr (fun j acc => match F j with | some A => drawOps.bothL A acc | none => drawOps.stuckO) none).getD stuckW) h → ∀ j ∈ l, ∃ A, F j = some A ∧ A h
  | [], hK => by simp [stuckW] at hK
  | j :: r, hK => by
    simp only [List.foldr_cons] at hK
    generalize hacc : r.foldr (fun j acc => match F j with | some A => drawOps.bothL A acc | none => drawOps.stuckO) none = acc at hK
    cases hF : F j with
    | none => simp [hF, drawOps.stuckO, stuckW] at hK
    | some A =>
      simp only [hF] at hK
      intro k hk
      cases acc with
      | none =>
        simp only [drawOps.bothL, Option.getD_some] at hK
        rcases List.mem_cons.1 hk with rfl | hk
        · exact ⟨A, hF, hK⟩
        · -- the rest is empty
          cases r with
          | nil => simp at hk
          | cons x r =>
            simp only [List.foldr_cons] at hacc
            cases hFx : F x with
            | none => simp [hFx, drawOps.stuckO] at hacc
            | some B =>
              simp only [hFx] at hacc
              generalize List.foldr (fun j acc => match F j with | some A => drawOps.bothL A acc | none => drawOps.stuckO) none r = y at hacc
              cases y <;> simp [drawOps.bothL] at hacc
      | some B =>
        simp only [drawOps.bothL, Option.getD_some] at hK
        unfold bothW at hK
        rcases List.mem_cons.1 hk with rfl | hk
        · exact ⟨A, hF, hK.1⟩
        · refine fold_both (l := r) ?_ k hk
          rw [hacc]
          exact hK.2
theorem fold_ne {F : Nat → Option HProp} {h : H} {l : List Nat} (hK : ((l.foldr (fun j acc => match F j with | some A => drawOps.bothL A acc | none => drawOps.stuckO) none).getD stuckW) h) : l ≠ [] := by
  rintro rfl
  simp [stuckW] at hK
end
end Go.Cz
namespace Go.Cz
variable [Inhabited DrawnP]
open Go
set_option linter.unusedSimpArgs false
set_option linter.unusedVariables false
set_option linter.unusedSectionVars false
theorem apartAll_spec {ops : Array Oper} {cl : List Nat} (h : apartAll ops.toList cl = true) {i j : Nat} {oi oj : Oper} (hi : ops[i]? = some oi) (hj : ops[j]? = some oj)
    (hne : j ≠ i) (d1 : depB cl j i = false) (d2 : depB cl i j = false) : oi.apart ops oj = true := by
  unfold apartAll at h
  rw [List.all_eq_true] at h
  have hi' := (Array.getElem?_eq_some_iff.1 hi).1
  have hj' := (Array.getElem?_eq_some_iff.1 hj).1
  have h1 := h i (by simpa using hi')
  rw [List.all_eq_true] at h1
  have h2 := h1 j (by simpa using hj')
  have hb : Nat.beq i j = false := by
    cases hb : Nat.beq i j
    · rfl
    · exact absurd (Nat.eq_of_beq_eq_true hb).symm hne
  have e1 : ops.toList[i]? = some oi := by simpa using hi
  have e2 : ops.toList[j]? = some oj := by simpa using hj
  simp only [hb, d1, d2, Bool.false_or, e1, e2] at h2
  exact apart_of h2
section
variable {G : Gl}
theorem ready_nil {ops : Array Oper} {arr : Array Bool} {L : List Nat} (hL : LR ops arr L) (h : allListed ops.toList.length L = true) : Region.ready .any ops arr = [] := by
  rw [List.eq_nil_iff_forall_not_mem]
  intro i hi
  obtain ⟨_, o, ho, _⟩ := mem_ready.1 hi
  have hr := (hL.ready i).1 hi
  have hlt := (Array.getElem?_eq_some_iff.1 ho).1
  unfold allListed at h
  rw [within_mask, List.all_eq_true] at h
  have := h i (by simpa using hlt)
  have e1 : ops.toList[i]? = some o := by simpa using ho
  simp only [readyB, e1, hasBit_mask, this, Bool.not_true, Bool.false_and] at hr
  cases hr
theorem fold_eq {f g : Nat → Option HProp → Option HProp} (h : ∀ j acc, f j acc = g j acc) {l : List Nat} {hh : H} (hK : (l.foldr f none).getD stuckW hh) : (l.foldr g none).getD stuckW hh := by
  have e : f = g := funext fun j => funext (h j)
  subst e; exact hK
theorem draw_sound {C : Ctx} (hC : C.P = G.P) (hE : ∀ x ∈ C.eqs, eqStructT G.P x.1 x.2 = true) (hΦ : ∀ en ∈ C.Φ, Linked G.P en) {Q : Exit → Act → World → Prop} (hQ : LetsOut Q → False)
    (hP : ∀ c a w, ¬ Q (.panic c) a w) {ops : Array Oper} (hsel : noSelL ops.toList = true) (hap : apartAll ops.toList (clos ops.toList []) = true)
    (hd : ∀ o ∈ ops.toList, ∀ n, o.dst = some n → n < G.N) {K : Env → HProp} : ∀ (f : Nat) (L : List Nat) (arr : Array Bool) (cs : List Rec) (s : St), Good G s → LR ops arr L → Closed ops arr → (∀ c ∈ cs, RecOk s c) →
    drawOps C ops.toList (clos ops.toList []) f L cs s.e K s.h → (∀ s', K s'.e s'.h → Good G s' → Le s s' → Q .normal s'.a s'.w) →
    wpC G.P ops Q (depB (clos ops.toList [])) f (cs.map (Con s)) arr s.a s.w := by
  intro f
  have sel : ∀ (j : Nat) (o : Oper) cs b, ops[j]? = some o → o.op ≠ .select cs b := fun j o cs b ho => noSel_of hsel o (by
    have : ops.toList[j]? = some o := by simpa using ho
    exact List.mem_of_getElem? this) cs b
  induction f with
  | zero =>
    intro L arr cs s g hL hcl hcs hK hn
    simp only [drawOps] at hK
    split at hK
    · rename_i hall
      exact ⟨ready_nil hL hall, hn s hK g (Le.refl s)⟩
    · simp [stuckW] at hK
  | succ f ih =>
    intro L arr cs s g hL hcl hcs hK hn
    simp only [drawOps] at hK
    cases hf : firstN C.P ops.toList L (List.range ops.toList.length) with
    | some io =>
      obtain ⟨i, o⟩ := io
      simp only [hf] at hK
      obtain ⟨ho', hr, hN⟩ := firstN_spec hf
      have hi : ops[i]? = some o := by simpa using ho'
      have hmem : o ∈ ops.toList := List.mem_of_getElem? ho'
      have hready := (hL.ready i).2 hr
      obtain ⟨e1, g1, le1, hlocs, hnloc, hK⟩ := guarded_spec g hK
      -- the step, for any value
      have go : ∀ (S : World → Prop) (v : Value) (sv : SV) (cs' : List Rec), YieldsS G.P ops S o v s.a → S s.w → rel G.P s.β sv v → below e1.nloc sv = true →
          (∀ c ∈ cs', RecOk { s with e := e1.put o.dst sv, a := s.a.put o.dst v } c) →
          (∀ x ∈ cs.map (Con s) ++ [(i, S)], x ∈ cs'.map (Con s) ∨ ∀ w, x.2 w) →
          drawOps C ops.toList (clos ops.toList []) f (i :: L) cs' (e1.put o.dst sv) K s.h → wpC G.P ops Q (depB (clos ops.toList [])) (f + 1) (cs.map (Con s)) arr s.a s.w := by
        intro S v sv cs' hy hs hrel hbel hcs' hsub hK
        have g2 : Good G { s with e := e1.put o.dst sv, a := s.a.put o.dst v } := Good.put (s := { s with e := e1 }) g1 hrel (hd o hmem) hbel
        have le2 : Le s { s with e := e1.put o.dst sv, a := s.a.put o.dst v } := le1.trans (Le.put (s := { s with e := e1 }) _ _ _)
        have H := ih (i :: L) _ cs' _ g2 (hL.set hready) (hcl.set hready) hcs' hK fun s' hK' g' le' => hn s' hK' g' (le2.trans le')
        refine wpC_first hi sel (fun listed j k hc hj hdp => dep_ready listed j k hc hj hdp) (fun j oj hoj hne d1 d2 => apartAll_spec hap hi hoj hne d1 d2)
          (fun c a w h => absurd h (hP _ _ _)) f (cs.map (Con s)) arr s.a s.w hcl hready hy hs (fun c hc => ?_) ?_
        · obtain ⟨c', hc', rfl⟩ := List.mem_map.1 hc
          exact (hcs c' hc').reads g
        · exact wpC_weak f _ _ _ _ _ hsub H
      have keep : ∀ (sv : SV) (v : Value), ∀ c ∈ cs, RecOk { s with e := e1.put o.dst sv, a := s.a.put o.dst v } c := by
        intro sv v c hc
        refine ⟨(hcs c hc).heap, fun id off hp => ?_⟩
        obtain ⟨l, hl, h⟩ := (hcs c hc).loc id off hp
        refine ⟨l, ?_, h⟩
        have : (e1.put o.dst sv).locs = s.e.locs := by rw [← hlocs]; cases o.dst <;> rfl
        show look (e1.put o.dst sv).locs id = some l
        rw [this]; exact hl
      have sub0 : ∀ x ∈ cs.map (Con s) ++ [(i, fun _ : World => True)], x ∈ cs.map (Con s) ∨ ∀ w, x.2 w := by
        intro x hx
        rcases List.mem_append.1 hx with h | h
        · exact .inl h
        · rw [List.mem_singleton] at h
          subst h
          exact .inr fun _ => trivial
      rcases hK with ⟨hw, hK⟩ | ⟨hw, hK⟩
      · have doN : isN C.P o.op = true → doOp C o e1 (fun e' => drawOps C ops.toList (clos ops.toList []) f (i :: L) cs e' K) s.h → wpC G.P ops Q (depB (clos ops.toList [])) (f + 1) (cs.map (Con s)) arr s.a s.w := by
          intro hN hK
          obtain ⟨sv, v, hK, hrel, hbel, hrun⟩ := doOp_yl (s := { s with e := e1 }) hC hE g1 (by rw [← hC]; exact hN) hK
          exact go (fun _ => True) v sv cs (.inl ⟨hw, hrun⟩) trivial hrel hbel (keep sv v) sub0 hK
        cases hop : o.op
        case load t x =>
          simp only [hop] at hK
          rw [hC] at hK
          obtain ⟨pl, sv, v, vs, hK, hrel, hbel, hcells, hreads, hheap, hloc, hrun⟩ := load_yl (s := { s with e := e1 }) g1 hop hK
          cases hv : toVs sv.cells with
          | none => simp [hv, stuckW] at hK
          | some us =>
            simp only [hv] at hK
            have := toVs_rel hv hcells
            subst this
            refine go (fun w => Reads w (pl.addr s.β) vs) v sv (cs ++ [⟨i, pl, vs⟩]) (.inl ⟨hw, hrun⟩) hreads hrel hbel (fun c hc => ?_) (fun x hx => .inl ?_) hK
            · rcases List.mem_append.1 hc with h | h
              · exact keep sv v c h
              · rw [List.mem_singleton] at h
                subst h
                refine ⟨hheap, fun id off hp => ?_⟩
                obtain ⟨c, hc1, hc2⟩ := hloc id off hp
                have hl : (e1.put o.dst sv).locs = e1.locs := by cases o.dst <;> rfl
                refine ⟨c, by show look (e1.put o.dst sv).locs id = some c; rw [hl]; exact hc1, ?_⟩
                show toVs ((c.drop off).take vs.length) = some vs
                rw [← hc2]; exact hv
            · rw [List.map_append]
              exact hx
        all_goals
          have hN' : isN C.P o.op = true := by
            simp only [hop, isLoad, Bool.or_false] at hN
            rw [hop]; exact hN
          refine doN hN' ?_
          simp only [hop] at hK
          exact hK
      · exact go (fun _ => True) undef (.tup []) cs (.inr ⟨hw, rfl⟩) trivial rel_tup0 below_tup0 (keep _ _) sub0 hK
    | none =>
      simp only [hf] at hK
      split at hK
      · rename_i hall
        have hr := ready_nil hL hall
        refine ⟨fun _ => hn s hK g (Le.refl s), fun j hj => ?_⟩
        rw [hr] at hj; cases hj
      · rename_i hall
        let F : Nat → Option HProp := fun j => match ops.toList[j]? with
          | some o => some (guarded ops.toList o s.e
              (fun e => doOp C o e fun e' => sameW e e' (cs.filter fun c => !depB (clos ops.toList []) j c.i) (drawOps C ops.toList (clos ops.toList []) f (j :: L) (cs.filter fun c => !depB (clos ops.toList []) j c.i) e' K))
              (fun e => drawOps C ops.toList (clos ops.toList []) f (j :: L) (cs.filter fun c => !depB (clos ops.toList []) j c.i) (e.put o.dst (.tup [])) K))
          | none => none
        have hK := fold_eq (g := fun j acc => match F j with | some A => drawOps.bothL A acc | none => drawOps.stuckO) (fun j acc => by
          simp only [F]
          cases ops.toList[j]? <;> rfl) hK
        have hK' := fold_both hK
        have hne := fold_ne hK
        refine ⟨fun h0 => ?_, fun j hj => ?_⟩
        · exfalso
          obtain ⟨x, hx⟩ := List.exists_mem_of_ne_nil _ hne
          rw [List.mem_filter] at hx
          have := (hL.ready x).2 hx.2
          rw [h0] at this; cases this
        · obtain ⟨_, o, ho, _⟩ := mem_ready.1 hj
          have ho' : ops.toList[j]? = some o := by simpa using ho
          have hmem : o ∈ ops.toList := List.mem_of_getElem? ho'
          have hlt := (Array.getElem?_eq_some_iff.1 ho).1
          obtain ⟨A, hA, hAh⟩ := hK' j (List.mem_filter.2 ⟨by simpa using hlt, (hL.ready j).1 hj⟩)
          simp only [F, ho', Option.some.injEq] at hA
          subst hA
          obtain ⟨e1, g1, le1, hlocs, hnloc, hK2⟩ := guarded_spec g hAh
          have conv : ∀ (s' : St), Le s s' → ∀ c ∈ cs, Con s' c = Con s c := by
            intro s' le c hc
            unfold Con
            congr 1
            funext w
            congr 1
            cases hp : c.pl with
            | heap a => rfl
            | loc id off =>
              obtain ⟨l, hl, _⟩ := (hcs c hc).loc id off hp
              simp only [Pl.addr, le.beta id (g.locs id l hl).1]
          have fin : ∀ (s' : St), Le s s' → Good G s' → (∀ c ∈ cs.filter (fun c => !depB (clos ops.toList []) j c.i), RecOk s' c) →
              drawOps C ops.toList (clos ops.toList []) f (j :: L) (cs.filter fun c => !depB (clos ops.toList []) j c.i) s'.e K s'.h →
              (∀ c ∈ cs.map (Con s), depB (clos ops.toList []) j c.1 = false → c.2 s'.w) ∧ wpC G.P ops Q (depB (clos ops.toList [])) f ((cs.map (Con s)).filter fun c => !depB (clos ops.toList []) j c.1) (arr.setIfInBounds j true) s'.a s'.w := by
            intro s' le' g' hok hK'
            constructor
            · intro c hc hdp
              obtain ⟨c', hc', rfl⟩ := List.mem_map.1 hc
              have := (hok c' (List.mem_filter.2 ⟨hc', by simpa [Con] using hdp⟩)).reads g'
              have e := conv s' le' c' hc'
              rw [← e]
              exact this
            · have H := ih (j :: L) _ _ s' g' (hL.set hj) (hcl.set hj) hok hK' fun s'' hK'' g'' le'' => hn s'' hK'' g'' (le'.trans le'')
              have e : (cs.map (Con s)).filter (fun c => !depB (clos ops.toList []) j c.1) = (cs.filter fun c => !depB (clos ops.toList []) j c.i).map (Con s') := by
                rw [List.filter_map]
                have : (cs.filter ((fun c : Nat × (World → Prop) => !depB (clos ops.toList []) j c.1) ∘ Con s)) = cs.filter fun c => !depB (clos ops.toList []) j c.i := rfl
                rw [this]
                refine List.map_congr_left fun c hc => ?_
                exact (conv s' le' c (List.mem_filter.1 hc).1).symm
              rw [e]
              exact H
          unfold wpOp
          simp only [ho]
          rcases hK2 with ⟨hw, hK2⟩ | ⟨hw, hK2⟩
          · rw [if_pos hw]
            refine .inl (doOp_sound (s := { s with e := e1 }) hC hE hΦ hQ g1 (hd o hmem) (fun s' hK' g' le' => ?_) hK2)
            obtain ⟨hK', hsame⟩ := sameW_spec hK'
            refine fin s' (le1.trans le') g' (fun c hc => ⟨(hsame c hc).1, fun id off hp => ?_⟩) hK'
            obtain ⟨l, hl, hv⟩ := (hcs c (List.mem_filter.1 hc).1).loc id off hp
            refine ⟨l, ?_, hv⟩
            obtain ⟨pre, hpre⟩ := le'.locs
            have hnk := (hsame c hc).2 id off hp
            have hpre : s'.e.locs = pre ++ e1.locs := hpre
            have hlen : s'.e.locs.length - e1.locs.length = pre.length := by rw [hpre]; simp
            rw [hlen, hpre, newKeys_append] at hnk
            rw [hpre, look_append, look_keys (by simpa using hnk), hlocs]
            exact hl
          · rw [if_neg (by rw [hw]; simp)]
            refine fin { s with e := e1.put o.dst (.tup []), a := s.a.put o.dst undef } (le1.trans (Le.put (s := { s with e := e1 }) _ _ _)) (Good.put (s := { s with e := e1 }) g1 rel_tup0 (hd o hmem) below_tup0) (fun c hc => ?_) hK2
            refine ⟨(hcs c (List.mem_filter.1 hc).1).heap, fun id off hp => ?_⟩
            obtain ⟨l, hl, h⟩ := (hcs c (List.mem_filter.1 hc).1).loc id off hp
            refine ⟨l, ?_, h⟩
            have : (e1.put o.dst (SV.tup [])).locs = s.e.locs := by rw [← hlocs]; cases o.dst <;> rfl
            show look (e1.put o.dst (SV.tup [])).locs id = some l
            rw [this]; exact hl
end
end Go.Cz
namespace Go.Cz
variable [Inhabited DrawnP]
open Go
set_option linter.unusedSimpArgs false
set_option linter.unusedVariables false
set_option linter.unusedSectionVars false
theorem rep_getD (n i : Nat) : (Array.replicate n false).getD i false = false := by
  rw [Array.getD_eq_getD_getElem?, Array.getElem?_replicate]; split <;> rfl
def ExRel : Exit → Ex → Prop
  | .normal, .normal => True
  | .exit n, .exit m => n = m
  | .ret, .ret => True
  | _, _ => False
/-- what a piece of code comes to -/
def Post (G : Gl) (s : St) (K : Ex → Env → HProp) : Exit → Act → World → Prop := fun x a w => ∃ x' s', ExRel x x' ∧ s'.a = a ∧ s'.w = w ∧ K x' s'.e s'.h ∧ Good G s' ∧ Le s s'
theorem Post.out {G : Gl} {s : St} {K : Ex → Env → HProp} : LetsOut (Post G s K) → False := by
  rintro ⟨a, w, x', s', h, _⟩
  cases x' <;> exact h
theorem Post.nopanic {G : Gl} {s : St} {K : Ex → Env → HProp} : ∀ c a w, ¬ Post G s K (.panic c) a w := by
  rintro c a w ⟨x', s', h, _⟩
  cases x' <;> exact h
theorem Post.mk {G : Gl} {s s' : St} {K : Ex → Env → HProp} {x : Exit} {x' : Ex} (hx : ExRel x x') (hK : K x' s'.e s'.h) (g : Good G s') (le : Le s s') : Post G s K x s'.a s'.w := ⟨x', s', hx, rfl, rfl, hK, g, le⟩
theorem Post.le {G : Gl} {s s1 : St} {K : Ex → Env → HProp} {x : Exit} {a : Act} {w : World} (le : Le s s1) (h : Post G s1 K x a w) : Post G s K x a w := by
  obtain ⟨x', s', h1, h2, h3, h4, h5, h6⟩ := h
  exact ⟨x', s', h1, h2, h3, h4, h5, le.trans h6⟩
set_option maxHeartbeats 4000000 in
theorem interp_sound {G : Gl} {C : Ctx} (hC : C.P = G.P) (hm : G.P.follows .mixedOrders = true) (hE : ∀ x ∈ C.eqs, eqStructT G.P x.1 x.2 = true) (hΦ : ∀ en ∈ C.Φ, Linked G.P en) (ann : List (Nat × Join)) : ∀ (c : Code) (i : Nat) (s : St) (K : Ex → Env → HProp), Good G s → (∀ n ∈ writes c, n < G.N) →
    interp C ann c i s.e K s.h → c.wp G.P (Post G s K) s.a s.w := by
  intro c
  induction c with
  | skip => intro i s K g hw hK; exact wp_skip (Post.mk (x' := .normal) trivial hK g (Le.refl s))
  | ret => intro i s K g hw hK; exact wp_ret (Post.mk (x' := .ret) trivial hK g (Le.refl s))
  | label n => intro i s K g hw hK; exact wp_label (Post.mk (x' := .normal) trivial hK g (Le.refl s))
  | exit n => intro i s K g hw hK; exact wp_exit (Post.mk (x' := .exit n) rfl hK g (Le.refl s))
  | region id ops draw =>
    intro i s K g hw hK
    simp only [interp] at hK
    cases draw with
    | true =>
      have hwo : ∀ o ∈ ops.toList, ∀ n, o.dst = some n → n < G.N := fun o ho n hn => hw n (wrOps_mem ho hn)
      simp only [if_true] at hK
      split at hK
      case isFalse => simp [stuckW] at hK
      rename_i hc
      simp only [Bool.and_eq_true] at hc
      have gd : ∀ w', w'.heap = s.w.heap → w'.os = s.w.os → w'.tape = s.w.tape → w'.output = s.w.output → s.w.drawn ≤ w'.drawn → Good G { s with w := w' } := by
        intro w' h1 h2 h3 h4 h5
        refine ⟨g.size, g.slots, g.wf, ?_, g.inj, ⟨?_⟩, ⟨?_, ?_, ?_, ?_, ?_, ?_⟩⟩
        · show ∀ id c, look s.e.locs id = some c → id < s.e.nloc ∧ G.W0.heap.size ≤ s.β id ∧ s.h (s.β id) = none ∧ ∃ cs T, w'.heap[s.β id]? = some (.cells cs T) ∧ _
          rw [h1]; exact g.locs
        · show ∀ b o, s.h b = some o → BlkRel o w'.heap[b]?
          rw [h1]; exact g.part.blk
        · show _ ≤ w'.heap.size
          rw [h1]; exact g.keeps.size
        · show ∀ b, b < G.W0.heap.size → calm G.h0 b → s.h b = G.h0 b ∧ w'.heap[b]? = G.W0.heap[b]?
          rw [h1]; exact g.keeps.old
        · exact h2.trans g.keeps.os
        · exact h3.trans g.keeps.tape
        · exact h4.trans g.keeps.output
        · exact fun q => Nat.le_trans (g.keeps.drawn q) h5
      have lr0 : LR ops (Array.replicate ops.size false) [] := ⟨by simp, fun i => by rw [rep_getD]; rfl⟩
      have cl0 : Closed ops (Array.replicate ops.size false) := by
        intro k o hk hl
        rw [rep_getD] at hl; cases hl
      refine wp_region_any hm (wpC_any (dep := depB (clos ops.toList [])) ops.size [] _ _ _ ?_)
      cases hj : look ann i with
      | none =>
        simp only [hj] at hK
        exact draw_sound (s := { s with w := { s.w with drawn := s.w.drawn + 1 } }) hC hE hΦ Post.out Post.nopanic hc.2 hc.1 hwo ops.size [] _ [] (gd _ rfl rfl rfl rfl (Nat.le_succ _)) lr0 cl0 (fun c hc => by simp at hc) hK
          fun s' hK' g' le' => Post.mk (x' := .normal) trivial hK' g' ⟨le'.beta, le'.nloc, le'.slots, le'.locs, le'.defers⟩
      | some j =>
        simp only [hj] at hK
        unfold withK at hK
        refine draw_sound (s := { s with w := { s.w with drawn := s.w.drawn + 1 } }) hC hE hΦ Post.out Post.nopanic hc.2 hc.1 hwo ops.size [] _ [] (gd _ rfl rfl rfl rfl (Nat.le_succ _)) lr0 cl0 (fun c hc => by simp at hc) hK fun s' hK' g' le' => ?_
        obtain ⟨t, hK2, g2, le2⟩ := give_sound hΦ g g' ⟨le'.beta, le'.nloc, le'.slots, le'.locs, le'.defers⟩ (fun n hn => hw n hn) hK'
        exact Post.mk (s' := { s' with e := j.take s.e (wrOps ops.toList) t }) (x' := .normal) trivial hK2 g2 le2
    | false =>
      simp only [Bool.false_eq_true, if_false] at hK
      have hwo : ∀ o ∈ ops.toList, ∀ n, o.dst = some n → n < G.N := fun o ho n hn => hw n (wrOps_mem ho hn)
      refine wp_region_list ?_
      cases hj : look ann i with
      | none =>
        simp only [hj] at hK
        exact doOps_sound hC hE hΦ Post.out ops.toList s g hwo hK fun s' hK' g' le' => Post.mk (x' := .normal) trivial hK' g' le'
      | some j =>
        simp only [hj] at hK
        unfold withK at hK
        refine doOps_sound hC hE hΦ Post.out ops.toList s g hwo hK fun s' hK' g' le' => ?_
        obtain ⟨t, hK2, g2, le2⟩ := give_sound hΦ g g' le' (fun n hn => hw n hn) hK'
        exact Post.mk (s' := { s' with e := j.take s.e (wrOps ops.toList) t }) (x' := .normal) trivial hK2 g2 le2
  | seq a b iha ihb =>
    intro i s K g hw hK
    have hwa : ∀ n ∈ writes a, n < G.N := fun n hn => hw n (by simp [writes, hn])
    have hwb : ∀ n ∈ writes b, n < G.N := fun n hn => hw n (by simp [writes, hn])
    simp only [interp] at hK
    refine wp_seq ?_
    cases hj : look ann i with
    | none =>
      simp only [hj] at hK
      refine wp_mono (iha _ s _ g hwa hK) ?_
      rintro e a' w' ⟨x', s', hx, rfl, rfl, hK', g', le'⟩
      cases e <;> cases x' <;> simp only [ExRel] at hx
      case normal.normal => exact wp_mono (ihb _ s' K g' hwb hK') fun e a w h => h.le le'
      all_goals exact ⟨_, s', by first | exact trivial | exact hx, rfl, rfl, hK', g', le'⟩
    | some j =>
      simp only [hj] at hK
      unfold withK at hK
      refine wp_mono (iha _ s _ g hwa hK) ?_
      rintro e a' w' ⟨x', s', hx, rfl, rfl, hK', g', le'⟩
      cases e <;> cases x' <;> simp only [ExRel] at hx
      case normal.normal =>
        obtain ⟨t, hK2, g2, le2⟩ := give_sound hΦ g g' le' hwa hK'
        exact wp_mono (ihb _ { s' with e := j.take s.e (writes a) t } K g2 hwb hK2) fun e a w h => h.le le2
      all_goals exact ⟨_, s', by first | exact trivial | exact hx, rfl, rfl, hK', g', le'⟩
  | cond c a b iha ihb =>
    intro i s K g hw hK
    have hwa : ∀ n ∈ writes a, n < G.N := fun n hn => hw n (by simp [writes, hn])
    have hwb : ∀ n ∈ writes b, n < G.N := fun n hn => hw n (by simp [writes, hn])
    simp only [interp] at hK
    have hc := ev_rel g c
    generalize hq : s.e.ev c = q at hK hc
    cases q <;> first | (simp [stuckW] at hK; done) | skip
    case t v =>
      simp only [rel] at hc
      refine wp_cond hc ?_
      cases v with
      | true => exact iha _ s K g hwa hK
      | false => exact ihb _ s K g hwb hK
    case b v =>
      simp only [rel] at hc
      simp only [] at hK
      unfold iteW at hK
      refine wp_cond hc ?_
      cases v with
      | true => simp only [if_true] at hK ⊢; exact iha _ s K g hwa hK
      | false => simp only [Bool.false_eq_true, if_false] at hK ⊢; exact ihb _ s K g hwb hK
  | block n a ih =>
    intro i s K g hw hK
    simp only [interp] at hK
    refine wp_block ?_
    have hwa : ∀ n ∈ writes a, n < G.N := fun n hn => hw n (by simpa [writes] using hn)
    cases hj : look ann i with
    | none =>
      simp only [hj] at hK
      refine wp_mono (ih _ s _ g hwa hK) ?_
      rintro e a' w' ⟨x', s', hx, rfl, rfl, hK', g', le'⟩
      cases e <;> cases x' <;> simp only [ExRel] at hx
      case exit.exit m m' =>
        subst hx
        simp only [Exit.inBlock]
        by_cases hm : m = n
        · subst hm
          simp only [if_true]
          simp only [Nat.beq_refl, if_true] at hK'
          exact ⟨.normal, s', trivial, rfl, rfl, hK', g', le'⟩
        · rw [if_neg hm]
          have : Nat.beq m n = false := by
            cases hb : Nat.beq m n
            · rfl
            · exact absurd (Nat.eq_of_beq_eq_true hb) hm
          simp only [this, Bool.false_eq_true, if_false] at hK'
          exact ⟨.exit m, s', rfl, rfl, rfl, hK', g', le'⟩
      all_goals exact ⟨_, s', by first | exact trivial | exact hx, rfl, rfl, hK', g', le'⟩
    | some j =>
      simp only [hj] at hK
      unfold withK at hK
      refine wp_mono (ih _ s _ g hwa hK) ?_
      rintro e a' w' ⟨x', s', hx, rfl, rfl, hK', g', le'⟩
      cases e <;> cases x' <;> simp only [ExRel] at hx
      case normal.normal =>
        obtain ⟨t, hK2, g2, le2⟩ := give_sound hΦ g g' le' hwa hK'
        exact ⟨.normal, { s' with e := j.take s.e (writes a) t }, trivial, rfl, rfl, hK2, g2, le2⟩
      case exit.exit m m' =>
        subst hx
        simp only [Exit.inBlock]
        by_cases hm : m = n
        · subst hm
          simp only [if_true]
          simp only [Nat.beq_refl, if_true] at hK'
          obtain ⟨t, hK2, g2, le2⟩ := give_sound hΦ g g' le' hwa hK'
          exact ⟨.normal, { s' with e := j.take s.e (writes a) t }, trivial, rfl, rfl, hK2, g2, le2⟩
        · rw [if_neg hm]
          have : Nat.beq m n = false := by
            cases hb : Nat.beq m n
            · rfl
            · exact absurd (Nat.eq_of_beq_eq_true hb) hm
          simp only [this, Bool.false_eq_true, if_false] at hK'
          exact ⟨.exit m, s', rfl, rfl, rfl, hK', g', le'⟩
      all_goals exact ⟨_, s', by first | exact trivial | exact hx, rfl, rfl, hK', g', le'⟩
  | scope a ih =>
    intro i s K g hw hK
    have hwa : ∀ n ∈ writes a, n < G.N := fun n hn => hw n (by simpa [writes] using hn)
    simp only [interp] at hK
    refine wp_scope_straight (wp_mono (ih _ s K g hwa hK) ?_)
    rintro e a' w' ⟨x', s', hx, h1, h2, hK', g', le'⟩
    cases e <;> cases x' <;> simp only [ExRel] at hx
    all_goals exact ⟨_, s', by first | exact trivial | exact hx, h1, h2, hK', g', le'⟩
  | loop a ih =>
    intro i s K g hw hK
    have hwa : ∀ n ∈ writes a, n < G.N := fun n hn => hw n (by simpa [writes] using hn)
    simp only [interp] at hK
    cases hj : look ann i with
    | none => simp [hj, stuckW] at hK
    | some j =>
      simp only [hj] at hK
      obtain ⟨t0, hK, g0, le0⟩ := give_sound hΦ g g (Le.refl s) hwa hK
      unfold loopW at hK
      obtain ⟨I, μ, hI, hround⟩ := hK
      refine wp_loop_ghost (fun n a w => ∃ t s', s'.a = a ∧ s'.w = w ∧ s'.e = j.take s.e (writes (by assumption)) t ∧ I t s'.h ∧ μ t s'.h = n ∧ Good G s' ∧ Le s s') (μ t0 s.h) ⟨t0, { s with e := j.take s.e _ t0 }, rfl, rfl, rfl, hI, rfl, g0, le0⟩ ?_
      rintro n a w ⟨t, s', rfl, rfl, he, hI', rfl, g', le'⟩
      have hr := hround t s'.h hI'
      replace hr : interp C ann _ (i + 1) (j.take s.e _ t) _ s'.h := hr
      rw [← he] at hr
      refine wp_mono (ih _ s' _ g' hwa hr) ?_
      rintro e a' w' ⟨x', s'', hx, rfl, rfl, hK', g'', le''⟩
      cases e <;> cases x' <;> simp only [ExRel] at hx
      case normal.normal =>
        obtain ⟨t', hK2, g2, le2⟩ := give_sound hΦ g g'' (le'.trans le'') hwa hK'
        exact ⟨_, hK2.2, t', { s'' with e := j.take s.e _ t' }, rfl, rfl, rfl, hK2.1, rfl, g2, le2⟩
      all_goals exact ⟨_, s'', by first | exact trivial | exact hx, rfl, rfl, hK', g'', le'.trans le''⟩
  | _ => intro i s K g hw hK; simp [interp, stuckW] at hK
where
  wrOps_mem : ∀ {l : List Oper} {o : Oper} {n : Nat}, o ∈ l → o.dst = some n → n ∈ wrOps l
    | x :: r, o, n, h, e => by
      rcases List.mem_cons.1 h with rfl | h
      · simp [wrOps, e]
      · have := wrOps_mem h e
        cases hx : x.dst <;> simp [wrOps, hx, this]
end Go.Cz
namespace Go.Cz
variable [Inhabited DrawnP]
open Go
set_option linter.unusedSimpArgs false
set_option linter.unusedVariables false
set_option linter.unusedSectionVars false
section
variable {G : Gl} {s : St}
theorem locVal_run (g : Good G s) {t : TypeId} {a : Nat} {x : SV} (hx : locVal G.P t s.e (s.e.get a) = x) (hne : x ≠ .und) :
    ∃ v, (do loadVar t (← asAddr (s.a.tmps.getD a undef))).run G.P s.w = .ok v s.w ∧ rel G.P s.β x v := by
  obtain ⟨y, hy, hr⟩ := rel_get g a
  generalize hq : s.e.get a = q at hx hr
  cases q <;> simp only [locVal] at hx <;> try (exact absurd hx.symm hne)
  rename_i id off
  simp only [rel] at hr
  subst hr
  split at hx
  · exact absurd hx.symm hne
  rename_i hnn
  cases hD : G.P.underlying t with
  | none => simp [noneT, hD] at hnn
  | some D =>
  unfold Env.loc at hx
  cases hloc : look s.e.locs id with
  | none =>
    simp only [hloc] at hx
    split at hx
    · split at hx
      · rename_i h; simp [Nat.blt] at h
      · exact absurd hx.symm hne
    · simp at hx; exact absurd hx.symm hne
  | some c =>
    simp only [hloc] at hx
    obtain ⟨h1, h2, h3, cs, T, h4, h5, h6, h7⟩ := g.locs id c hloc
    have hlen := relL_length h5
    simp at hlen
    cases hg : isAggT G.P t with
    | true =>
      simp only [hg, if_true] at hx
      split at hx
      · rename_i hb
        simp only [Bool.and_eq_true] at hb
        have hb1 := Nat.le_of_ble_eq_true hb.1
        subst hx
        obtain ⟨i, hi⟩ := underlying_info hD
        have hsz : sizeT G.P t = i.size := by simp [sizeT, hi]
        have hl : ((cs.toList.drop off).take i.size).length = i.size := by simp; omega
        have hc : ∀ j v, ((cs.toList.drop off).take i.size)[j]? = some v → s.w.cell? ((⟨s.β id, off, none⟩ : Addr).add j) = some v := by
          intro j v hj
          have hj' : cs[off + j]? = some v := by
            rw [List.getElem?_take] at hj
            split at hj
            · simpa using hj
            · cases hj
          have : (⟨s.β id, off, none⟩ : Addr).add j = ⟨s.β id, off + j, none⟩ := by unfold Addr.add; split <;> simp_all
          rw [this]
          simp [World.cell?, h4, hj']
        have hrun := run_loadCells_list (P := G.P) (w := s.w) ⟨s.β id, off, none⟩ ((cs.toList.drop off).take i.size) hc
        rw [hl] at hrun
        refine ⟨.agg ((cs.toList.drop off).take i.size).toArray, ?_, ?_⟩
        · rw [hy]
          simp [asAddr, loadVar, run_isAggT hD, hg, run_size hi, hrun]
        · simp only [rel]
          rw [hsz]
          exact ⟨_, rfl, relL_take _ (relL_drop _ h5)⟩
      · exact absurd hx.symm hne
    | false =>
      simp only [hg] at hx
      split at hx
      · rename_i h; cases h
      · cases hy' : c.drop off with
        | nil => simp [hy'] at hx; exact absurd hx.symm hne
        | cons z r =>
          simp only [hy'] at hx
          subst hx
          obtain ⟨v, hv, hrv⟩ := relL_get h5 hy'
          have hv' : cs[off]? = some v := by simpa using hv
          refine ⟨v, ?_, hrv⟩
          rw [hy]
          have hc : s.w.cell? ⟨s.β id, off, none⟩ = some v := by simp [World.cell?, h4, hv']
          simp [asAddr, loadVar, run_isAggT hD, hg, load, Sem.run, hc]
def resVar (tmps : Array Value) : ResultVar → Sem Value
  | .tmp t => pure (tmps.getD t undef)
  | .cell a t => do loadVar t (← asAddr (tmps.getD a undef))
theorem resX_run (g : Good G s) : ∀ (l : List ResultVar) {K : List SV → HProp}, resX G.P s.e l K s.h → ∃ xs, K xs s.h ∧ (noUnd xs = true → ∃ vs, (l.mapM (resVar s.a.tmps)).run G.P s.w = .ok vs s.w ∧ relL G.P s.β xs vs)
  | [], K, h => ⟨[], h, fun _ => ⟨[], by simp, by simp [relL]⟩⟩
  | .tmp t :: r, K, h => by
    simp only [resX] at h
    obtain ⟨xs, hK, hr⟩ := resX_run g r h
    refine ⟨_, hK, fun hu => ?_⟩
    simp only [noUnd, Bool.and_eq_true] at hu
    obtain ⟨vs, h1, h2⟩ := hr hu.2
    obtain ⟨x, hx, hxr⟩ := rel_get g t
    refine ⟨s.a.tmps.getD t undef :: vs, ?_, relL_cons.2 ⟨_, _, rfl, by rw [hx]; exact hxr, h2⟩⟩
    simp [List.mapM_cons, resVar, h1]
  | .cell a t :: r, K, h => by
    have heap : ∀ {x : SV}, s.e.get a = x → doLoad G.P t x s.e (fun _ v => resX G.P s.e r fun l => K (v :: l)) s.h → ∃ xs, K xs s.h ∧ (noUnd xs = true → ∃ vs, ((.cell a t :: r).mapM (resVar s.a.tmps)).run G.P s.w = .ok vs s.w ∧ relL G.P s.β xs vs) := by
      intro x hx h
      obtain ⟨pl, sv, v, vs0, h1, h2, _, _, h5, _, _, h6⟩ := load_yl g (o := { dst := none, op := .load t (.tmp a), type := 0, pos := "", after := #[], guard := none }) (x := .tmp a) rfl (by simpa [Env.ev, hx] using h)
      have h6 := h6 s.w h5
      have hv : (do loadVar t (← asAddr (s.a.tmps.getD a undef))).run G.P s.w = .ok v s.w := by
        obtain ⟨q, hq, _⟩ := rel_get g a
        rw [hq]
        have h6 : (do let y ← Instr.loadAt t q; pure (Next.value y)).run G.P s.w = .ok (.value v) s.w := by
          rw [← hq]; exact h6
        cases q <;> try (simp [Instr.loadAt, Instr.sureAddr, stuck, Sem.run_bind] at h6; done)
        rename_i o _
        cases o with
        | none => simp [Instr.loadAt, Instr.sureAddr, stuck, Sem.run_bind] at h6
        | some b =>
          simp only [Instr.loadAt, Instr.sureAddr, asAddr, Sem.run_bind, Sem.run_pure] at h6 ⊢
          simp only [Result.andThen] at h6
          split at h6
          · rename_i hz
            simp only [Result.ok.injEq, Next.value.injEq] at h6
            simp only [Result.andThen]
            rw [hz, h6.1, h6.2]
          · cases h6
      obtain ⟨xs, hK, hr⟩ := resX_run g r h1
      refine ⟨_, hK, fun hu => ?_⟩
      simp only [noUnd, Bool.and_eq_true] at hu
      obtain ⟨vs, k1, k2⟩ := hr hu.2
      refine ⟨v :: vs, ?_, relL_cons.2 ⟨_, _, rfl, h2, k2⟩⟩
      simp only [List.mapM_cons, resVar, Sem.run_bind]
      simp only [Sem.run_bind] at hv
      rw [hv]
      simp [k1]
    have own : ∀ {x : SV}, s.e.get a = x → resX G.P s.e r (fun l => K (locVal G.P t s.e x :: l)) s.h → ∃ xs, K xs s.h ∧ (noUnd xs = true → ∃ vs, ((.cell a t :: r).mapM (resVar s.a.tmps)).run G.P s.w = .ok vs s.w ∧ relL G.P s.β xs vs) := by
      intro x hx h
      obtain ⟨xs, hK, hr⟩ := resX_run g r h
      refine ⟨_, hK, fun hu => ?_⟩
      simp only [noUnd, Bool.and_eq_true] at hu
      obtain ⟨vs, k1, k2⟩ := hr hu.2
      obtain ⟨v, hv, hrv⟩ := locVal_run g (a := a) (t := t) rfl (fun e => by rw [← hx, e] at hu; simp at hu)
      rw [hx] at hrv
      refine ⟨v :: vs, ?_, relL_cons.2 ⟨_, _, rfl, hrv, k2⟩⟩
      simp only [List.mapM_cons, resVar, Sem.run_bind]
      simp only [Sem.run_bind] at hv
      rw [hv]
      simp [k1]
    simp only [resX] at h
    cases hx : s.e.get a <;> simp only [hx] at h <;> first | exact heap hx h | exact own hx h
theorem results_run {xs : List SV} {fn : Func} {vs : List Value} (h1 : (fn.results.toList.mapM (resVar s.a.tmps)).run G.P s.w = .ok vs s.w) (h2 : relL G.P s.β xs vs) : ∃ v, (results fn s.a.tmps).run G.P s.w = .ok v s.w ∧ rel G.P s.β (retSV xs) v := by
  have hlen := relL_length h2
  have e : (fn.results.mapM (resVar s.a.tmps)).run G.P s.w = .ok vs.toArray s.w := by
    rw [Array.mapM_eq_mapM_toList]
    simp [h1]
  have e2 : results fn s.a.tmps = (do let vs ← fn.results.mapM (resVar s.a.tmps); pure (if h : vs.size = 1 then vs[0] else .tuple vs)) := by
    unfold results
    congr 1
  refine ⟨if h : vs.toArray.size = 1 then vs.toArray[0] else .tuple vs.toArray, ?_, ?_⟩
  · rw [e2]; simp [e]
  · by_cases h1 : vs.toArray.size = 1
    · rw [dif_pos h1]
      match xs, vs, h2, h1 with
      | [x], [v], h2, _ =>
        obtain ⟨u, us, e, k1, _⟩ := relL_cons.1 h2
        cases e
        simpa [retSV] using k1
      | [], [v], h2, _ => simp [relL] at h2
      | x :: y :: r, [v], h2, _ =>
        obtain ⟨u, us, e, _, k2⟩ := relL_cons.1 h2
        cases e
        obtain ⟨_, _, e, _⟩ := relL_cons.1 k2
        cases e
    · rw [dif_neg h1]
      have : xs.length ≠ 1 := by rw [hlen]; simpa using h1
      unfold retSV
      split
      · simp at this
      · simp only [rel]; exact ⟨_, rfl, h2⟩
end
end Go.Cz
namespace Go.Cz
variable [Inhabited DrawnP]
open Go
set_option linter.unusedSimpArgs false
set_option linter.unusedVariables false
set_option linter.unusedSectionVars false
def allBelow (N : Nat) : List Nat → Bool
  | [] => true
  | x :: r => Nat.blt x N && allBelow N r
theorem allBelow_spec {N : Nat} : ∀ {l : List Nat}, allBelow N l = true → ∀ n ∈ l, n < N
  | [], _, n, h => by simp at h
  | x :: r, hb, n, h => by
    simp only [allBelow, Bool.and_eq_true] at hb
    rcases List.mem_cons.1 h with rfl | h
    · exact Nat.le_of_ble_eq_true hb.1
    · exact allBelow_spec hb.2 n h
theorem allNil {P : Program} : ∀ en ∈ ([] : List Entry), Linked P en := fun en h => by simp at h
theorem allCons {P : Program} {e : Entry} {l : List Entry} (h : Linked P e) (r : ∀ en ∈ l, Linked P en) : ∀ en ∈ e :: l, Linked P en := fun en hm => by
  rcases List.mem_cons.1 hm with rfl | hm
  · exact h
  · exact r en hm
def allEq (P : Program) : List (Nat × Nat) → Bool
  | [] => true
  | x :: r => eqStructT P x.1 x.2 && allEq P r
theorem allEq_spec {P : Program} : ∀ {l : List (Nat × Nat)}, allEq P l = true → ∀ x ∈ l, eqStructT P x.1 x.2 = true
  | [], _, x, h => by simp at h
  | y :: r, hb, x, h => by
    simp only [allEq, Bool.and_eq_true] at hb
    rcases List.mem_cons.1 h with rfl | h
    · exact hb.1
    · exact allEq_spec hb.2 x h
/-- what a function hands back -/
theorem fin_sound {P : Program} {w : World} {h : H} {N : Nat} {fn : Func} {Φ : List Entry} (hΦ : ∀ en ∈ Φ, Linked P en) {rsh : List Sh} {Q : Tup (tysOf rsh) → HProp} {s' : St} (g' : Good ⟨P, w, h, N⟩ s')
    (hK : finW P Φ fn.results.toList rsh Q s'.e s'.h) :
    ∃ v, (results fn s'.a.tmps).run P s'.w = .ok v s'.w ∧ ∃ r v' h', Ending.returned v = .returned v' ∧ rel P (fun _ => 0) (retSV (shape rsh (unpackL (tysOf rsh) r))) v' ∧ Q r h' ∧ Hpart P s'.w h' ∧ Keeps w h s'.w h' := by
  unfold finW at hK
  obtain ⟨xs, hK, hrun⟩ := resX_run g' fn.results.toList hK
  split at hK
  case isFalse => simp [stuckW] at hK
  rename_i hc
  simp only [Bool.and_eq_true] at hc
  obtain ⟨r, hQ, hl1, hl2, hr, hbl⟩ := packL_spec (P := P) (β := s'.β) (makes_pcClo hΦ) hK
  obtain ⟨vs, hvs, hrel⟩ := hrun hc.1
  obtain ⟨v, hv, hrv⟩ := results_run hvs hrel
  refine ⟨v, hv, r, v, s'.h, rfl, ?_, hQ, g'.part, g'.keeps⟩
  have hsh := shape_rel (P := P) (β := s'.β) (us := []) hc.2 hrel hr (by rw [hl2, hl1])
  have hbs : belowL 0 (shape rsh (unpackL (tysOf rsh) r)) = true := shape_below (hbl 0)
  -- the value is the same
  have hlen2 : (shape rsh (unpackL (tysOf rsh) r)).length = xs.length := by
    rw [relL_length hsh, relL_length hrel]
  match xs, hlen2, hrv, hrel, hc with
  | [x], hlen2, hrv, hrel, hc =>
    match hshp : shape rsh (unpackL (tysOf rsh) r), hlen2 with
    | [y], _ =>
      rw [hshp] at hsh hbs
      have : ∀ u, rel P s'.β x u → rel P s'.β y u := fun u hu => by
        have hrel' : relL P s'.β [x] [u] := by exact relL_cons.2 ⟨u, [], rfl, hu, by simp [relL]⟩
        have := shape_rel (P := P) (β := s'.β) (us := []) hc.2 hrel' hr (by rw [hl2, hl1])
        rw [hshp] at this
        obtain ⟨u', us, e, k, _⟩ := relL_cons.1 this
        cases e; exact k
      simp only [retSV] at hrv ⊢
      simp only [belowL, Bool.and_eq_true] at hbs
      exact rel_any hbs.1 (this v hrv)
  | [], hlen2, hrv, _, _ =>
    have hnil : shape rsh (unpackL (tysOf rsh) r) = [] := List.length_eq_zero_iff.1 hlen2
    rw [hnil]
    simpa [retSV, rel, relL] using hrv
  | x :: y :: q, hlen2, hrv, hrel, hc =>
    have e1 : retSV (x :: y :: q) = .tup (x :: y :: q) := rfl
    have e2 : retSV (shape rsh (unpackL (tysOf rsh) r)) = .tup (shape rsh (unpackL (tysOf rsh) r)) := by
      unfold retSV
      split
      · rename_i z e; rw [e] at hlen2; simp at hlen2
      · rfl
    rw [e1] at hrv
    rw [e2]
    simp only [rel] at hrv ⊢
    obtain ⟨us, rfl, hus⟩ := hrv
    exact ⟨us, rfl, relL_any hbs (shape_rel (P := P) (β := s'.β) (us := []) hc.2 hus hr (by rw [hl2, hl1]))⟩
/-- a function's body does what its shallow form says -/
theorem linked_core {P : Program} {k : FuncId} {fn : Func} {c : Code} (hf : P.funcs[k]? = some fn) (hb : fn.body = some c) (hnm : (fn.name == "runtime.NumGoroutine") = false)
    {sh rsh : List Sh} {F : Tup (tysOf sh) → (Tup (tysOf rsh) → HProp) → HProp} (Φ : List Entry) (heap : List Nat) (eqs : List (Nat × Nat)) (keys : List (KeyOk P)) (dyn fks : List Nat) (ann : List (Nat × Join)) (hΦ : ∀ en ∈ Φ, Linked P en)
    (hm : P.follows .mixedOrders = true) (hE : allEq P eqs = true)
    (hN : (allBelow fn.ntmps (writes c) && Nat.ble sh.length fn.ntmps) = true)
    (heq : ∀ t Q, interpF ⟨P, Φ, heap, eqs, keys, dyn, fks⟩ fn ann sh rsh t Q = F t Q) :
    ∀ (t : Tup (tysOf sh)) (args : List Value) (Q : Tup (tysOf rsh) → HProp) (h : H) (w : World), relL P (fun _ => 0) (shape sh (unpackL (tysOf sh) t)) args → Hpart P w h → F t Q h →
      c.wp P (bodyPost P fn fun e w' => ∃ (r : Tup (tysOf rsh)) (v : Value) (h' : H), e = .returned v ∧ rel P (fun _ => 0) (retSV (shape rsh (unpackL (tysOf rsh) r))) v ∧ Q r h' ∧ Hpart P w' h' ∧ Keeps w h w' h') { tmps := args.toArray ++ Array.replicate (fn.ntmps - args.toArray.size) undef, defers := [] } w := by
  simp only [Bool.and_eq_true] at hN
  have hw := allBelow_spec hN.1
  have hn2 := Nat.le_of_ble_eq_true hN.2
  intro t args Q h w hargs hpart hF
  have hF : interpF ⟨P, Φ, heap, eqs, keys, dyn, fks⟩ fn ann sh rsh t Q h := by rw [heq t Q]; exact hF
  unfold interpF at hF
  rw [hb] at hF
  have hlen : (shape sh (unpackL (tysOf sh) t)).length = args.length := relL_length hargs
  have hshl : (shape sh (unpackL (tysOf sh) t)).length = sh.length := shape_len sh _ (unpack_len _ _)
  let G : Gl := ⟨P, w, h, fn.ntmps⟩
  let s : St := ⟨⟨(List.range sh.length).zip (shape sh (unpackL (tysOf sh) t)), [], 0⟩, fun _ => 0, ⟨args.toArray ++ Array.replicate (fn.ntmps - args.toArray.size) undef, []⟩, w, h⟩
  have g : Good G s := by
    refine ⟨?_, ?_, ?_, ?_, ?_, hpart, ⟨Nat.le_refl _, fun b hb h0 => ⟨rfl, rfl⟩, rfl, rfl, rfl, fun _ => Nat.le_refl _⟩⟩
    · simp [s, G]; omega
    · intro n v hn
      have hn := zip_range hn
      obtain ⟨x, hx, hr⟩ := relL_at hargs hn
      refine ⟨x, ?_, hr⟩
      have hnl : n < args.length := (List.getElem?_eq_some_iff.1 hx).1
      simp [s, Array.getElem?_append, hnl]
      simpa [hnl] using hx
    · intro n v hn
      have hn := zip_range hn
      exact belowL_mem.1 (shape_below (callWith_spec.unpackL_below _ _)) v (List.mem_of_getElem? hn)
    · intro id c hc; simp [s, look] at hc
    · intro i j c d hc; simp [s, look] at hc
  have hres := interp_sound (C := ⟨P, Φ, heap, eqs, keys, dyn, fks⟩) (G := G) rfl hm (allEq_spec hE) hΦ ann c 0 s _ g hw hF
  refine wp_mono hres ?_
  rintro e a' w' ⟨x', s', hx, rfl, rfl, hK, g', le'⟩
  have fin : finW P Φ fn.results.toList rsh Q s'.e s'.h →
      s'.a.defers = [] ∧ ∃ v, (results fn s'.a.tmps).run P s'.w = .ok v s'.w ∧ ∃ r v' h', Ending.returned v = .returned v' ∧ rel P (fun _ => 0) (retSV (shape rsh (unpackL (tysOf rsh) r))) v' ∧ Q r h' ∧ Hpart P s'.w h' ∧ Keeps w h s'.w h' := by
    intro hK
    exact ⟨le'.defers, fin_sound hΦ g' hK⟩
  cases e <;> cases x' <;> simp only [ExRel] at hx
  case normal.normal => exact fin hK
  case ret.ret => exact fin hK
  case exit.exit => simp [stuckW] at hK
where
  unpack_len : ∀ (ts : List Ty) (t : Tup ts), (unpackL ts t).length = ts.length
    | [], _ => rfl
    | [t], x => rfl
    | t :: u :: r, x => by simp [unpackL, unpack_len (u :: r) x.2]
  shape_len : ∀ (sh : List Sh) (l : List SV), l.length = (tysOf sh).length → (shape sh l).length = sh.length
    | [], l, _ => by simp [shape]
    | .leaf t :: q, [], h => by simp [tysOf, Sh.tys] at h
    | .leaf t :: q, x :: l, h => by simp [shape, shape_len q l (by simpa [tysOf, Sh.tys] using h)]
    | .agg ts :: q, l, h => by
      simp only [tysOf, Sh.tys, List.length_append] at h
      simp [shape, shape_len q (l.drop ts.length) (by simp; omega)]
  zip_range {l : List SV} {m n : Nat} {v : SV} (h : look ((List.range m).zip l) n = some v) : l[n]? = some v := by
    rw [List.range_eq_range'] at h
    have : ∀ (l : List SV) (k m : Nat), look ((List.range' k m).zip l) n = some v → k ≤ n ∧ l[n - k]? = some v := by
      intro l
      induction l with
      | nil => intro k m h; simp [look] at h
      | cons x r ih =>
        intro k m h
        cases m with
        | zero => simp [look] at h
        | succ m =>
          simp only [List.range'_succ, List.zip_cons_cons, look_cons] at h
          by_cases e : k = n
          · subst e; simp at h; subst h; simp
          · rw [if_neg e] at h
            obtain ⟨h1, h2⟩ := ih (k + 1) m h
            refine ⟨by omega, ?_⟩
            have : n - k = (n - (k + 1)) + 1 := by omega
            rw [this]; simpa using h2
    simpa using (this l 0 m h).2
/-- A FUNCTION IS WHAT ITS SHALLOW FORM SAYS. -/
theorem linked_of {P : Program} {k : FuncId} {fn : Func} {c : Code} (hf : P.funcs[k]? = some fn) (hb : fn.body = some c) (hnm : (fn.name == "runtime.NumGoroutine") = false)
    {sh rsh : List Sh} {F : Tup (tysOf sh) → (Tup (tysOf rsh) → HProp) → HProp} (Φ : List Entry) (heap : List Nat) (eqs : List (Nat × Nat)) (keys : List (KeyOk P)) (dyn fks : List Nat) (ann : List (Nat × Join)) (hΦ : ∀ en ∈ Φ, Linked P en)
    (hm : P.follows .mixedOrders = true) (hE : allEq P eqs = true)
    (hN : (allBelow fn.ntmps (writes c) && Nat.ble sh.length fn.ntmps) = true)
    (heq : ∀ t Q, interpF ⟨P, Φ, heap, eqs, keys, dyn, fks⟩ fn ann sh rsh t Q = F t Q) : Linked P ⟨k, sh, rsh, F⟩ :=
  ⟨⟨fn, c, hf, hb, by simpa using hnm⟩, fun t args Q h w h1 h2 h3 => calls_of_wp hf hb (linked_core hf hb hnm Φ heap eqs keys dyn fks ann hΦ hm hE hN heq t args Q h w h1 h2 h3)⟩
theorem linked_zero {P : Program} {k : FuncId} {fn : Func} {c : Code} {sh rsh : List Sh} (hf : P.funcs[k]? = some fn) (hb : fn.body = some c) (hnm : (fn.name == "runtime.NumGoroutine") = false) : Linked P ⟨k, sh, rsh, fun _ _ => stuckW⟩ :=
  ⟨⟨fn, c, hf, hb, by simpa using hnm⟩, fun t args Q h w _ _ hF => by simp [stuckW] at hF⟩
end Go.Cz
namespace Go.Cz
variable [Inhabited DrawnP]
open Go
set_option linter.unusedSimpArgs false
set_option linter.unusedVariables false
set_option linter.unusedSectionVars false
end Go.Cz
namespace Go.Cz
variable [Inhabited DrawnP]
open Go
set_option linter.unusedSimpArgs false
set_option linter.unusedVariables false
set_option linter.unusedSectionVars false
end Go.Cz
namespace Go.Cz
/-- as a rule the count of draws is not told -/
instance drawnNo : Inhabited DrawnP := ⟨⟨False⟩⟩
abbrev Fn (T R : Type) := T → (R → HProp) → HProp
/-- a function is what its shallow form says: what it is run in, and its joins, told once -/
theorem linked_in (x : Ctx × List (Nat × Join)) (en : Entry) {fn : Func} {c : Code} (hf : x.1.P.funcs[en.k]? = some fn) (hb : fn.body = some c) (hnm : (fn.name == "runtime.NumGoroutine") = false) (hΦ : ∀ en ∈ x.1.Φ, Linked x.1.P en)
    (hm : x.1.P.follows .mixedOrders = true) (hE : allEq x.1.P x.1.eqs = true) (hN : (allBelow fn.ntmps (writes c) && Nat.ble en.sh.length fn.ntmps) = true) (heq : interpF x.1 fn x.2 en.sh en.rsh = en.F) : Linked x.1.P en := by
  obtain ⟨⟨P, Φ, heap, eqs, keys, dyn, fks⟩, ann⟩ := x
  obtain ⟨k, sh, rsh, F⟩ := en
  exact linked_of hf hb hnm Φ heap eqs keys dyn fks ann hΦ hm hE hN fun t Q => congrFun (congrFun heq t) Q
end Go.Cz
