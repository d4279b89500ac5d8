/- Part of the proof of a law of 28: an engine that runs a function over an abstract heap, and what the functions compute; own work. -/
import Derived.Test.YtpmojjeehmadpaaGreatEng20
set_option linter.unusedVariables false
set_option linter.unusedSimpArgs false
set_option linter.unusedSectionVars false
namespace Go.Cz
variable [Inhabited DrawnP]
open Go
set_option linter.unusedSimpArgs false
set_option linter.unusedVariables false
set_option linter.unusedSectionVars false

def allBelow (N : Nat) : List Nat → Bool
  | [] => true
  | x :: r => Nat.blt x N && allBelow N r
theorem allBelow_spec {N : Nat} : ∀ {l : List Nat}, allBelow N l = true → ∀ n ∈ l, n < N
  | [], _, n, h => by simp at h
  | x :: r, hb, n, h => by
    simp only [allBelow, Bool.and_eq_true] at hb
    rcases List.mem_cons.1 h with rfl | h
    · exact Nat.le_of_ble_eq_true hb.1
    · exact allBelow_spec hb.2 n h

theorem allNil {P : Program} : ∀ en ∈ ([] : List Entry), Linked P en := fun en h => by simp at h
theorem allCons {P : Program} {e : Entry} {l : List Entry} (h : Linked P e) (r : ∀ en ∈ l, Linked P en) : ∀ en ∈ e :: l, Linked P en := fun en hm => by
  rcases List.mem_cons.1 hm with rfl | hm
  · exact h
  · exact r en hm
def allEq (P : Program) : List (Nat × Nat) → Bool
  | [] => true
  | x :: r => eqStructT P x.1 x.2 && allEq P r
theorem allEq_spec {P : Program} : ∀ {l : List (Nat × Nat)}, allEq P l = true → ∀ x ∈ l, eqStructT P x.1 x.2 = true
  | [], _, x, h => by simp at h
  | y :: r, hb, x, h => by
    simp only [allEq, Bool.and_eq_true] at hb
    rcases List.mem_cons.1 h with rfl | h
    · exact hb.1
    · exact allEq_spec hb.2 x h
/-- A FUNCTION IS WHAT ITS SHALLOW FORM SAYS. -/
theorem linked_of {P : Program} {k : FuncId} {fn : Func} {c : Code} (hf : P.funcs[k]? = some fn) (hb : fn.body = some c) (hnm : (fn.name == "runtime.NumGoroutine") = false)
    {sh rsh : List Sh} {F : Tup (tysOf sh) → (Tup (tysOf rsh) → HProp) → HProp} (Φ : List Entry) (heap : List Nat) (eqs : List (Nat × Nat)) (ann : List (Nat × Join)) (hΦ : ∀ en ∈ Φ, Linked P en)
    (hm : P.follows .mixedOrders = true) (hE : allEq P eqs = true)
    (hN : (allBelow fn.ntmps (writes c) && Nat.ble sh.length fn.ntmps) = true)
    (heq : ∀ t Q, interpF ⟨P, Φ, heap, eqs⟩ fn ann sh rsh t Q = F t Q) : Linked P ⟨k, sh, rsh, F⟩ := by
  simp only [Bool.and_eq_true] at hN
  have hw := allBelow_spec hN.1
  have hn2 := Nat.le_of_ble_eq_true hN.2
  refine ⟨⟨fn, c, hf, hb, by simpa using hnm⟩, ?_⟩
  intro t args Q h w hargs hpart hF
  have hF : interpF ⟨P, Φ, heap, eqs⟩ fn ann sh rsh t Q h := by rw [heq t Q]; exact hF
  unfold interpF at hF
  rw [hb] at hF
  have hlen : (shape sh (unpackL (tysOf sh) t)).length = args.length := relL_length hargs
  have hshl : (shape sh (unpackL (tysOf sh) t)).length = sh.length := shape_len sh _ (unpack_len _ _)
  refine calls_of_wp hf hb ?_
  let G : Gl := ⟨P, w, h, fn.ntmps⟩
  let s : St := ⟨⟨(List.range sh.length).zip (shape sh (unpackL (tysOf sh) t)), [], 0⟩, fun _ => 0, ⟨args.toArray ++ Array.replicate (fn.ntmps - args.toArray.size) undef, []⟩, w, h⟩
  have g : Good G s := by
    refine ⟨?_, ?_, ?_, ?_, ?_, hpart, ⟨Nat.le_refl _, fun b hb h0 => ⟨rfl, rfl⟩, rfl, rfl, rfl, fun _ => Nat.le_refl _⟩⟩
    · simp [s, G]; omega
    · intro n v hn
      have hn := zip_range hn
      obtain ⟨x, hx, hr⟩ := relL_at hargs hn
      refine ⟨x, ?_, hr⟩
      have hnl : n < args.length := (List.getElem?_eq_some_iff.1 hx).1
      simp [s, Array.getElem?_append, hnl]
      simpa [hnl] using hx
    · intro n v hn
      have hn := zip_range hn
      exact belowL_mem.1 (shape_below (callWith_spec.unpackL_below _ _)) v (List.mem_of_getElem? hn)
    · intro id c hc; simp [s, look] at hc
    · intro i j c d hc; simp [s, look] at hc
  have hres := interp_sound (C := ⟨P, Φ, heap, eqs⟩) (G := G) rfl hm (allEq_spec hE) hΦ ann c 0 s _ g hw hF
  refine wp_mono hres ?_
  rintro e a' w' ⟨x', s', hx, rfl, rfl, hK, g', le'⟩
  have fin : (if noUnd (resVals P s'.e fn.results.toList) && fitsL (resVals P s'.e fn.results.toList) rsh then packL (pcClo Φ) (cellsOf (resVals P s'.e fn.results.toList)) (tysOf rsh) Q else stuckW) s'.h →
      s'.a.defers = [] ∧ ∃ v, (results fn s'.a.tmps).run P s'.w = .ok v s'.w ∧ ∃ r v' h', Ending.returned v = .returned v' ∧ rel P (fun _ => 0) (retSV (shape rsh (unpackL (tysOf rsh) r))) v' ∧ Q r h' ∧ Hpart P s'.w h' ∧ Keeps w h s'.w h' := by
    intro hK
    split at hK
    case isFalse => simp [stuckW] at hK
    rename_i hc
    simp only [Bool.and_eq_true] at hc
    obtain ⟨r, hQ, hl1, hl2, hr, hbl⟩ := packL_spec (P := P) (β := s'.β) (makes_pcClo hΦ) hK
    obtain ⟨v, hv, hrv⟩ := results_run g' hc.1
    refine ⟨le'.defers, v, hv, r, v, s'.h, rfl, ?_, hQ, g'.part, g'.keeps⟩
    obtain ⟨vs, hvs, hrel⟩ := resVals_run g' fn.results.toList hc.1
    have hsh := shape_rel (P := P) (β := s'.β) (us := []) hc.2 hrel hr (by rw [hl2, hl1])
    have hbs : belowL 0 (shape rsh (unpackL (tysOf rsh) r)) = true := shape_below (hbl 0)
    -- the value is the same
    have hlen2 : (shape rsh (unpackL (tysOf rsh) r)).length = (resVals P s'.e fn.results.toList).length := by
      rw [relL_length hsh, relL_length hrel]
    match hres : resVals P s'.e fn.results.toList, hlen2 with
    | [x], hlen2 =>
      rw [hres] at hrv hrel
      match hshp : shape rsh (unpackL (tysOf rsh) r), hlen2 with
      | [y], _ =>
        rw [hshp] at hsh hbs
        have : ∀ u, rel P s'.β x u → rel P s'.β y u := fun u hu => by
          have hrel' : relL P s'.β (resVals P s'.e fn.results.toList) [u] := by rw [hres]; exact relL_cons.2 ⟨u, [], rfl, hu, by simp [relL]⟩
          have := shape_rel (P := P) (β := s'.β) (us := []) hc.2 hrel' hr (by rw [hl2, hl1])
          rw [hshp] at this
          obtain ⟨u', us, e, k, _⟩ := relL_cons.1 this
          cases e; exact k
        simp only [retSV] at hrv ⊢
        simp only [belowL, Bool.and_eq_true] at hbs
        exact rel_any hbs.1 (this v hrv)
    | [], hlen2 =>
      rw [hres] at hrv
      have hnil : shape rsh (unpackL (tysOf rsh) r) = [] := List.length_eq_zero_iff.1 hlen2
      rw [hnil]
      simpa [retSV, rel, relL] using hrv
    | x :: y :: q, hlen2 =>
      have e1 : retSV (resVals P s'.e fn.results.toList) = .tup (resVals P s'.e fn.results.toList) := by rw [hres]; rfl
      have e2 : retSV (shape rsh (unpackL (tysOf rsh) r)) = .tup (shape rsh (unpackL (tysOf rsh) r)) := by
        unfold retSV
        split
        · rename_i z e; rw [e] at hlen2; simp at hlen2
        · rfl
      rw [e1] at hrv
      rw [e2]
      simp only [rel] at hrv ⊢
      obtain ⟨us, rfl, hus⟩ := hrv
      exact ⟨us, rfl, relL_any hbs (shape_rel (P := P) (β := s'.β) (us := []) hc.2 hus hr (by rw [hl2, hl1]))⟩
  cases e <;> cases x' <;> simp only [ExRel] at hx
  case normal.normal => exact fin hK
  case ret.ret => exact fin hK
  case exit.exit => simp [stuckW] at hK
where
  unpack_len : ∀ (ts : List Ty) (t : Tup ts), (unpackL ts t).length = ts.length
    | [], _ => rfl
    | [t], x => rfl
    | t :: u :: r, x => by simp [unpackL, unpack_len (u :: r) x.2]
  shape_len : ∀ (sh : List Sh) (l : List SV), l.length = (tysOf sh).length → (shape sh l).length = sh.length
    | [], l, _ => by simp [shape]
    | .leaf t :: q, [], h => by simp [tysOf, Sh.tys] at h
    | .leaf t :: q, x :: l, h => by simp [shape, shape_len q l (by simpa [tysOf, Sh.tys] using h)]
    | .agg ts :: q, l, h => by
      simp only [tysOf, Sh.tys, List.length_append] at h
      simp [shape, shape_len q (l.drop ts.length) (by simp; omega)]
  zip_range {l : List SV} {m n : Nat} {v : SV} (h : look ((List.range m).zip l) n = some v) : l[n]? = some v := by
    rw [List.range_eq_range'] at h
    have : ∀ (l : List SV) (k m : Nat), look ((List.range' k m).zip l) n = some v → k ≤ n ∧ l[n - k]? = some v := by
      intro l
      induction l with
      | nil => intro k m h; simp [look] at h
      | cons x r ih =>
        intro k m h
        cases m with
        | zero => simp [look] at h
        | succ m =>
          simp only [List.range'_succ, List.zip_cons_cons, look_cons] at h
          by_cases e : k = n
          · subst e; simp at h; subst h; simp
          · rw [if_neg e] at h
            obtain ⟨h1, h2⟩ := ih (k + 1) m h
            refine ⟨by omega, ?_⟩
            have : n - k = (n - (k + 1)) + 1 := by omega
            rw [this]; simpa using h2
    simpa using (this l 0 m h).2
/-! ## functions that call themselves -/
theorem linked_zero {P : Program} {k : FuncId} {fn : Func} {c : Code} {sh rsh : List Sh} (hf : P.funcs[k]? = some fn) (hb : fn.body = some c) (hnm : (fn.name == "runtime.NumGoroutine") = false) : Linked P ⟨k, sh, rsh, fun _ _ => stuckW⟩ :=
  ⟨⟨fn, c, hf, hb, by simpa using hnm⟩, fun t args Q h w _ _ hF => by simp [stuckW] at hF⟩
theorem linked_any {P : Program} {k : FuncId} {sh rsh : List Sh} {F : Nat → Tup (tysOf sh) → (Tup (tysOf rsh) → HProp) → HProp} (hl : ∀ i, Linked P ⟨k, sh, rsh, F i⟩) : Linked P ⟨k, sh, rsh, fun t Q h => ∃ i, F i t Q h⟩ :=
  ⟨(hl 0).1, fun t args Q h w h1 h2 ⟨i, hF⟩ => (hl i).2 t args Q h w h1 h2 hF⟩
end Go.Cz
