/- Part of the proof of a law of 28: an engine that runs a function over an abstract heap, and what the functions compute; own work. -/
import Derived.Test.YtpmojjeehmadpaaP28a
set_option linter.unusedVariables false
set_option linter.unusedSimpArgs false
set_option linter.unusedSectionVars false
namespace Go.Cz
set_option maxRecDepth 100000
set_option maxHeartbeats 1000000
set_option linter.unusedSimpArgs false
set_option linter.unusedVariables false

theorem wrapu {n : Int} (h1 : 0 ≤ n) (h2 : n ≤ 18446744073709551615) : IntKind.u64.wrap n = n := by
  simp [IntKind.wrap, IntKind.bits, IntKind.signed]; omega
theorem add_u64 {a b : Int} (h1 : 0 ≤ a + b) (h2 : a + b ≤ 18446744073709551615) : add .u64 a b = a + b := by unfold add; exact wrapu h1 h2
abbrev FAR : Int := 18446744073709551615

theorem Vec.tail1 {α : Type} {h : H} {s : Sl} {E : Enc α} {x : α} {tl : List α} (V : Vec h s E (x :: tl)) {K : Sl → HProp} (hK : ∀ u, Vec h u E tl → (∀ b, u.on b → s.on b) → K u h) : sliceW s E.w 1 (s.len : Int) K h := by
  have hl := V.len
  have hle := V.le
  simp only [List.length_cons] at hl
  unfold sliceW
  refine ⟨by omega, by omega, by omega, ?_⟩
  have hne : s.a ≠ none := fun e => by have := V.nil e; omega
  cases ha : s.a with
  | none => exact absurd ha hne
  | some a =>
  obtain ⟨k1, c, k2, k3, k4⟩ := V.blk a ha
  have hon : ∀ u : Sl, u.a = (if s.cap = (1 : Int).toNat then some a else (some a).map (·.add ((1 : Int).toNat * E.w))) → ∀ b, u.on b → s.on b := by
    rintro u hu b ⟨a', ha', rfl⟩
    rw [hu] at ha'
    split at ha'
    · cases ha'; exact ⟨a, ha, rfl⟩
    · cases ha'
      refine ⟨a, ha, ?_⟩
      show a.block = (a.add ((1 : Int).toNat * E.w)).block
      rw [add_eq k1]
  refine hK _ ⟨by simp; omega, by simp; omega, ?_, ?_⟩ (hon _ rfl)
  · intro e
    simp only at e
    split at e <;> cases e
  · intro a' ha'
    simp only [] at ha'
    split at ha'
    · rename_i h1
      cases ha'
      have : tl = [] := List.length_eq_zero_iff.1 (by simp at h1; omega)
      subst this
      simp at h1
      exact ⟨k1, c, k2, by simp [h1]; omega, by simp [Enc.all]⟩
    · rename_i h1
      simp at ha'
      subst ha'
      rw [add_eq k1]
      refine ⟨rfl, c, k2, ?_, ?_⟩
      · simp only [Int.toNat_one]
        have : (s.cap - 1) * E.w + E.w = s.cap * E.w := by rw [← Nat.succ_mul]; congr 1; omega
        omega
      · have e1 : E.all (x :: tl) = E.f x ++ E.all tl := by simp [Enc.all]
        rw [e1] at k4
        have e2 := congrArg (fun l => l.drop E.w) k4
        simp only [List.drop_take, List.drop_drop] at e2
        rw [List.drop_left' (E.len x)] at e2
        rw [← e2]
        congr 1
        rw [List.length_cons, Nat.succ_mul]; omega

/-- slices of numbers below n, that may be read -/
def Rows (n : Nat) (h : H) (v : Sl) : Prop :=
  ∃ svs : List Sl, Arr h v eL svs ∧ svs.length = n ∧ ∀ s ∈ svs, ∃ l : List Int, Arr h s (eI .i64) l ∧ l.length ≤ 20000 ∧ ∀ x ∈ l, 0 ≤ x ∧ x < n
theorem Rows.ext {n : Nat} {h h' : H} {v : Sl} (R : Rows n h v) (e : Ext h h') : Rows n h' v := by
  obtain ⟨svs, A, hn, hs⟩ := R
  exact ⟨svs, A.ext e, hn, fun s hm => by obtain ⟨l, B, hl⟩ := hs s hm; exact ⟨l, B.ext e, hl⟩⟩
theorem Rows.len {n : Nat} {h : H} {v : Sl} (R : Rows n h v) : v.len = n := by obtain ⟨svs, A, hn, _⟩ := R; rw [A.len, hn]
/-- one row -/
theorem Rows.row {n : Nat} {h0 h : H} {v : Sl} (R : Rows n h0 v) (e : Ext h0 h) {i : Nat} (hi : i < n) {K : Sl → HProp} (hK : ∀ x l, Arr h0 x (eI .i64) l → l.length ≤ 20000 → (∀ y ∈ l, 0 ≤ y ∧ y < n) → K x h) : indexW (i : Int) v 1 (fun a => loadL a K) h := by
  obtain ⟨svs, A, hn, hs⟩ := R
  refine (A.ext e).index (by omega) (by omega) fun a ha => ?_
  have hi' : i < svs.length := by omega
  obtain ⟨l, B, h1, h2⟩ := hs _ (List.getElem_mem hi')
  have hc := (A.ext e).cell (E := eL) (i := i) (j := 0) (a := a) (x := svs[i]) (by simpa [eL] using ha) (List.getElem?_eq_getElem hi') rfl
  rw [add0] at hc
  exact loadL_i hc (hK _ _ B h1 h2)
/-- one number -/
theorem Arr.num {h : H} {v : Sl} {k : IntKind} {l : List Int} (A : Arr h v (eI k) l) {i : Nat} (hi : i < l.length) {K : Int → HProp} (hK : K l[i] h) : indexW (i : Int) v 1 (fun a => loadI k a K) h := by
  refine A.index (by omega) (by omega) fun a ha => ?_
  have hc := A.cell (E := eI k) (i := i) (j := 0) (a := a) (x := l[i]) (by simpa [eI] using ha) (List.getElem?_eq_getElem hi) rfl
  rw [add0] at hc
  exact loadI_i hc hK
theorem Vec.put {h : H} {v : Sl} {k : IntKind} {l : List Int} (V : Vec h v (eI k) l) {i : Nat} (hi : i < l.length) {x : Int} {K : HProp} (hK : ∀ h', Vec h' v (eI k) (l.set i x) → Fr v.on h h' → K h') : indexW (i : Int) v 1 (fun a => storeW a (Value.int k x) K) h := by
  refine V.arr.index (by omega) (by omega) fun a ha => ?_
  have := V.store (E := eI k) (i := i) (j := 0) (a := a) (x := l[i]) (x' := x) (y := .int k x) (by simpa [eI] using ha) (List.getElem?_eq_getElem hi) Nat.one_pos rfl hK
  rwa [add0] at this

/-- what is known of the distances on the way -/
structure Dist (n : Nat) (outL : List Int) : Prop where
  len : outL.length = n
  val : ∀ x ∈ outL, x = FAR ∨ 0 ≤ x ∧ x + outL.count FAR ≤ n
theorem Dist.set {n : Nat} {outL : List Int} (D : Dist n outL) {i : Nat} {y : Int} (hn : n ≤ 256) (hi : i < n) (hv : outL[i]? = some FAR) (h0 : 0 ≤ y) (hy : y + outL.count FAR ≤ n) : Dist n (outL.set i (y + 1)) ∧ (outL.set i (y + 1)).count FAR + 1 = outL.count FAR := by
  have hi' : i < outL.length := by rw [D.len]; exact hi
  have hpos : 0 < outL.count FAR := List.count_pos_iff.2 (List.mem_of_getElem? hv)
  have hc : (outL.set i (y + 1)).count FAR + 1 = outL.count FAR := by
    rw [List.count_set hi']
    have e1 : outL[i] = FAR := by rw [List.getElem?_eq_getElem hi'] at hv; exact Option.some.inj hv
    rw [e1]
    have : ¬ (y + 1 = FAR) := by simp only [FAR] at *; omega
    simp [this]
    omega
  refine ⟨⟨by rw [List.length_set]; exact D.len, fun x hx => ?_⟩, hc⟩
  rcases List.mem_or_eq_of_mem_set hx with hx | rfl
  · rcases D.val x hx with h | ⟨h1, h2⟩
    · exact .inl h
    · exact .inr ⟨h1, by omega⟩
  · exact .inr ⟨by omega, by omega⟩

end Go.Cz
namespace Go.Cz.S
theorem far_spec {n u : Nat} {v : Sl} {h : H} (h1 : 1 ≤ n) (h2 : n ≤ 256) (hu : u < n) (R : Rows n h v) {Q : Sl → HProp}
    (hQ : ∀ r h' outL, Vec h' r (eI .u64) outL → outL.length = n → (∀ x ∈ outL, x = FAR ∨ 0 ≤ x ∧ x ≤ 256) → New h r → Ext h h' → Q r h') : truth_far (v, (u : Int)) Q h := by
  unfold truth_far
  simp only [R.len]
  refine fill_spec h1 h2 fun r ha V0 hra N0 E0 => ?_
  refine V0.put (by simpa using hu) fun hb V1 F1 => ?_
  have E1 : Ext h hb := E0.of_new F1 N0
  refine new_i (E := eI .i64) (l := [(u : Int)]) (by simp [eI_all]) rfl fun b hc Vq Nq Ec => ?_
  have V2 := V1.ext Ec
  have E2 := E1.trans Ec
  have D0 : Dist n ((List.replicate n FAR).set u 0) := by
    refine ⟨by simp, fun x hx => ?_⟩
    have hcount : ((List.replicate n FAR).set u 0).count FAR + 1 = n := by
      rw [List.count_set (by simpa using hu)]
      have : ¬ ((0 : Int) = FAR) := by decide
      simp [this]
      omega
    rcases List.mem_or_eq_of_mem_set hx with hx | rfl
    · exact .inl (List.mem_replicate.1 hx).2
    · exact .inr ⟨Int.le_refl _, by omega⟩
  refine loop_n (fun T (s : Sl) h' => ∃ outL qL, Vec h' r (eI .u64) outL ∧ Dist n outL ∧ Vec h' s (eI .i64) qL ∧ Ext h h' ∧ (∀ b, s.on b → h b = none ∧ ¬ r.on b) ∧ T = outL.count FAR + qL.length ∧ T ≤ n ∧
      (∀ q ∈ qL, ∃ j : Nat, q = j ∧ j < n ∧ ∃ y, outL[j]? = some y ∧ y ≠ FAR)) _ ⟨_, [(u : Int)], V2, D0, Vq, E2, ?_, rfl, ?_, ?_⟩ ?_
  · intro b' hb'
    have hbn := Nq b' hb'
    exact ⟨E1.none hbn, fun hr => by obtain ⟨o, ho⟩ := V1.there hr; rw [hbn] at ho; cases ho⟩
  · rw [List.count_set (by simpa using hu)]
    have : ¬ ((0 : Int) = FAR) := by decide
    simp [this]
    omega
  · intro q hq
    simp at hq
    subst hq
    exact ⟨u, rfl, hu, 0, by simp [hu], by decide⟩
  · rintro T s h' ⟨outL, qL, V, D, W, E, hs, rfl, hT, hq⟩ k hk
    simp only [ltI_eq]
    refine ite_i (fun hpos => ?_) fun hz => ?_
    · have hpos : 0 < s.len := by simpa using hpos
      cases qL with
      | nil => have := W.len; simp at this; omega
      | cons x tl =>
      obtain ⟨j, rfl, hj, y, hy, hyF⟩ := hq x (List.mem_cons_self ..)
      have W0 := W.arr.num (i := 0) (by simp) (K := fun x => indexW x v 1 (fun a => loadL a fun x_1 => loopW (s, 0) fun (s : Sl × Int) (k_1 : Sl × Int → HProp) =>
                        iteW (decide (s.snd < ↑x_1.len))
                          (withK (fun (t : Sl) => k_1 (t, add IntKind.i64 s.snd 1))
                            fun (k : Sl → HProp) =>
                            indexW s.snd x_1 1 fun (a : Addr) =>
                              loadI IntKind.i64 a fun (x_2 : Int) =>
                                indexW x_2 r 1 fun (a : Addr) =>
                                  loadI IntKind.u64 a fun (x_3 : Int) =>
                                    iteW (eqI x_3 18446744073709551615)
                                      (indexW x r 1 fun (a : Addr) =>
                                        loadI IntKind.u64 a fun (x : Int) =>
                                          indexW x_2 r 1 fun (a : Addr) =>
                                            storeW a (Value.int IntKind.u64 (add IntKind.u64 x 1))
                                              (appendW s.fst [Value.int IntKind.i64 0] 8 1 [Value.int IntKind.i64 x_2]
                                                k))
                                      (k s.fst))
                          (sliceW s.fst 1 1 (↑s.fst.len) k))) (h := h') ?_
      · exact W0
      simp only [List.getElem_cons_zero]
      refine R.row E hj fun x1 l A hl8 hl => ?_
      refine loop_i (fun (p : Sl × Int) h'' => ∃ (i : Nat) (outL' qL' : List Int), p.2 = i ∧ i ≤ l.length ∧ Vec h'' r (eI .u64) outL' ∧ Dist n outL' ∧ Vec h'' p.1 (eI .i64) ((j : Int) :: qL') ∧ Ext h h'' ∧ (∀ b, p.1.on b → h b = none ∧ ¬ r.on b) ∧
          outL'.count FAR + qL'.length = outL.count FAR + tl.length ∧ (∀ q ∈ ((j : Int) :: qL'), ∃ j : Nat, q = j ∧ j < n ∧ ∃ y, outL'[j]? = some y ∧ y ≠ FAR)) (fun p => ((l.length : Int) - p.2).toNat) ?_ ?_
      · exact ⟨0, outL, tl, rfl, Nat.zero_le _, V, D, W, E, hs, rfl, hq⟩
      · rintro ⟨s1, jj⟩ h'' ⟨i, outL', qL', rfl, hil, V', D', W', E', hs', hcnt, hq'⟩ k1 hk1
        simp only at *
        have A'' := A.ext E'
        rw [A.len]
        refine ite_i (fun hlt => ?_) fun hge => ?_
        · have hlt : i < l.length := by simpa using hlt
          refine with_u ?_
          refine A''.num hlt ?_
          obtain ⟨y0, y1⟩ := hl _ (List.getElem_mem hlt)
          obtain ⟨vv, hvv⟩ : ∃ vv : Nat, l[i] = vv := ⟨l[i].toNat, by omega⟩
          rw [hvv] at y0 y1 ⊢
          have hvn : vv < n := by omega
          have hvo : vv < outL'.length := by rw [D'.len]; exact hvn
          refine V'.arr.num hvo ?_
          simp only [eqI_eq]
          obtain ⟨j2, hj2, hjn2, y2, hy2, hyF2⟩ := hq' _ (List.mem_cons_self ..)
          have : j2 = j := by omega
          subst this
          refine ite_i (fun hfar => ?_) fun hfar => ?_
          · have hfar : outL'[vv] = FAR := by simpa using hfar
            have hjo : j2 < outL'.length := by rw [D'.len]; exact hjn2
            refine V'.arr.num hjo ?_
            have e2 : outL'[j2] = y2 := by rw [List.getElem?_eq_getElem hjo] at hy2; exact Option.some.inj hy2
            rw [e2]
            have hy2b : 0 ≤ y2 ∧ y2 + outL'.count FAR ≤ n := by
              rcases D'.val y2 (List.mem_of_getElem? hy2) with h | h
              · exact absurd h hyF2
              · exact h
            rw [add_u64 (by omega) (by omega)]
            refine V'.put hvo fun h3 V3 F3 => ?_
            obtain ⟨D3, hc3⟩ := D'.set h2 hvn (by rw [List.getElem?_eq_getElem hvo, hfar]) hy2b.1 hy2b.2
            have W3 : Vec h3 s1 (eI .i64) ((j2 : Int) :: qL') := W'.fr F3 fun b hb hr => (hs' b hb).2 hr
            have E3 : Ext h h3 := E'.of_new F3 N0
            have hlen3 : ((j2 : Int) :: qL').length ≤ 300 := by simp at hT ⊢; omega
            refine W3.append_new E3 (fun b hb => (hs' b hb).1) (m := [(vv : Int)]) rfl (by simp [eI_all]) rfl (by omega) fun u h4 V4 E4 N4 F4 hu4 => ?_
            rw [add_i64 (by omega) (by omega)]
            refine hk1 _ _ ⟨i + 1, outL'.set vv (y2 + 1), qL' ++ [(vv : Int)], by simp, by omega, V3.fr F4 (fun b hb hr => (hs' b hr).2 hb), D3, by simpa using V4, E4, ?_, by simp; omega, ?_⟩ (by simp; omega)
            · intro b hb
              refine ⟨N4 b hb, fun hr => ?_⟩
              rcases hu4 b hb with h | h
              · exact (hs' b h).2 hr
              · obtain ⟨o, ho⟩ := V3.there hr; rw [h] at ho; cases ho
            · intro q hqm
              have hset : ∀ j3 : Nat, j3 < n → (∃ y, outL'[j3]? = some y ∧ y ≠ FAR) → ∃ y, (outL'.set vv (y2 + 1))[j3]? = some y ∧ y ≠ FAR := by
                rintro j3 h3n ⟨y, hy, hyF⟩
                by_cases e : vv = j3
                · subst e; rw [List.getElem?_eq_getElem hvo, hfar] at hy; cases hy; exact absurd rfl hyF
                · exact ⟨y, by rw [List.getElem?_set_ne e]; exact hy, hyF⟩
              have hqm : q ∈ ((j2 : Int) :: qL') ∨ q = (vv : Int) := by simpa [or_assoc] using hqm
              rcases hqm with hqm | rfl
              · obtain ⟨j3, a, b, c⟩ := hq' q hqm
                exact ⟨j3, a, b, hset j3 b c⟩
              · exact ⟨vv, rfl, hvn, y2 + 1, by simp [hvo], by simp only [FAR]; omega⟩
          · rw [add_i64 (by omega) (by omega)]
            exact hk1 _ _ ⟨i + 1, outL', qL', by simp, by omega, V', D', W', E', hs', hcnt, hq'⟩ (by simp; omega)
        · have hil : i = l.length := by have : ¬ (i < l.length) := (by simpa using hge); omega
          refine Vec.tail1 W' fun u Vu hu => ?_
          exact hk (outL'.count FAR + qL'.length) _ _ (by rw [List.length_cons]; omega) ⟨outL', qL', V', D', Vu, E', fun b hb => hs' b (hu b hb), rfl, by rw [List.length_cons] at hT; omega, fun q hqm => hq' q (List.mem_cons_of_mem _ hqm)⟩
    · have : s.len = 0 := by simpa using hz
      exact hQ r h' outL V D.len (fun x hx => (D.val x hx).imp id fun h => ⟨h.1, by omega⟩) N0 E
end Go.Cz.S
