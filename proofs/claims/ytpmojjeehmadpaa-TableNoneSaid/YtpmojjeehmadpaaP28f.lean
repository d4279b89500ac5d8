/- Part of the proof of a law of 28: an engine that runs a function over an abstract heap, and what the functions compute; own work. -/
import Derived.Test.YtpmojjeehmadpaaP28e
set_option linter.unusedVariables false
set_option linter.unusedSimpArgs false
set_option linter.unusedSectionVars false
namespace Go.Cz.S
set_option maxRecDepth 100000
set_option maxHeartbeats 1000000
set_option linter.unusedSimpArgs false
set_option linter.unusedVariables false

theorem mkT {n : Nat} {h : H} (h2 : n ≤ 256) {K : Sl → HProp} (hK : ∀ b h', Obj h' b (List.replicate n (.slice none 0 0)) → h b = none → Ext h h' → K ⟨some ⟨b, 0, none⟩, n, n⟩ h') :
    makeW (n : Int) (n : Int) [Value.slice (Sl.mk none 0 0).a 0 0] 24 K h := by
  unfold makeW
  refine ⟨by omega, Int.le_refl _, by omega, by omega, fun b hb => ?_⟩
  have := hK b (h.set b (.cells (List.replicate n (.slice none 0 0)) true)) (set_same ..) hb (Ext.set hb)
  simpa using this
theorem fresh_ne {h : H} {b b' : Nat} {cs : List Value} (o : Obj h b cs) (hb : h b' = none) : b ≠ b' := fun e => by subst e; unfold Obj at o; rw [hb] at o; cases o

theorem of_spec {n : Nat} {v : Sl} {L : List (Int × Int)} {h : H} (h1 : 1 ≤ n) (h2 : n ≤ 256) (A : Arr h v eP L) (hL : L.length ≤ 4096) (hb : ∀ e ∈ L, 0 ≤ e.1 ∧ e.1 < n ∧ 0 ≤ e.2 ∧ e.2 < n) {Q : Int × Sl × Sl → HProp}
    (hQ : ∀ vo va h', Rows n h' vo → Rows n h' va → Ext h h' → Q ((n : Int), vo, va) h') : truth_of ((n : Int), v) Q h := by
  unfold truth_of
  refine with_i (fun (p : Option Addr) h' => ∃ bg b1 b2, p = some (at0 bg) ∧ Gr h n h' bg b1 b2 0) (fun k hk => ?_) ?_
  · refine both_i (mkT h2 fun b1 ha o1 n1 e1 => both_i (mkT h2 fun b2 hc o2 n2 e2 => Obj.new fun bg hd og ng e3 => ?_) (Obj.new fun bg hc og ng e2 => mkT h2 fun b2 hd o2 n2 e3 => ?_))
      (both_i (mkT h2 fun b1 ha o1 n1 e1 => both_i (mkT h2 fun b2 hc o2 n2 e2 => Obj.new fun bg hd og ng e3 => ?_) (Obj.new fun bg hc og ng e2 => mkT h2 fun b2 hd o2 n2 e3 => ?_))
        (Obj.new fun bg ha og ng e1 => both_i (mkT h2 fun b1 hc o1 n1 e2 => mkT h2 fun b2 hd o2 n2 e3 => ?_) (mkT h2 fun b1 hc o1 n1 e2 => mkT h2 fun b2 hd o2 n2 e3 => ?_)))
    · exact Gr.start h1 (e1.trans (e2.trans e3)) og ((o1.ext e2).ext e3) (o2.ext e3) (e1.none (e2.none ng)) n1 (e1.none n2) (fresh_ne o1 n2) fun h' G => hk _ _ ⟨_, _, _, rfl, G⟩
    · exact Gr.start h1 (e1.trans (e2.trans e3)) (og.ext e3) ((o1.ext e2).ext e3) o2 (e1.none ng) n1 (e1.none (e2.none n2)) (fresh_ne (o1.ext e2) n2) fun h' G => hk _ _ ⟨_, _, _, rfl, G⟩
    · exact Gr.start h1 (e1.trans (e2.trans e3)) og (o2.ext e3) ((o1.ext e2).ext e3) (e1.none (e2.none ng)) (e1.none n2) n1 (fresh_ne o1 n2).symm fun h' G => hk _ _ ⟨_, _, _, rfl, G⟩
    · exact Gr.start h1 (e1.trans (e2.trans e3)) (og.ext e3) o2 ((o1.ext e2).ext e3) (e1.none ng) (e1.none (e2.none n2)) n1 (fresh_ne (o1.ext e2) n2).symm fun h' G => hk _ _ ⟨_, _, _, rfl, G⟩
    · exact Gr.start h1 (e1.trans (e2.trans e3)) ((og.ext e2).ext e3) (o1.ext e3) o2 ng (e1.none n1) (e1.none (e2.none n2)) (fresh_ne o1 n2) fun h' G => hk _ _ ⟨_, _, _, rfl, G⟩
    · exact Gr.start h1 (e1.trans (e2.trans e3)) ((og.ext e2).ext e3) o2 (o1.ext e3) ng (e1.none (e2.none n2)) (e1.none n1) (fresh_ne o1 n2).symm fun h' G => hk _ _ ⟨_, _, _, rfl, G⟩
  · rintro p h' ⟨bg, b1, b2, rfl, G⟩
    simp only [A.len, ltI_eq]
    refine loop_i (fun (s : Int) h3 => ∃ i : Nat, s = i ∧ i ≤ L.length ∧ Gr h n h3 bg b1 b2 (3 * i)) (fun s => ((L.length : Int) - s).toNat) ⟨0, rfl, Nat.zero_le _, G⟩ ?_
    rintro s h3 ⟨i, rfl, hi, G3⟩ k hk
    refine ite_i (fun hlt => ?_) fun hge => ?_
    · have hlt : i < L.length := by simpa using hlt
      have A3 := A.ext G3.ext
      refine A3.index (by omega) (by omega) fun a ha => ?_
      have c0 := A3.cell (i := i) (j := 0) (x := L[i]) (y := .int .i64 L[i].1) (by simpa [eP] using ha) (List.getElem?_eq_getElem hlt) rfl
      have c1 := A3.cell (i := i) (j := 1) (x := L[i]) (y := .int .i64 L[i].2) (by simpa [eP] using ha) (List.getElem?_eq_getElem hlt) rfl
      refine loadI_i c0 (loadI_i c1 ?_)
      obtain ⟨x0, x1, y0, y1⟩ := hb _ (List.getElem_mem hlt)
      obtain ⟨x, hx⟩ : ∃ x : Nat, L[i].1 = x := ⟨L[i].1.toNat, by omega⟩
      obtain ⟨y, hy⟩ : ∃ y : Nat, L[i].2 = y := ⟨L[i].2.toNat, by omega⟩
      rw [hx] at x0 x1 ⊢; rw [hy] at y0 y1 ⊢
      refine G3.add (f := 1) (.inl rfl) (i := x) (by omega) y0 y1 (by omega) fun h4 G4 => ?_
      refine G4.add (f := 2) (.inr rfl) (i := x) (by omega) y0 y1 (by omega) fun h5 G5 => ?_
      refine G5.add (f := 2) (.inr rfl) (i := y) (by omega) x0 x1 (by omega) fun h6 G6 => ?_
      rw [add_i64 (by omega) (by omega)]
      exact hk _ _ ⟨i + 1, by simp, by omega, G6⟩ (by omega)
    · have : i = L.length := by have : ¬ (i < L.length) := (by simpa using hge); omega
      refine deref_i ?_
      refine loadI_i (n := n) (Obj.ld (j := 0) G3.og rfl) ?_
      refine G3.ld (f := 1) (.inl rfl) (G3.ld (f := 2) (.inr rfl) ?_)
      exact hQ _ _ h3 (G3.rows (.inl rfl) (by omega)) (G3.rows (.inr rfl) (by omega)) G3.ext

/-! ## Check -/
def okReq (kind arg prio : Int) (n : Int) : Bool :=
  decide (1 ≤ n) && decide (n ≤ 256) && decide (0 ≤ prio) && decide (prio ≤ 7) &&
    (if kind = 1 then decide (0 ≤ arg) && decide (arg < n) else if kind = 2 then decide (1 ≤ arg) && decide (arg ≤ 64) else if kind = 3 then decide (arg = 0) else if kind = 4 then decide (0 ≤ arg) && decide (arg ≤ 4096) else false)
theorem check_spec {kind arg prio need n : Int} {Q : Int → HProp} {h : H} (hQ : Q (if okReq kind arg prio n then 0 else 2) h) : truth_Check (kind, arg, prio, need, n) Q h := by
  unfold truth_Check
  simp only [leI_eq, ltI_eq, eqI_eq]
  refine with_b (decide (1 ≤ n) && decide (n ≤ 256) && decide (0 ≤ prio) && decide (prio ≤ 7)) (fun k hk => ?_) ?_
  · refine ite_i (fun h1 => ite_i (fun h2 => ite_i (fun h3 => ?_) fun h3 => ?_) fun h2 => ?_) fun h1 => ?_
    · simpa [h1, h2, h3] using hk
    · simpa [h1, h2, h3] using hk
    · simpa [h1, h2] using hk
    · simpa [h1] using hk
  · generalize hg : (decide (1 ≤ n) && decide (n ≤ 256) && decide (0 ≤ prio) && decide (prio ≤ 7)) = g
    refine with_b (okReq kind arg prio n) (fun k hk => ?_) ?_
    · unfold okReq at hk
      rw [hg] at hk
      refine ite_i (fun k1 => ?_) fun k1 => ite_i (fun k2 => ?_) fun k2 => ite_i (fun k3 => ?_) fun k3 => ite_i (fun k4 => ?_) fun k4 => ?_
      · have k1 : kind = 1 := by simpa using k1
        rw [if_pos k1] at hk
        refine with_u (ite_i (fun h1 => ite_i (fun h2 => ?_) fun h2 => ?_) fun h1 => ?_)
        · simpa [h1, h2] using hk
        · simpa [h1, h2] using hk
        · simpa [h1] using hk
      · have k1 : ¬ kind = 1 := by simpa using k1
        have k2 : kind = 2 := by simpa using k2
        rw [if_neg k1, if_pos k2] at hk
        refine with_u (ite_i (fun h1 => ite_i (fun h2 => ?_) fun h2 => ?_) fun h1 => ?_)
        · simpa [h1, h2] using hk
        · simpa [h1, h2] using hk
        · simpa [h1] using hk
      · have k1 : ¬ kind = 1 := by simpa using k1
        have k2 : ¬ kind = 2 := by simpa using k2
        have k3 : kind = 3 := by simpa using k3
        rw [if_neg k1, if_neg k2, if_pos k3] at hk
        refine with_u (ite_i (fun h1 => ?_) fun h1 => ?_)
        · simpa [h1] using hk
        · simpa [h1] using hk
      · have k1 : ¬ kind = 1 := by simpa using k1
        have k2 : ¬ kind = 2 := by simpa using k2
        have k3 : ¬ kind = 3 := by simpa using k3
        have k4 : kind = 4 := by simpa using k4
        rw [if_neg k1, if_neg k2, if_neg k3, if_pos k4] at hk
        refine with_u (ite_i (fun h1 => ite_i (fun h2 => ?_) fun h2 => ?_) fun h1 => ?_)
        · simpa [h1, h2] using hk
        · simpa [h1, h2] using hk
        · simpa [h1] using hk
      · have k1 : ¬ kind = 1 := by simpa using k1
        have k2 : ¬ kind = 2 := by simpa using k2
        have k3 : ¬ kind = 3 := by simpa using k3
        have k4 : ¬ kind = 4 := by simpa using k4
        rw [if_neg k1, if_neg k2, if_neg k3, if_neg k4, Bool.and_false] at hk
        exact hk
    · refine ite_i (fun hc => ?_) fun hc => ?_
      · rw [if_neg (by simpa using hc)] at hQ; exact hQ
      · rw [if_pos (by simpa using hc)] at hQ; exact hQ
end Go.Cz.S
