/- Part of the proof of a law of 28: an engine that runs a function over an abstract heap, and what the functions compute; own work. -/
import Derived.Test.YtpmojjeehmadpaaP28s
import Derived.Test.YtpmojjeehmadpaaP28o
set_option linter.unusedVariables false
set_option linter.unusedSimpArgs false
set_option linter.unusedSectionVars false
namespace Go.Cz
set_option linter.unusedVariables false
/-- three whole numbers -/
def eT : Enc (Int × Int × Int) := ⟨3, fun x => [.int .i64 x.1, .int .i64 x.2.1, .int .i64 x.2.2], fun _ => rfl, fun n v hv => by simp at hv; rcases hv with rfl | rfl | rfl <;> trivial, by decide⟩
/-- two bytes -/
def eU2 : Enc (Int × Int) := ⟨2, fun x => [.int .u8 x.1, .int .u8 x.2], fun _ => rfl, fun n v hv => by simp at hv; rcases hv with rfl | rfl <;> trivial, by decide⟩
/-- an act -/
structure Deed where
  kind : Int
  n : Int
  a0 : Int
  a1 : Int
  a2 : Int
  a3 : Int
  r0 : Int
  r1 : Int
  r2 : Int
  r3 : Int
  odd : Bool
def Deed.cells (e : Deed) : List Value := [.int .u8 e.kind, .int .i64 e.n, .int .u8 e.a0, .int .u8 e.a1, .int .u8 e.a2, .int .u16 e.a3, .int .i64 e.r0, .int .i64 e.r1, .int .i64 e.r2, .int .i64 e.r3, .bool e.odd]
def eD : Enc Deed := ⟨11, Deed.cells, fun _ => rfl, fun e v hv => by
  simp only [Deed.cells, List.mem_cons, List.not_mem_nil, or_false] at hv
  rcases hv with rfl | rfl | rfl | rfl | rfl | rfl | rfl | rfl | rfl | rfl | rfl <;> trivial, by decide⟩
section
variable {h : H} {v : Sl} {C : List (Int × Int × Int)} {i : Nat}
theorem Arr.w0 (A : Arr h v eT C) (hi : i < C.length) {K : Int → HProp} (hK : K C[i].1 h) : indexW (i : Int) v 3 (fun a => loadI IntKind.i64 (a.add 0) K) h :=
  A.index (by omega) (by omega) fun a ha => loadI_i (A.cell (E := eT) (i := i) (j := 0) (x := C[i]) (by simpa [eT] using ha) (List.getElem?_eq_getElem hi) rfl) hK
theorem Arr.w1 (A : Arr h v eT C) (hi : i < C.length) {K : Int → HProp} (hK : K C[i].2.1 h) : indexW (i : Int) v 3 (fun a => loadI IntKind.i64 (a.add 1) K) h :=
  A.index (by omega) (by omega) fun a ha => loadI_i (A.cell (E := eT) (i := i) (j := 1) (x := C[i]) (by simpa [eT] using ha) (List.getElem?_eq_getElem hi) rfl) hK
theorem Arr.w3 (A : Arr h v eT C) (hi : i < C.length) {K : Int → Int → Int → HProp} (hK : K C[i].1 C[i].2.1 C[i].2.2 h) : indexW (i : Int) v 3 (fun a => loadI IntKind.i64 (a.add 0) fun x => loadI IntKind.i64 (a.add 1) fun y => loadI IntKind.i64 (a.add 2) fun z => K x y z) h :=
  A.index (by omega) (by omega) fun a ha => loadI_i (A.cell (E := eT) (i := i) (j := 0) (x := C[i]) (by simpa [eT] using ha) (List.getElem?_eq_getElem hi) rfl)
    (loadI_i (A.cell (E := eT) (i := i) (j := 1) (x := C[i]) (by simpa [eT] using ha) (List.getElem?_eq_getElem hi) rfl) (loadI_i (A.cell (E := eT) (i := i) (j := 2) (x := C[i]) (by simpa [eT] using ha) (List.getElem?_eq_getElem hi) rfl) hK))
end
end Go.Cz
namespace Go.Cz.S
set_option maxRecDepth 100000
set_option maxHeartbeats 1000000
set_option linter.unusedSimpArgs false
set_option linter.unusedVariables false

theorem result_spec {h : H} {b : Nat} {lv av : Sl} {c : Cfg} {pos : Int} {all : List Ent} (T : Tab h b lv av c pos all) (hv : Valid c.n c.L) (hL : c.L.length ≤ 4096) (hl : all.length ≤ 1000000) {i : Nat} {e : Ent} (he : all[i]? = some e) (hok : okReq e.kind e.arg e.prio c.n = true)
    {Q : Sl × Int → HProp} (h3 : e.state = 3 → ∀ x h', (x.len : Int) = c.n → Ext h h' → Q (x, 0) h') (hw : e.state = 1 ∨ e.state = 2 → Q (Sl.mk none 0 0, 271) h) (hs : e.state ≠ 1 → e.state ≠ 2 → e.state ≠ 3 → Q (Sl.mk none 0 0, 272) h) :
    table_Table_Result (some (at0 b), ((i + 1 : Nat) : Int)) Q h := by
  have hi := (List.getElem?_eq_some_iff.1 he).1
  unfold table_Table_Result
  simp only [eqI_eq]
  refine find_spec T hv.n.1 hl (fun hx => by omega) fun j e' a hid hj he' ha => ?_
  have : j = i := by omega
  subst this
  rw [he] at he'; cases he'
  refine ite_f rfl (deref_i (loadI_i (T.cell (j := 4) ha he rfl) (ite_i (fun h1 => ?_) fun h1 => ?_)))
  · have h1 : e.state = 3 := by simpa using h1
    simp only [add0]
    refine deref_i (loadI_i (T.ob.ld (j := 0) rfl) (deref_i (loadL_i (v := lv) (T.ob.ld (j := 3) rfl) (deref_i ?_))))
    have c0 := T.cell (j := 0) ha he rfl
    rw [add0] at c0
    refine loadI_i c0 (loadI_i (T.cell (j := 1) ha he rfl) (loadI_i (T.cell (j := 2) ha he rfl) (loadI_i (T.cell (j := 3) ha he rfl) ?_)))
    unfold truth_Of
    refine run_spec T.al hL (fun hx => absurd ⟨hv, hok⟩ hx) fun _ _ r m h4 outL V4 hl4 _ E4 _ _ _ => ?_
    refine h3 h1 r h4 ?_ E4
    rw [V4.len, hl4]
    have := hv.n.1
    omega
  · have h1 : ¬ e.state = 3 := by simpa using h1
    refine with_u (ite_i (fun h2 => ite_t h2 (hw (.inl (by simpa using h2)))) fun h2 => ite_i (fun h4 => hw (.inr (by simpa using h4))) fun h4 => hs (by simpa using h2) (by simpa using h4) h1)
theorem made_spec {N : Int} {v : Sl} {L : List (Int × Int)} {h : H} (A : Arr h v eU2 L) (hL : L.length ≤ 200) (N0 : 0 ≤ N) (N1 : N ≤ 255) (hb : ∀ x ∈ L, 0 ≤ x.1 ∧ x.1 ≤ 255 ∧ 0 ≤ x.2 ∧ x.2 ≤ 255) {Q : Int × Sl → HProp}
    (hQ : ∀ n u M h', 1 ≤ n → n ≤ 60 → Arr h' u eP M → Ext h h' → Valid n M → M.length ≤ 200 → Q (n, u) h') : law16_Graph_Made (N, v) Q h := by
  unfold law16_Graph_Made
  simp only [ltI_eq, eqI_eq, leI_eq, A.len]
  rw [cnv_rem N0 (by omega) (by decide), add_i64 (by omega) (by omega)]
  obtain ⟨n, hn⟩ : ∃ n : Int, 1 + N % 60 = n := ⟨_, rfl⟩
  rw [hn]
  have n0 : 1 ≤ n := by omega
  have n1 : n ≤ 60 := by omega
  clear hn
  refine must_i (by decide) ?_
  refine loop_i (fun (s : Sl × Int) h' => ∃ (i : Nat) (M : List (Int × Int)), s.2 = i ∧ i ≤ L.length ∧ Vec h' s.1 eP M ∧ New h s.1 ∧ Ext h h' ∧ M.length ≤ i ∧ (∀ e ∈ M, badE n e = false)) (fun s => ((L.length : Int) - s.2).toNat) ⟨0, [], rfl, Nat.zero_le _, Vec.nil0, New.nil0, Ext.refl h, Nat.le_refl _, by simp⟩ ?_
  rintro ⟨u, i⟩ h' ⟨i, M, rfl, hi, V, Nw, E, hM, hgd⟩ k hk
  simp only at *
  refine ite_i (fun hlt => ?_) fun hge => ?_
  · have hlt : i < L.length := by simpa using hlt
    have A' := A.ext E
    obtain ⟨x0, x1, y0, y1⟩ := hb _ (List.getElem_mem hlt)
    refine with_u (A'.index (by omega) (by omega) fun a ha => ite_t rfl (ite_t rfl ?_))
    refine loadI_i (A'.cell (E := eU2) (i := i) (j := 0) (x := L[i]) (by simpa [eU2] using ha) (List.getElem?_eq_getElem hlt) rfl) (must_i (by omega) ?_)
    refine A'.index (by omega) (by omega) fun a2 ha2 => ite_t rfl (ite_t rfl ?_)
    refine loadI_i (A'.cell (E := eU2) (i := i) (j := 1) (x := L[i]) (by simpa [eU2] using ha2) (List.getElem?_eq_getElem hlt) rfl) (must_i (by omega) ?_)
    rw [cnv_rem x0 (by omega) (by omega), cnv_rem y0 (by omega) (by omega)]
    have ei : add .i64 (i : Int) 1 = (i : Int) + 1 := add_i64 (by omega) (by omega)
    rw [ei]
    refine ite_i (fun hne => ?_) fun heq => ?_
    · have hne : ¬ (L[i].1 % n = L[i].2 % n) := by simpa using hne
      refine V.append_new E Nw (m := [(L[i].1 % n, L[i].2 % n)]) rfl rfl rfl (by omega) fun u2 h2 V2 E2 N2 _ _ => ?_
      refine hk _ _ ⟨i + 1, _, by simp, by omega, V2, N2, E2, by simp; omega, fun e he => ?_⟩ (by simp; omega)
      rcases List.mem_append.1 he with he | he
      · exact hgd e he
      · rw [List.mem_singleton.1 he]
        have a1 := Int.emod_nonneg L[i].1 (show n ≠ 0 by omega)
        have a2 := Int.emod_lt_of_pos L[i].1 (show 0 < n by omega)
        have a3 := Int.emod_nonneg L[i].2 (show n ≠ 0 by omega)
        have a4 := Int.emod_lt_of_pos L[i].2 (show 0 < n by omega)
        unfold badE
        simp only [a1, a2, a3, a4, hne, decide_true, decide_false, Bool.and_self, Bool.not_true, Bool.or_self]
    · exact hk _ _ ⟨i + 1, M, by simp, by omega, V, Nw, E, by omega, hgd⟩ (by simp; omega)
  · have hgood : badG n M = false := by
      unfold badG
      rw [decide_eq_true n0, decide_eq_true (show n ≤ 256 by omega)]
      simp only [Bool.and_self, Bool.not_true, Bool.false_or]
      rw [List.any_eq_false]
      intro e he
      rw [hgd e he]; decide
    refine refnormal_spec V.arr (by omega) (fun hx => by rw [hgood] at hx; cases hx) fun _ u2 M2 h2 U2 E2 _ R2 hl2 hm2 => ?_
    refine hQ n u2 M2 h2 n0 n1 U2 (E.trans E2) ⟨?_, R2⟩ (by omega)
    unfold badG
    rw [decide_eq_true n0, decide_eq_true (show n ≤ 256 by omega)]
    simp only [Bool.and_self, Bool.not_true, Bool.false_or]
    rw [List.any_eq_false]
    intro e he
    rw [hgd e (hm2 e he)]; decide
theorem ask_spec {x y z w n : Int} (n0 : 1 ≤ n) {h : H} {Q : Int × Int × Int × Int → HProp} (hQ : ∀ a b c d, Q (a, b, c, d) h) : law16_Ask_Made (x, y, z, w, n) Q h := by
  unfold law16_Ask_Made
  refine must_i (by decide) (must_i (by decide) (must_i (by decide) (with_u ?_)))
  refine ite_i (fun _ => must_i (show n ≠ 0 by omega) (hQ _ _ _ _)) fun _ => ite_i (fun _ => must_i (by decide) (hQ _ _ _ _)) fun _ => ite_i (fun _ => must_i (by decide) (hQ _ _ _ _)) fun _ => hQ _ _ _ _
theorem fault_spec {x : Int} {h : H} {Q : Int → HProp} (hQ : ∀ c, Q c h) : law28_fault x Q h := by
  unfold law28_fault
  exact ite_i (fun _ => hQ _) fun _ => ite_i (fun _ => hQ _) fun _ => hQ _
end Go.Cz.S
