/- Part of the proof of a law of 28: an engine that runs a function over an abstract heap, and what the functions compute; own work. -/
import Derived.Test.YtpmojjeehmadpaaP28u
set_option linter.unusedVariables false
set_option linter.unusedSimpArgs false
set_option linter.unusedSectionVars false
namespace Go.Cz.S
set_option maxRecDepth 100000
set_option maxHeartbeats 2000000
set_option linter.unusedSimpArgs false
set_option linter.unusedVariables false

theorem tableEnds_spec {N many pages tot : Int} {gv acts : Sl} {L : List (Int × Int)} {D : List Deed} {h : H} (A : Arr h gv eU2 L) (B : Arr h acts eD D) (N0 : 0 ≤ N) (N1 : N ≤ 255) (m0 : 0 ≤ many) (m1 : many ≤ 255) (t0 : 0 ≤ tot) (t1 : tot ≤ 65535)
    (hb : ∀ x ∈ L, 0 ≤ x.1 ∧ x.1 ≤ 255 ∧ 0 ≤ x.2 ∧ x.2 ≤ 255) {Q : Bool → HProp} (hQ : ∀ h', Ext h h' → Q true h') : law28_TableEnds (N, gv, many, pages, tot, acts) Q h := by
  unfold law28_TableEnds law25_Place_Great law27_Total
  simp only [eqI_eq, ltI_eq, A.len, B.len]
  refine with_b (decide ((200 : Int) < (L.length : Int)) || decide ((200 : Int) < (D.length : Int))) (fun k hk => ite_i (fun h1 => ?_) fun h1 => ?_) (ite_i (fun _ => keeps_spec hQ) fun hs => ?_)
  · rw [h1] at hk; exact hk
  · rw [h1] at hk; exact hk
  rw [Bool.or_eq_false_iff] at hs
  have hL : L.length ≤ 200 := by have := of_decide_eq_false hs.1; omega
  have hD : D.length ≤ 200 := by have := of_decide_eq_false hs.2; omega
  refine made_spec A hL N0 N1 hb fun n u M h1 n0 n1 U e1 hv hM => ?_
  simp only []
  obtain ⟨mn, hmn⟩ : ∃ mn : Int, minI n 16 = mn := ⟨_, rfl⟩
  have hmn' : 1 ≤ mn ∧ mn ≤ 16 ∧ mn ≤ n := by
    rw [minI_eq] at hmn
    split at hmn <;> omega
  rw [hmn]
  refine must_i (by omega) (must_i (by decide) ?_)
  rw [cnv_rem m0 (by omega) (by omega), cnv_rem t0 (by omega) (by decide)]
  have hq1 := Int.emod_nonneg many (show mn ≠ 0 by omega)
  have hq2 := Int.emod_lt_of_pos many (show 0 < mn by omega)
  rw [add_i64 (a := 1) (by omega) (by omega), add_i64 (a := 256) (by omega) (by omega)]
  have hok : newOk n M (1 + many % mn) (256 + tot % 4000) := by
    refine ⟨hv, ?_, by omega, by omega⟩
    unfold cutOk
    simp only [Bool.and_eq_true, decide_eq_true_eq]
    omega
  refine new_spec U (by omega) (fun hx => absurd hok hx) fun _ b lv h2 T2 e2 nb => ?_
  obtain ⟨c, hc⟩ : ∃ c : Cfg, (⟨n, 1 + many % mn, 256 + tot % 4000, M⟩ : Cfg) = c := ⟨_, rfl⟩
  have hcn : c.n = n := by rw [← hc]
  have hck : c.k ≠ 0 := by rw [← hc]; show 1 + many % mn ≠ 0; omega
  have hcL : c.L = M := by rw [← hc]
  have hvc : Valid c.n c.L := by rw [hcn, hcL]; exact hv
  have hLc : c.L.length ≤ 4096 := by rw [hcL]; omega
  have hn1 : 1 ≤ c.n := by omega
  rw [hc] at T2
  rw [← hcn]
  refine ite_f rfl ?_
  have E12 := e1.trans e2
  have M2 : Mine h h2 b lv ⟨none, 0, 0⟩ c (-1) [] := ⟨T2, E12, e1.none nb, fun x ⟨a, ha, _⟩ => by cases ha⟩
  refine loop_i (fun (s : Sl × Int) h' => ∃ (i : Nat) (av : Sl) (pos : Int) (all : List Ent), s.2 = i ∧ i ≤ D.length ∧ Bet h h' b lv c i s.1 av pos all) (fun s => ((D.length : Int) - s.2).toNat)
    ⟨0, _, _, _, rfl, Nat.zero_le _, ⟨M2, fun e he => by simp at he, Nat.le_refl _, Vec.nil0, New.nil0, fun x ⟨a, ha, _⟩ => by cases ha⟩⟩ ?_
  rintro ⟨was, i⟩ h3 ⟨i, av, pos, all, rfl, hi, Bt⟩ k hk
  simp only at *
  have hal := Bt.l
  refine ite_i (fun hlt => ?_) fun _ => keeps_spec fun h' e => hQ h' (Bt.m.e.trans e)
  have hlt : i < D.length := by simpa using hlt
  have B3 := B.ext Bt.m.e
  have hd : D[i]? = some D[i] := List.getElem?_eq_getElem hlt
  obtain ⟨d, hdd⟩ : ∃ d, D[i] = d := ⟨_, rfl⟩
  rw [hdd] at hd
  -- a word of the act
  have word : ∀ {h' : H} (B' : Arr h' acts eD D) {K : Addr → HProp}, (∀ a, (∀ (j : Nat) (y : Value), d.cells[j]? = some y → h'.cell? (a.add j) = some y) → K a h') → indexW (i : Int) acts 11 K h' := fun {_} B' {_} hK =>
    B'.index (by omega) (by omega) fun a ha => hK a fun j y hy => B'.cell (E := eD) (i := i) (j := j) (x := d) (by simpa [eD] using ha) hd hy
  refine word B3 fun a ca => loadI_i (ca 0 _ rfl) (must_i (by decide) ?_)
  have ei : add .i64 (i : Int) 1 = ((i + 1 : Nat) : Int) := by rw [add_i64 (by omega) (by omega)]; omega
  simp only [ei]
  refine with_i (fun (w : Sl) h4 => ∃ (av' : Sl) (pos' : Int) (all' : List Ent) (W : List (Int × Int × Int)), Mid h h4 b lv c (i + 1) w av' pos' all' W) (fun kk hkk => ?_) ?_
  · refine with_i (fun (t : Bool) h4 => h3 = h4) (fun k5 hk5 => ite_i (fun _ => hk5 _ _ rfl) fun _ => hk5 _ _ rfl) ?_
    rintro t _ rfl
    refine ite_i (fun _ => ?_) fun _ => ite_i (fun _ => ?_) fun _ => ?_
    · -- asked for
      refine word B3 fun a2 ca2 => ?_
      have cc : ∀ (j : Nat) (y : Value), d.cells[2 + j]? = some y → h3.cell? ((a2.add 2).add j) = some y := fun j y hy => by
        rw [addadd]; exact ca2 _ _ hy
      refine loadI_i (cc 0 _ rfl) (loadI_i (cc 1 _ rfl) (loadI_i (cc 2 _ rfl) (loadI_i (cc 3 _ rfl) ?_)))
      refine ask_spec hn1 fun q1 q2 q3 q4 => ?_
      refine submit_spec Bt.m.t hvc hLc (by omega) (fun hne h4 e4 => ?_) fun heq m h4 av4 T4 F4 hu4 _ _ _ => ?_
      · refine with_u (ite_f (by simp [hne]) (with_u ?_))
        have hmid : Mid h h4 b lv c (i + 1) was av pos all (all.map tri) := Bt.next (by omega) (Bt.m.t.ext e4) e4.fr (Bt.g.mono (by omega)) (All2.reflT all).rel
        have hz : decide (subErr c all q1 q2 q3 q4 = 0) = false := decide_eq_false hne
        rw [hz]
        exact ite_i (fun _ => ite_i (fun hx => ite_f rfl (hkk _ _ ⟨_, _, _, _, hmid⟩)) fun _ => ite_f rfl (hkk _ _ ⟨_, _, _, _, hmid⟩)) fun _ => ite_i (fun hx => ite_f rfl (hkk _ _ ⟨_, _, _, _, hmid⟩)) fun _ => ite_f rfl (hkk _ _ ⟨_, _, _, _, hmid⟩)
      · have hok4 : okReq q1 q2 q3 c.n = true := by
          unfold subErr at heq
          split at heq
          · cases heq
          · rename_i hx; simpa using hx
        have M4 := Bt.m.grow T4 F4 hu4
        have hown : ∀ x, was.on x → ¬ own b av x := fun x hx ho => by
          have := Bt.ap x hx
          rcases ho with ho | ho
          · exact this.1 ho
          · exact this.2.1 ho
        have V4 := Bt.v.fr F4 hown
        have ap4 : ∀ x, was.on x → Apart b lv av4 c x := fun x hx => ⟨(Bt.ap x hx).1, fun ho => (hu4 x ho).elim (Bt.ap x hx).2.1 (fun h => by
          obtain ⟨o, ho⟩ := Bt.v.there hx
          rw [h] at ho; cases ho), (Bt.ap x hx).2.2⟩
        refine with_u (ite_t rfl ?_)
        refine V4.append_new M4.e Bt.nw (m := [(1, 0, 0)]) rfl rfl rfl (by simp; omega) fun w h5 V5 E5 N5 F5 hu5 => ?_
        have T5 : Tab h5 b lv av4 c pos (all ++ [newE q1 q2 q3 q4 m]) := T4.fr F5 (fun hx => (ap4 _ hx).1 rfl) (fun x hx hx2 => (ap4 x hx2).2.1 hx) (fun hl x hx hx2 => (ap4 x hx2).2.2 hl hx)
        have M5 : Mine h h5 b lv av4 c pos (all ++ [newE q1 q2 q3 q4 m]) := ⟨T5, E5, M4.nb, M4.na⟩
        have hwl : (w.len : Int) = (all.length : Int) + 1 := by rw [V5.len]; simp
        have ap5 : ∀ x, w.on x → Apart b lv av4 c x := fun x hx => by
          rcases hu5 x hx with h | h
          · exact ap4 x h
          · exact T4.apart h
        refine with_u ?_
        rw [hwl]
        refine ite_t (by simp) (ite_f (by simp <;> omega) (ite_f rfl ?_))
        refine hkk w h5 ⟨av4, pos, _, _, M5, fun e he => ?_, by simp; omega, V5, by simp, fun j wv e hw he => ?_, N5, ap5⟩
        · rcases List.mem_append.1 he with he | he
          · exact (Bt.g e he).mono (by omega)
          · rw [List.mem_singleton.1 he]
            exact ⟨⟨by show (1 : Int) ≤ 1; decide, by show (1 : Int) ≤ 5; decide⟩, ⟨fun h => absurd rfl h, fun h => by cases h⟩, hok4, ⟨Int.le_refl _, by show (0 : Int) ≤ _; omega⟩, fun h => (by cases h), fun h => (by cases h)⟩
        · by_cases hj : j < all.length
          · rw [List.getElem?_append_left (by simpa using hj), List.getElem?_map] at hw
            rw [List.getElem?_append_left hj] at he
            rw [he] at hw
            simp only [Option.map_some, Option.some.injEq] at hw
            subst hw
            exact relW_of (Bt.g e (List.mem_of_getElem? he)) (by omega) (Rel.refl e)
          · rw [List.getElem?_append_right (by simp; omega)] at hw
            rw [List.getElem?_append_right (by omega)] at he
            have hj0 : j - all.length = 0 := by
              have := (List.getElem?_eq_some_iff.1 he).1
              simp at this; omega
            rw [List.length_map, hj0] at hw
            rw [hj0] at he
            simp at hw he
            subst hw; subst he
            refine ⟨fun h2 => by simp at h2, by show (1 : Int) ≤ 1; decide, by show (0 : Int) ≤ 0; decide, by show (0 : Int) ≤ 0 + 1; decide, by decide, by decide⟩
    · -- taken back
      refine word B3 fun a2 ca2 => loadI_i (ca2 1 _ rfl) ?_
      refine cancel_spec Bt.m.t hn1 (by omega) fun h4 T4 F4 => ?_
      obtain ⟨g4, a4⟩ := cancel_good (id := d.n) Bt.g
      exact hkk _ _ ⟨_, _, _, _, Bt.next (by omega) T4 F4 g4 a4⟩
    · -- a step
      refine word B3 fun a2 ca2 => loadI_i (ca2 1 _ rfl) (word B3 fun a3 ca3 => loadI_i (ca3 1 _ rfl) (fault_spec fun fc => ?_))
      refine keeps1 (ca2 1 _ rfl) ?_
      refine step_spec Bt.m.t hn1 hck (by omega) fun h4 T4 F4 => ?_
      obtain ⟨g4, a4⟩ := step_good (c := c) (pos := pos) (pk := d.n) (fault := fc) Bt.g (by omega)
      exact hkk _ _ ⟨_, _, _, _, Bt.next (by omega) T4 F4 g4 a4⟩
  · rintro w h4 ⟨av', pos', all', W, Md⟩
    refine tableEnds_look Md (by omega) hvc hLc fun h5 B5 => ?_
    exact hk _ _ ⟨i + 1, av', pos', all', rfl, by omega, B5⟩ (by simp; omega)
end Go.Cz.S
