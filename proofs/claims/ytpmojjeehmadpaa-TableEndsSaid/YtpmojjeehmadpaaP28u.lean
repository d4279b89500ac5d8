/- Part of the proof of a law of 28: an engine that runs a function over an abstract heap, and what the functions compute; own work. -/
import Derived.Test.YtpmojjeehmadpaaP28t
set_option linter.unusedVariables false
set_option linter.unusedSimpArgs false
set_option linter.unusedSectionVars false
namespace Go.Cz.S
set_option maxRecDepth 100000
set_option maxHeartbeats 2000000
set_option linter.unusedSimpArgs false
set_option linter.unusedVariables false

def tri (e : Ent) : Int × Int × Int := (e.state, e.round, e.code)
theorem result_spec' {h : H} {b : Nat} {lv av : Sl} {c : Cfg} {pos : Int} {all : List Ent} (T : Tab h b lv av c pos all) (hv : Valid c.n c.L) (hL : c.L.length ≤ 4096) (hl : all.length ≤ 1000000) {i : Nat} {e : Ent} (he : all[i]? = some e) (hok : okReq e.kind e.arg e.prio c.n = true) (hst : 1 ≤ e.state ∧ e.state ≤ 5)
    {Q : Sl × Int → HProp} (hQ : ∀ x g h', Ext h h' → (e.state = 3 → g = 0 ∧ ((x : Sl).len : Int) = c.n) → (e.state < 3 → g = 271) → (3 < e.state → g = 272) → Q (x, g) h') :
    table_Table_Result (some (at0 b), ((i + 1 : Nat) : Int)) Q h :=
  result_spec T hv hL hl he hok (fun h3 x h4 hx e4 => hQ x 0 h4 e4 (fun _ => ⟨rfl, hx⟩) (fun h => by omega) (fun h => by omega))
    (fun h12 => hQ _ 271 h (Ext.refl _) (fun h => by omega) (fun _ => rfl) (fun h => by omega))
    (fun n1 n2 n3 => hQ _ 272 h (Ext.refl _) (fun h => absurd h n3) (fun h => by omega) (fun _ => rfl))
/-- what was told, and what is -/
def relW (w : Int × Int × Int) (e : Ent) : Prop := (2 < w.1 → tri e = w) ∧ w.1 ≤ e.state ∧ w.2.1 ≤ e.round ∧ e.round ≤ w.2.1 + 1 ∧ 0 ≤ w.2.1 ∧ w.2.1 ≤ 100000
theorem relW_of {e f : Ent} {n : Int} {r : Nat} (E : EOk n r e) (hr : r ≤ 100000) (h : Rel e f) : relW (tri e) f := by
  obtain ⟨a, b, c, d⟩ := h
  obtain ⟨x, y⟩ := E.rd
  refine ⟨fun h2 => ?_, b, c, d, x, by show e.round ≤ 100000; omega⟩
  obtain ⟨p, q, s⟩ := a h2
  show (f.state, f.round, f.code) = (e.state, e.round, e.code)
  rw [p, q, s]
/-- behind an act, ahead of the look -/
structure Mid (h0 h : H) (b : Nat) (lv : Sl) (c : Cfg) (i : Nat) (was : Sl) (av : Sl) (pos : Int) (all : List Ent) (W : List (Int × Int × Int)) : Prop where
  m : Mine h0 h b lv av c pos all
  g : GoodL c.n i all
  l : all.length ≤ i
  v : Vec h was eT W
  len : W.length = all.length
  rl : ∀ (j : Nat) w e, W[j]? = some w → all[j]? = some e → relW w e
  nw : New h0 was
  ap : ∀ x, was.on x → Apart b lv av c x
/-- between two acts -/
structure Bet (h0 h : H) (b : Nat) (lv : Sl) (c : Cfg) (i : Nat) (was : Sl) (av : Sl) (pos : Int) (all : List Ent) : Prop where
  m : Mine h0 h b lv av c pos all
  g : GoodL c.n i all
  l : all.length ≤ i
  v : Vec h was eT (all.map tri)
  nw : New h0 was
  ap : ∀ x, was.on x → Apart b lv av c x
theorem Bet.next {h0 h h' : H} {b : Nat} {lv : Sl} {c : Cfg} {i : Nat} {was av : Sl} {pos pos' : Int} {all all' : List Ent} (B : Bet h0 h b lv c i was av pos all) (hi : i ≤ 1000) (T : Tab h' b lv av c pos' all') (F : Fr (own b av) h h') (G : GoodL c.n (i + 1) all') (A : All2 Rel all all') :
    Mid h0 h' b lv c (i + 1) was av pos' all' (all.map tri) := by
  refine ⟨B.m.next T F, G, by have := B.l; have := A.1; omega, B.v.fr F fun x hx ho => ?_, by rw [List.length_map]; exact A.1, fun j w e hw he => ?_, B.nw, B.ap⟩
  · have := B.ap x hx
    rcases ho with ho | ho
    · exact this.1 ho
    · exact this.2.1 ho
  · rw [List.getElem?_map] at hw
    cases hq : all[j]? with
    | none => rw [hq] at hw; cases hw
    | some e0 =>
      rw [hq] at hw
      simp only [Option.map_some, Option.some.injEq] at hw
      subst hw
      exact relW_of (B.g e0 (List.mem_of_getElem? hq)) (by omega) (A.2 j e0 e hq he)
theorem tableEnds_look {h0 h : H} {b : Nat} {lv : Sl} {c : Cfg} {i : Nat} {was av : Sl} {pos : Int} {all : List Ent} {W : List (Int × Int × Int)} (D : Mid h0 h b lv c i was av pos all W) (hi : i ≤ 1000) (hv : Valid c.n c.L) (hL : c.L.length ≤ 4096) {Q : Bool → HProp} {k : HProp}
    (hk : ∀ h', Bet h0 h' b lv c i was av pos all → k h') :
    loopW 0 (fun (s_1 : Int) (k_1 : Int → HProp) =>
                                  iteW (decide (s_1 < (was.len : Int)))
                                    (table_Table_Poll (some (at0 b), add IntKind.i64 s_1 1)
                                      fun (r_3 : Int × Int × Int × Int) =>
                                      table_Table_Result (some (at0 b), add IntKind.i64 s_1 1) fun (r_4 : Sl × Int) =>
                                        withK
                                          (fun (t_2 : Bool) =>
                                            iteW t_2 (Q false)
                                              (withK
                                                (fun (t_3 : Bool) =>
                                                  iteW t_3 (Q false)
                                                    (indexW s_1 was 3 fun (a : Addr) =>
                                                      storesW a
                                                        [Value.int IntKind.i64 r_3.fst,
                                                          Value.int IntKind.i64 r_3.snd.fst,
                                                          Value.int IntKind.i64 r_3.snd.snd.fst]
                                                        (k_1 (add IntKind.i64 s_1 1))))
                                                fun (k : Bool → HProp) =>
                                                iteW (decide (r_3.fst = 3))
                                                  (iteW (!decide (r_4.snd = 0)) (k true)
                                                    (iteW (!decide ((r_4.fst.len : Int) = c.n)) (k true)
                                                      (iteW (decide (r_3.fst < 3))
                                                        (iteW (!decide (r_4.snd = 271)) (k true)
                                                          (iteW (decide (3 < r_3.fst))
                                                            (iteW (!decide (r_4.snd = 272)) (k true)
                                                              (k (!(!decide (r_3.snd.snd.fst = 0)) == decide (r_3.fst = 5))))
                                                            (k (!(!decide (r_3.snd.snd.fst = 0)) == decide (r_3.fst = 5)))))
                                                        (iteW (decide (3 < r_3.fst))
                                                          (iteW (!decide (r_4.snd = 272)) (k true)
                                                            (k (!(!decide (r_3.snd.snd.fst = 0)) == decide (r_3.fst = 5))))
                                                          (k (!(!decide (r_3.snd.snd.fst = 0)) == decide (r_3.fst = 5)))))))
                                                  (iteW (decide (r_3.fst < 3))
                                                    (iteW (!decide (r_4.snd = 271)) (k true)
                                                      (iteW (decide (3 < r_3.fst))
                                                        (iteW (!decide (r_4.snd = 272)) (k true)
                                                          (k (!(!decide (r_3.snd.snd.fst = 0)) == decide (r_3.fst = 5))))
                                                        (k (!(!decide (r_3.snd.snd.fst = 0)) == decide (r_3.fst = 5)))))
                                                    (iteW (decide (3 < r_3.fst))
                                                      (iteW (!decide (r_4.snd = 272)) (k true)
                                                        (k (!(!decide (r_3.snd.snd.fst = 0)) == decide (r_3.fst = 5))))
                                                      (k (!(!decide (r_3.snd.snd.fst = 0)) == decide (r_3.fst = 5)))))))
                                          fun (k : Bool → HProp) =>
                                          iteW (!decide (r_3.snd.snd.snd = 0)) (k true)
                                            (indexW s_1 was 3 fun (a : Addr) =>
                                              loadI IntKind.i64 (a.add 0) fun (x : Int) =>
                                                iteW (decide (2 < x))
                                                  (indexW s_1 was 3 fun (a : Addr) =>
                                                    loadI IntKind.i64 (a.add 0) fun (x : Int) =>
                                                      loadI IntKind.i64 (a.add 1) fun (x_1 : Int) =>
                                                        loadI IntKind.i64 (a.add 2) fun (x_2 : Int) =>
                                                          iteW
                                                            (!eqPairs
                                                                [(r_3.fst, x), (r_3.snd.fst, x_1),
                                                                  (r_3.snd.snd.fst, x_2)])
                                                            (k true)
                                                            (indexW s_1 was 3 fun (a : Addr) =>
                                                              loadI IntKind.i64 (a.add 0) fun (x : Int) =>
                                                                iteW (decide (r_3.fst < x)) (k true)
                                                                  (indexW s_1 was 3 fun (a : Addr) =>
                                                                    loadI IntKind.i64 (a.add 1) fun (x : Int) =>
                                                                      iteW (decide (r_3.snd.fst < x)) (k true)
                                                                        (indexW s_1 was 3 fun (a : Addr) =>
                                                                          loadI IntKind.i64 (a.add 1) fun (x : Int) =>
                                                                            k
                                                                              (decide (add IntKind.i64 x 1 <
                                                                                r_3.snd.fst))))))
                                                  (indexW s_1 was 3 fun (a : Addr) =>
                                                    loadI IntKind.i64 (a.add 0) fun (x : Int) =>
                                                      iteW (decide (r_3.fst < x)) (k true)
                                                        (indexW s_1 was 3 fun (a : Addr) =>
                                                          loadI IntKind.i64 (a.add 1) fun (x : Int) =>
                                                            iteW (decide (r_3.snd.fst < x)) (k true)
                                                              (indexW s_1 was 3 fun (a : Addr) =>
                                                                loadI IntKind.i64 (a.add 1) fun (x : Int) =>
                                                                  k (decide (add IntKind.i64 x 1 < r_3.snd.fst))))))
                                    ) k) h := by
  have hlen := D.len
  have hal := D.l
  have hcn := hv.n.1
  rw [D.v.len, hlen]
  refine loop_i (fun (s : Int) h' => ∃ (j : Nat) (C : List (Int × Int × Int)), s = j ∧ j ≤ all.length ∧ Mine h0 h' b lv av c pos all ∧ Vec h' was eT C ∧ C.length = all.length ∧ (∀ q, q < j → C[q]? = (all[q]?).map tri) ∧ (∀ q, j ≤ q → C[q]? = W[q]?)) (fun s => ((all.length : Int) - s).toNat)
    ⟨0, W, rfl, Nat.zero_le _, D.m, D.v, hlen, fun q hq => by omega, fun q _ => rfl⟩ ?_
  rintro s h' ⟨j, C, rfl, hj, M, V, hC, hlo, hhi⟩ k1 hk1
  refine ite_i (fun hlt => ?_) fun hge => ?_
  · have hlt : j < all.length := by simpa using hlt
    have he : all[j]? = some all[j] := List.getElem?_eq_getElem hlt
    obtain ⟨e, hee⟩ : ∃ e, all[j] = e := ⟨_, rfl⟩
    rw [hee] at he
    have E := D.g e (List.mem_of_getElem? he)
    have ej : add .i64 (j : Int) 1 = ((j + 1 : Nat) : Int) := by rw [add_i64 (by omega) (by omega)]; omega
    simp only [ej]
    refine poll_spec M.t hcn (by omega) ?_
    have hpf : pollF all ((j + 1 : Nat) : Int) = (e.state, e.round, e.code, 0) := by unfold pollF; rw [getE_yes he]
    rw [hpf]
    have hjC : j < C.length := by omega
    have hjW : j < W.length := by omega
    have hCW : C[j] = W[j] := by
      have := hhi j (Nat.le_refl _)
      rw [List.getElem?_eq_getElem hjC, List.getElem?_eq_getElem hjW] at this
      exact Option.some.inj this
    obtain ⟨w, hw⟩ : ∃ w, W[j] = w := ⟨_, rfl⟩
    have hCw : C[j] = w := hCW.trans hw
    obtain ⟨r1, r2, r3, r4, r5, r6⟩ := D.rl j w e (by rw [List.getElem?_eq_getElem hjW, hw]) he
    obtain ⟨s0, s5⟩ := E.st
    have hcd := E.cd
    refine result_spec' M.t hv hL (by omega) he E.ok E.st fun x g h3 E3 g1 g2 g3 => ?_
    · have V3 := V.ext E3
      have M3 := M.ext E3
      have A3 := V3.arr
      refine with_i (fun (t : Bool) h4 => t = false ∧ h3 = h4) (fun kk hkk => ?_) ?_
      · refine ite_f rfl (A3.w0 hjC ?_)
        rw [hCw]
        have rest : indexW (j : Int) was 3 (fun (a : Addr) => loadI IntKind.i64 (a.add 0) fun (x : Int) => iteW (decide (e.state < x)) (kk true) (indexW (j : Int) was 3 fun (a : Addr) => loadI IntKind.i64 (a.add 1) fun (x : Int) => iteW (decide (e.round < x)) (kk true) (indexW (j : Int) was 3 fun (a : Addr) => loadI IntKind.i64 (a.add 1) fun (x : Int) => kk (decide (add IntKind.i64 x 1 < e.round))))) h3 := by
          refine A3.w0 hjC ?_
          rw [hCw]
          refine ite_f (by simp; omega) (A3.w1 hjC ?_)
          rw [hCw]
          refine ite_f (by simp; omega) (A3.w1 hjC ?_)
          rw [hCw, add_i64 (by omega) (by omega)]
          exact hkk _ _ ⟨by simp; omega, rfl⟩
        refine ite_i (fun h2 => A3.w3 hjC ?_) fun h2 => rest
        rw [hCw]
        have ht := r1 (by simpa using h2)
        refine ite_f ?_ rest
        rw [← ht]
        rw [keq (by simp [tri])]; rfl
      · rintro _ _ ⟨rfl, rfl⟩
        refine ite_f rfl (with_i (fun (t : Bool) h4 => t = false ∧ h3 = h4) (fun kk hkk => ?_) ?_)
        · have hfin : (!(!decide (e.code = 0)) == decide (e.state = 5)) = false := by
            by_cases h5 : e.state = 5
            · have := hcd.2 h5
              simp [h5, this]
            · have : e.code = 0 := by
                by_cases hz : e.code = 0
                · exact hz
                · exact absurd (hcd.1 hz) h5
              simp [h5, this]
          have fin : kk (!(!decide (e.code = 0)) == decide (e.state = 5)) h3 := by rw [hfin]; exact hkk _ _ ⟨rfl, rfl⟩
          by_cases h1 : e.state = 3
          · obtain ⟨ga, gb⟩ := g1 h1
            refine ite_t (by simp [h1]) (ite_f (by simp [ga]) (ite_f (by simp [gb]) (ite_f (by simp [h1]) (ite_f (by simp [h1]) fin))))
          · by_cases h2 : e.state < 3
            · have ga := g2 h2
              exact ite_f (by simp [h1]) (ite_t (by simp [h2]) (ite_f (by simp [ga]) (ite_f (by simp; omega) fin)))
            · have h4 : 3 < e.state := by omega
              have ga := g3 h4
              exact ite_f (by simp [h1]) (ite_f (by simp; omega) (ite_t (by simp [h4]) (ite_f (by simp [ga]) fin)))
        · rintro _ _ ⟨rfl, rfl⟩
          refine ite_f rfl (V3.arr.index (by omega) (by omega) fun a ha => ?_)
          refine V3.stores (E := eT) (i := j) (x := tri e) (by simpa [eT] using ha) hjC rfl fun h5 V5 F5 => ?_
          have hap := D.ap
          have T5 : Tab h5 b lv av c pos all := M3.t.fr F5 (fun hx => (hap _ hx).1 rfl) (fun x hx hx2 => (hap x hx2).2.1 hx) (fun hl x hx hx2 => (hap x hx2).2.2 hl hx)
          have M5 : Mine h0 h5 b lv av c pos all := ⟨T5, M3.e.of_new F5 D.nw, M3.nb, M3.na⟩
          refine hk1 ((j + 1 : Nat) : Int) _ ⟨j + 1, _, rfl, by omega, M5, V5, by simp [hC], fun q hq => ?_, fun q hq => ?_⟩ (by omega)
          · by_cases hqj : j = q
            · subst hqj
              rw [List.getElem?_set_self hjC, he]; rfl
            · rw [List.getElem?_set_ne hqj]
              exact hlo q (by omega)
          · rw [List.getElem?_set_ne (by omega)]
            exact hhi q (by omega)
  · have hjl : j = all.length := by have : ¬ (j < all.length) := (by simpa using hge); omega
    subst hjl
    have hCt : C = all.map tri := by
      apply List.ext_getElem?
      intro q
      by_cases hq : q < all.length
      · rw [hlo q hq, List.getElem?_map]
      · rw [List.getElem?_eq_none (by omega), List.getElem?_eq_none (by simp; omega)]
    rw [hCt] at V
    exact hk h' ⟨M, D.g, D.l, V, D.nw, D.ap⟩
end Go.Cz.S
