/- Part of the proof of a law of 28: an engine that runs a function over an abstract heap, and what the functions compute; own work. -/
import Derived.Test.YtpmojjeehmadpaaP28d
set_option linter.unusedVariables false
set_option linter.unusedSimpArgs false
set_option linter.unusedSectionVars false
namespace Go.Cz
set_option maxRecDepth 100000
set_option maxHeartbeats 1000000
set_option linter.unusedSimpArgs false
set_option linter.unusedVariables false

def slV (s : Sl) : Value := .slice s.a s.len s.cap
theorem slV_all : ∀ svs : List Sl, svs.map slV = eL.all svs
  | [] => rfl
  | s :: r => by
    have := slV_all r
    simp only [List.map_cons, this]
    rfl
theorem not_inR {n : Nat} {s : Sl} {cs : List Value} (h : slV s ∈ cs) : ¬ InR n cs := fun hr => by obtain ⟨x, hx, _⟩ := hr _ h; cases hx
/-- a table of rows -/
structure Tb (h0 : H) (n : Nat) (h : H) (b : Nat) (cnt : Nat) (svs : List Sl) : Prop where
  new : h0 b = none
  at_ : h b = some (.cells (svs.map slV) true)
  len : svs.length = n
  row : ∀ s ∈ svs, Rw h0 n h s ∧ s.len ≤ cnt
structure Gr (h0 : H) (n : Nat) (h : H) (bg b1 b2 : Nat) (cnt : Nat) : Prop where
  n1 : 1 ≤ n
  og : h bg = some (.cells [.int .i64 n, .slice (some ⟨b1, 0, none⟩) n n, .slice (some ⟨b2, 0, none⟩) n n] true)
  newg : h0 bg = none
  ne : b1 ≠ b2
  t1 : ∃ svs, Tb h0 n h b1 cnt svs
  t2 : ∃ svs, Tb h0 n h b2 cnt svs
  ext : Ext h0 h
theorem Tb.keep {h0 h h' : H} {n b cnt : Nat} {svs : List Sl} (T : Tb h0 n h b cnt svs) (h1 : 1 ≤ n) (k : Keep h0 n h h') : Tb h0 n h' b cnt svs := by
  refine ⟨T.new, k.2.1 _ _ _ T.at_ ?_, T.len, fun s hs => ⟨k.1 _ (T.row s hs).1, (T.row s hs).2⟩⟩
  obtain ⟨s, hs⟩ : ∃ s, s ∈ svs := List.exists_mem_of_length_pos (by rw [T.len]; exact h1)
  exact not_inR (s := s) (List.mem_map_of_mem hs)
theorem Tb.mono {h0 h : H} {n b cnt cnt' : Nat} {svs : List Sl} (T : Tb h0 n h b cnt svs) (hc : cnt ≤ cnt') : Tb h0 n h b cnt' svs :=
  ⟨T.new, T.at_, T.len, fun s hs => ⟨(T.row s hs).1, Nat.le_trans (T.row s hs).2 hc⟩⟩
theorem Rw.set {h0 h : H} {n b : Nat} {t : Sl} {cs cs' : List Value} (R : Rw h0 n h t) (hb : h b = some (.cells cs true)) (hn : ¬ InR n cs) : Rw h0 n (h.set b (.cells cs' true)) t := by
  obtain ⟨t1, t2⟩ := R
  refine ⟨t1, ?_⟩
  rcases t2 with t2 | ⟨b', cs2, ta, tb0, tb, tc, tr⟩
  · exact .inl t2
  · have e : b' ≠ b := fun e => by subst e; rw [hb] at tb; cases tb; exact hn tr
    exact .inr ⟨b', cs2, ta, tb0, by simp [H.set, e, tb], tc, tr⟩
/-- which of the two tables -/
def pick (f b1 b2 : Nat) : Nat := if f = 1 then b1 else b2
theorem Gr.ld {h0 h : H} {n bg b1 b2 cnt f : Nat} (G : Gr h0 n h bg b1 b2 cnt) (hf : f = 1 ∨ f = 2) {K : Sl → HProp} (hK : K ⟨some ⟨pick f b1 b2, 0, none⟩, n, n⟩ h) : loadL ((at0 bg).add f) K h := by
  refine loadL_i (v := ⟨some ⟨pick f b1 b2, 0, none⟩, n, n⟩) ?_ hK
  refine Obj.ld (cs := _) G.og ?_
  rcases hf with rfl | rfl <;> rfl
theorem Gr.cell {h0 h : H} {n bg b1 b2 cnt f : Nat} (G : Gr h0 n h bg b1 b2 cnt) (hf : f = 1 ∨ f = 2) : h.cell? ((at0 bg).add f) = some (.slice (some ⟨pick f b1 b2, 0, none⟩) n n) := by
  refine Obj.ld (cs := _) G.og ?_
  rcases hf with rfl | rfl <;> rfl
theorem Gr.add {h0 h : H} {n bg b1 b2 cnt f : Nat} (G : Gr h0 n h bg b1 b2 cnt) (hf : f = 1 ∨ f = 2) {i : Nat} (hi : i < n) {y : Int} (y0 : 0 ≤ y) (y1 : y < n) (hc : cnt ≤ 100000) {C : HProp}
    (hC : ∀ h', Gr h0 n h' bg b1 b2 (cnt + 1) → C h') :
    derefW (some (at0 bg)) (fun (a : Addr) => loadL (a.add f) fun (x_2 : Sl) => derefW (some (at0 bg)) fun (a_1 : Addr) => loadL (a_1.add f) fun (x_3 : Sl) => indexW (i : Int) x_3 1 fun (a_2 : Addr) => loadL a_2 fun (x_4 : Sl) =>
      keepsW (a.add f) (Rec.mk 1 (Pl.heap (a.add f)) [Value.slice x_2.a x_2.len x_2.cap]).vs
        (keepsW (a_1.add f) (Rec.mk 5 (Pl.heap (a_1.add f)) [Value.slice x_3.a x_3.len x_3.cap]).vs
          (keepsW a_2 (Rec.mk 9 (Pl.heap a_2) [Value.slice x_4.a x_4.len x_4.cap]).vs
            (appendW x_4 [Value.int IntKind.i64 0] 8 1 [Value.int IntKind.i64 y] fun (u : Sl) =>
              keepsW (a.add f) (Rec.mk 1 (Pl.heap (a.add f)) [Value.slice x_2.a x_2.len x_2.cap]).vs
                (indexW (i : Int) x_2 1 fun (a : Addr) => storeW a (Value.slice u.a u.len u.cap) C))))) h := by
  refine deref_i (G.ld hf (deref_i (G.ld hf ?_)))
  obtain ⟨svs, T⟩ : ∃ svs, Tb h0 n h (pick f b1 b2) cnt svs := by
    rcases hf with rfl | rfl
    · exact G.t1
    · exact G.t2
  have hi' : i < svs.length := by rw [T.len]; exact hi
  refine index_i (by omega) (by simpa using hi) (by simp) fun a2 ha2 => ?_
  obtain ⟨q, hq, rfl⟩ := ha2
  cases hq
  have hcell : h.cell? ((at0 (pick f b1 b2)).add i) = some (slV svs[i]) := by
    refine Obj.ld (cs := _) T.at_ ?_
    simp [hi']
  simp only [Int.toNat_natCast, Nat.mul_one]
  obtain ⟨R, hcl⟩ := T.row _ (List.getElem_mem hi')
  refine loadL_i (v := svs[i]) hcell ?_
  refine keeps1 (G.cell hf) (keeps1 (G.cell hf) (keeps1 hcell ?_))
  refine Rw.append G.n1 R G.ext y0 y1 (by omega) fun u h1 Ru hul kp => ?_
  have og1 := kp.2.1 _ _ _ G.og (not_inR (s := ⟨some ⟨b1, 0, none⟩, n, n⟩) (by simp [slV]))
  have ext1 : Ext h0 h1 := fun b o hb _ => kp.2.2 b o (G.ext b o hb (fun h => h)) (by rw [hb]; simp)
  have G1 : Gr h0 n h1 bg b1 b2 cnt := ⟨G.n1, og1, G.newg, G.ne, by obtain ⟨q, hq⟩ := G.t1; exact ⟨q, hq.keep G.n1 kp⟩, by obtain ⟨q, hq⟩ := G.t2; exact ⟨q, hq.keep G.n1 kp⟩, ext1⟩
  have T1 := T.keep G.n1 kp
  refine keeps1 (G1.cell hf) ?_
  refine index_i (by omega) (by simpa using hi) (by simp) fun a3 ha3 => ?_
  obtain ⟨q, hq, rfl⟩ := ha3
  cases hq
  simp only [Int.toNat_natCast, Nat.mul_one]
  refine Obj.st (cs := svs.map slV) T1.at_ (by simp [hi']) fun h2 O2 F2 => hC h2 ?_
  have hnot : ¬ InR n (svs.map slV) := not_inR (s := svs[i]) (List.mem_map_of_mem (List.getElem_mem hi'))
  have hrw : ∀ t, Rw h0 n h1 t → Rw h0 n h2 t := by
    rintro t ⟨t1, t2⟩
    refine ⟨t1, ?_⟩
    rcases t2 with t2 | ⟨b', cs2, ta, tb0, tb, tc, tr⟩
    · exact .inl t2
    · have e : b' ≠ pick f b1 b2 := fun e => by subst e; rw [T1.at_] at tb; cases tb; exact hnot tr
      exact .inr ⟨b', cs2, ta, tb0, F2 _ _ tb e, tc, tr⟩
  have hset : (svs.map slV).set i (.slice u.a u.len u.cap) = (svs.set i u).map slV := by rw [List.map_set]; rfl
  have T2 : Tb h0 n h2 (pick f b1 b2) (cnt + 1) (svs.set i u) := by
    refine ⟨T1.new, by rw [← hset]; exact O2, by rw [List.length_set]; exact T1.len, fun s hs => ?_⟩
    rcases List.mem_or_eq_of_mem_set hs with hs | rfl
    · exact ⟨hrw _ (T1.row s hs).1, by have := (T1.row s hs).2; omega⟩
    · exact ⟨hrw _ Ru, by omega⟩
  have hoth : ∀ b svs', b ≠ pick f b1 b2 → Tb h0 n h1 b cnt svs' → Tb h0 n h2 b (cnt + 1) svs' := fun b svs' hne T' =>
    ⟨T'.new, F2 _ _ T'.at_ hne, T'.len, fun s hs => ⟨hrw _ (T'.row s hs).1, by have := (T'.row s hs).2; omega⟩⟩
  have hg : bg ≠ pick f b1 b2 := fun e => by
    have h3 := G1.og
    rw [e, T1.at_] at h3
    have h4 : svs.map slV = [.int .i64 n, .slice (some ⟨b1, 0, none⟩) n n, .slice (some ⟨b2, 0, none⟩) n n] := by simpa using h3
    cases svs with
    | nil => simp at h4
    | cons s r => simp [slV] at h4
  refine ⟨G.n1, F2 _ _ og1 hg, G.newg, G.ne, ?_, ?_, ext1.of_new F2 (fun b hb => by rw [hb]; exact T1.new)⟩
  · rcases hf with rfl | rfl
    · exact ⟨_, T2⟩
    · obtain ⟨q, hq⟩ := G1.t1; exact ⟨q, hoth _ _ G.ne hq⟩
  · rcases hf with rfl | rfl
    · obtain ⟨q, hq⟩ := G1.t2; exact ⟨q, hoth _ _ (fun e => G.ne e.symm) hq⟩
    · exact ⟨_, T2⟩
/-- what is made at first -/
theorem Gr.start {h0 h : H} {n bg b1 b2 : Nat} {K : HProp} (h1 : 1 ≤ n) (E : Ext h0 h) (og : Obj h bg [.int .i64 0, .slice none 0 0, .slice none 0 0]) (o1 : Obj h b1 (List.replicate n (.slice none 0 0))) (o2 : Obj h b2 (List.replicate n (.slice none 0 0)))
    (ng : h0 bg = none) (n1 : h0 b1 = none) (n2 : h0 b2 = none) (ne : b1 ≠ b2) (hK : ∀ h', Gr h0 n h' bg b1 b2 0 → K h') :
    storesW (Addr.mk bg 0 none) [.int .i64 n, .slice (some ⟨b1, 0, none⟩) n n, .slice (some ⟨b2, 0, none⟩) n n] K h := by
  unfold storesW
  unfold Obj at og o1 o2
  simp only [og]
  refine ⟨trivial, by simp, hK _ ?_⟩
  have hne : ∀ b, h b = some (.cells (List.replicate n (.slice none 0 0)) true) → b ≠ bg := fun b hb e => by
    subst e; rw [og] at hb
    obtain ⟨m, rfl⟩ : ∃ m, n = m + 1 := ⟨n - 1, by omega⟩
    simp [List.replicate_succ] at hb
  have tb : ∀ b, h0 b = none → h b = some (.cells (List.replicate n (.slice none 0 0)) true) → ∃ svs, Tb h0 n (h.set bg (.cells ([Value.int IntKind.i64 0, Value.slice none 0 0, Value.slice none 0 0].take 0 ++ [Value.int IntKind.i64 n, Value.slice (some ⟨b1, 0, none⟩) n n, Value.slice (some ⟨b2, 0, none⟩) n n] ++ [Value.int IntKind.i64 0, Value.slice none 0 0, Value.slice none 0 0].drop (0 + [Value.int IntKind.i64 n, Value.slice (some ⟨b1, 0, none⟩) n n, Value.slice (some ⟨b2, 0, none⟩) n n].length)) true)) b 0 svs := fun b hb0 hb => by
    refine ⟨List.replicate n ⟨none, 0, 0⟩, hb0, ?_, by simp, fun s hs => ?_⟩
    · simp only [H.set, if_neg (hne b hb), List.map_replicate]
      exact hb
    · rw [(List.mem_replicate.1 hs).2]
      exact ⟨⟨Nat.le_refl _, .inl ⟨rfl, rfl⟩⟩, Nat.le_refl _⟩
  exact ⟨h1, set_same .., ng, ne, tb _ n1 o1, tb _ n2 o2, E.of_new Fr.set (fun b hb => by rw [hb]; exact ng)⟩
theorem Gr.rows {h0 h : H} {n bg b1 b2 cnt f : Nat} (G : Gr h0 n h bg b1 b2 cnt) (hf : f = 1 ∨ f = 2) (hc : cnt ≤ 20000) : Rows n h ⟨some ⟨pick f b1 b2, 0, none⟩, n, n⟩ := by
  obtain ⟨svs, T⟩ : ∃ svs, Tb h0 n h (pick f b1 b2) cnt svs := by
    rcases hf with rfl | rfl
    · exact G.t1
    · exact G.t2
  refine ⟨svs, ⟨by rw [T.len], Nat.le_refl _, (fun e => by cases e), fun a ha _ => ?_⟩, T.len, fun s hs => ?_⟩
  · cases ha
    refine ⟨rfl, _, _, T.at_, by simp [eL], ?_⟩
    rw [List.drop_zero, List.take_of_length_le (by simp [eL])]
    exact slV_all svs
  · obtain ⟨R, hl⟩ := T.row s hs
    obtain ⟨l, A, h1, h2⟩ := R.arr
    exact ⟨l, A, by omega, h2⟩
end Go.Cz
