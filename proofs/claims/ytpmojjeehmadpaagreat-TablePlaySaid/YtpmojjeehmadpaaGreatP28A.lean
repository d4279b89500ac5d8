/- Part of the proof of a law of 28: an engine that runs a function over an abstract heap, and what the functions compute; own work. -/
import Derived.Test.YtpmojjeehmadpaaGreatP28
set_option linter.unusedVariables false
set_option linter.unusedSimpArgs false
set_option linter.unusedSectionVars false
namespace Go.Cz
set_option maxRecDepth 100000
set_option maxHeartbeats 1000000
set_option linter.unusedSimpArgs false
set_option linter.unusedVariables false

/-! ## a graph's rows, exactly -/
def RowsF (n : Nat) (h : H) (v : Sl) (f : Nat → List Int) : Prop :=
  ∃ svs : List Sl, Arr h v eL svs ∧ svs.length = n ∧ ∀ (i : Nat) (hi : i < svs.length), Arr h svs[i] (eI .i64) (f i)
theorem RowsF.ext {n : Nat} {h h' : H} {v : Sl} {f : Nat → List Int} (R : RowsF n h v f) (e : Ext h h') : RowsF n h' v f := by
  obtain ⟨svs, A, hn, hs⟩ := R
  exact ⟨svs, A.ext e, hn, fun i hi => (hs i hi).ext e⟩
theorem RowsF.len {n : Nat} {h : H} {v : Sl} {f : Nat → List Int} (R : RowsF n h v f) : v.len = n := by obtain ⟨svs, A, hn, _⟩ := R; rw [A.len, hn]
theorem RowsF.row {n : Nat} {h0 h : H} {v : Sl} {f : Nat → List Int} (R : RowsF n h0 v f) (e : Ext h0 h) {i : Nat} (hi : i < n) {K : Sl → HProp} (hK : ∀ x, Arr h0 x (eI .i64) (f i) → K x h) : indexW (i : Int) v 1 (fun a => loadL a K) h := by
  obtain ⟨svs, A, hn, hs⟩ := R
  refine (A.ext e).index (by omega) (by omega) fun a ha => ?_
  have hi' : i < svs.length := by omega
  have hc := (A.ext e).cell (E := eL) (i := i) (j := 0) (a := a) (x := svs[i]) (by simpa [eL] using ha) (List.getElem?_eq_getElem hi') rfl
  rw [add0] at hc
  exact loadL_i hc (hK _ (hs i hi'))
def upd2 {α : Type} (g : Bool → Nat → α) (t : Bool) (i : Nat) (v : α) : Bool → Nat → α := fun t' i' => if t' = t ∧ i' = i then v else g t' i'
theorem upd2_same {α : Type} (g : Bool → Nat → α) (t : Bool) (i : Nat) (v : α) : upd2 g t i v t i = v := if_pos ⟨rfl, rfl⟩
theorem upd2_ne {α : Type} (g : Bool → Nat → α) {t t' : Bool} {i i' : Nat} (v : α) (h : ¬ (t' = t ∧ i' = i)) : upd2 g t i v t' i' = g t' i' := if_neg h
structure GF (h0 : H) (n : Nat) (h : H) (bg : Nat) (bt : Bool → Nat) (sv : Bool → Nat → Sl) (f : Bool → Nat → List Int) (cnt : Nat) : Prop where
  n1 : 1 ≤ n
  og : h bg = some (.cells [.int .i64 n, .slice (some ⟨bt false, 0, none⟩) n n, .slice (some ⟨bt true, 0, none⟩) n n] true)
  newg : h0 bg = none
  ne : bt false ≠ bt true
  neg : ∀ t, bt t ≠ bg
  tab : ∀ t, h (bt t) = some (.cells ((List.range n).map fun i => slV (sv t i)) true)
  newt : ∀ t, h0 (bt t) = none
  row : ∀ t i, i < n → Vec h (sv t i) (eI .i64) (f t i)
  fresh : ∀ t i, i < n → ∀ x, (sv t i).on x → h0 x = none ∧ x ≠ bg ∧ ∀ t', x ≠ bt t'
  dis : ∀ t i t' i', i < n → i' < n → ¬ (t' = t ∧ i' = i) → ∀ x, (sv t i).on x → ¬ (sv t' i').on x
  ext : Ext h0 h
  len : ∀ t i, i < n → (f t i).length ≤ cnt
def fld (t : Bool) : Nat := if t then 2 else 1
theorem GF.cell {h0 h : H} {n bg cnt : Nat} {bt : Bool → Nat} {sv : Bool → Nat → Sl} {f : Bool → Nat → List Int} (G : GF h0 n h bg bt sv f cnt) (t : Bool) : h.cell? ((at0 bg).add (fld t)) = some (.slice (some ⟨bt t, 0, none⟩) n n) := by
  refine Obj.ld (cs := _) G.og ?_
  cases t <;> rfl
theorem GF.ld {h0 h : H} {n bg cnt : Nat} {bt : Bool → Nat} {sv : Bool → Nat → Sl} {f : Bool → Nat → List Int} (G : GF h0 n h bg bt sv f cnt) (t : Bool) {K : Sl → HProp} (hK : K ⟨some ⟨bt t, 0, none⟩, n, n⟩ h) : loadL ((at0 bg).add (fld t)) K h :=
  loadL_i (v := ⟨some ⟨bt t, 0, none⟩, n, n⟩) (G.cell t) hK
theorem bt_ne {bt : Bool → Nat} (ne : bt false ≠ bt true) {t t' : Bool} (h : t' ≠ t) : bt t' ≠ bt t := by
  cases t <;> cases t' <;> first | exact absurd rfl h | exact ne | exact ne.symm
theorem GF.add {h0 h : H} {n bg cnt : Nat} {bt : Bool → Nat} {sv : Bool → Nat → Sl} {f : Bool → Nat → List Int} (G : GF h0 n h bg bt sv f cnt) (t : Bool) {i : Nat} (hi : i < n) {y : Int} (hc : cnt ≤ 100000) {C : HProp}
    (hC : ∀ h' sv', GF h0 n h' bg bt sv' (upd2 f t i (f t i ++ [y])) (cnt + 1) → C h') :
    derefW (some (at0 bg)) (fun (a : Addr) => loadL (a.add (fld t)) fun (x_2 : Sl) => derefW (some (at0 bg)) fun (a_1 : Addr) => loadL (a_1.add (fld t)) fun (x_3 : Sl) => indexW (i : Int) x_3 1 fun (a_2 : Addr) => loadL a_2 fun (x_4 : Sl) =>
      keepsW (a.add (fld t)) (Rec.mk 1 (Pl.heap (a.add (fld t))) [Value.slice x_2.a x_2.len x_2.cap]).vs
        (keepsW (a_1.add (fld t)) (Rec.mk 5 (Pl.heap (a_1.add (fld t))) [Value.slice x_3.a x_3.len x_3.cap]).vs
          (keepsW a_2 (Rec.mk 9 (Pl.heap a_2) [Value.slice x_4.a x_4.len x_4.cap]).vs
            (appendW x_4 [Value.int IntKind.i64 0] 8 1 [Value.int IntKind.i64 y] fun (u : Sl) =>
              keepsW (a.add (fld t)) (Rec.mk 1 (Pl.heap (a.add (fld t))) [Value.slice x_2.a x_2.len x_2.cap]).vs
                (indexW (i : Int) x_2 1 fun (a : Addr) => storeW a (Value.slice u.a u.len u.cap) C))))) h := by
  refine deref_i (G.ld t (deref_i (G.ld t ?_)))
  refine index_i (by omega) (by simpa using hi) (by simp) fun a2 ha2 => ?_
  obtain ⟨q, hq, rfl⟩ := ha2
  cases hq
  have hcell : h.cell? ((at0 (bt t)).add i) = some (slV (sv t i)) := by
    refine Obj.ld (cs := _) (G.tab t) ?_
    rw [List.getElem?_map, List.getElem?_range hi]; rfl
  simp only [Int.toNat_natCast, Nat.mul_one]
  refine loadL_i (v := sv t i) hcell ?_
  refine keeps1 (G.cell t) (keeps1 (G.cell t) (keeps1 hcell ?_))
  have hlen := G.len t i hi
  refine (G.row t i hi).append_new G.ext (fun x hx => (G.fresh t i hi x hx).1) (m := [y]) rfl (by simp [eI_all]) rfl (by omega) fun u h1 V1 E1 N1 F1 hu1 => ?_
  have og1 := F1 _ _ G.og fun hx => (G.fresh t i hi _ hx).2.1 rfl
  have tab1 : ∀ t', h1 (bt t') = some (.cells ((List.range n).map fun i => slV (sv t' i)) true) := fun t' => F1 _ _ (G.tab t') fun hx => (G.fresh t i hi _ hx).2.2 t' rfl
  refine keeps1 (v := .slice (some ⟨bt t, 0, none⟩) n n) (Obj.ld (cs := _) og1 (by cases t <;> rfl)) ?_
  refine index_i (by omega) (by simpa using hi) (by simp) fun a3 ha3 => ?_
  obtain ⟨q, hq, rfl⟩ := ha3
  cases hq
  simp only [Int.toNat_natCast, Nat.mul_one]
  refine Obj.st (cs := (List.range n).map fun i => slV (sv t i)) (tab1 t) (by simp [hi]) fun h2 O2 F2 => hC h2 (upd2 sv t i u) ?_
  have hub : ∀ x, u.on x → h0 x = none ∧ x ≠ bg ∧ ∀ t', x ≠ bt t' := fun x hx => by
    rcases hu1 x hx with h | h
    · exact G.fresh t i hi x h
    · refine ⟨G.ext.none h, fun e => ?_, fun t' e => ?_⟩
      · subst e; rw [G.og] at h; cases h
      · subst e; rw [G.tab t'] at h; cases h
  refine ⟨G.n1, F2 _ _ og1 (G.neg t).symm, G.newg, G.ne, G.neg, fun t' => ?_, G.newt, fun t' i' hi' => ?_, fun t' i' hi' x hx => ?_, fun ta ia tb ib hia hib hne x hx hx2 => ?_, E1.of_new F2 (fun b hb => by rw [hb]; exact G.newt t), fun t' i' hi' => ?_⟩
  · by_cases e : t' = t
    · subst e
      have : ((List.range n).map fun i => slV (sv t' i)).set i (.slice u.a u.len u.cap) = (List.range n).map fun j => slV (upd2 sv t' i u t' j) := by
        apply List.ext_getElem?
        intro j
        by_cases hj : j < n
        · rw [List.getElem?_map, List.getElem?_range hj]
          by_cases ej : i = j
          · subst ej
            rw [List.getElem?_set_self (by simpa using hj)]
            simp only [Option.map_some, upd2_same]; rfl
          · rw [List.getElem?_set_ne ej, List.getElem?_map, List.getElem?_range hj]
            simp only [Option.map_some]
            rw [upd2_ne _ _ (fun h => ej h.2.symm)]
        · rw [List.getElem?_eq_none (by simp; omega), List.getElem?_eq_none (by simp; omega)]
      rw [← this]
      exact O2
    · rw [F2 _ _ (tab1 t') (bt_ne G.ne e)]
      congr 3
      funext j
      rw [upd2_ne _ _ (fun h => e h.1)]
  · by_cases e : t' = t ∧ i' = i
    · obtain ⟨rfl, rfl⟩ := e
      rw [upd2_same, upd2_same]
      exact V1.fr F2 fun x hx e => (hub x hx).2.2 _ e
    · rw [upd2_ne _ _ e, upd2_ne _ _ e]
      exact ((G.row t' i' hi').fr F1 fun x hx hx2 => G.dis t i t' i' hi hi' e x hx2 hx).fr F2 fun x hx e' => (G.fresh t' i' hi' x hx).2.2 _ e'
  · by_cases e : t' = t ∧ i' = i
    · obtain ⟨rfl, rfl⟩ := e
      rw [upd2_same] at hx
      exact hub x hx
    · rw [upd2_ne _ _ e] at hx
      exact G.fresh t' i' hi' x hx
  · have old : ∀ tc ic, ic < n → ¬ (tc = t ∧ ic = i) → ∀ x, u.on x → ¬ (sv tc ic).on x := fun tc ic hic hne x hu hx => by
      rcases hu1 x hu with h | h
      · exact G.dis t i tc ic hi hic hne x h hx
      · obtain ⟨o, ho⟩ := (G.row tc ic hic).there hx
        rw [h] at ho; cases ho
    by_cases ea : ta = t ∧ ia = i
    · obtain ⟨rfl, rfl⟩ := ea
      rw [upd2_same] at hx
      rw [upd2_ne _ _ hne] at hx2
      exact old tb ib hib hne x hx hx2
    · rw [upd2_ne _ _ ea] at hx
      by_cases eb : tb = t ∧ ib = i
      · obtain ⟨rfl, rfl⟩ := eb
        rw [upd2_same] at hx2
        exact old ta ia hia (fun h => hne ⟨h.1.symm, h.2.symm⟩) x hx2 hx
      · rw [upd2_ne _ _ eb] at hx2
        exact G.dis ta ia tb ib hia hib hne x hx hx2
  · by_cases e : t' = t ∧ i' = i
    · obtain ⟨rfl, rfl⟩ := e
      rw [upd2_same, List.length_append]
      simp; omega
    · rw [upd2_ne _ _ e]
      have := G.len t' i' hi'; omega
theorem GF.start {h0 h : H} {n bg b1 b2 : Nat} {K : HProp} (h1 : 1 ≤ n) (E : Ext h0 h) (og : Obj h bg [.int .i64 0, .slice none 0 0, .slice none 0 0]) (o1 : Obj h b1 (List.replicate n (.slice none 0 0))) (o2 : Obj h b2 (List.replicate n (.slice none 0 0)))
    (ng : h0 bg = none) (n1 : h0 b1 = none) (n2 : h0 b2 = none) (ne : b1 ≠ b2) (hK : ∀ h' bt, GF h0 n h' bg bt (fun _ _ => ⟨none, 0, 0⟩) (fun _ _ => []) 0 → K h') :
    storesW (Addr.mk bg 0 none) [.int .i64 n, .slice (some ⟨b1, 0, none⟩) n n, .slice (some ⟨b2, 0, none⟩) n n] K h := by
  unfold storesW
  unfold Obj at og o1 o2
  simp only [og]
  refine ⟨trivial, by simp, hK _ (fun t => if t then b2 else b1) ?_⟩
  have hne : ∀ b, h b = some (.cells (List.replicate n (.slice none 0 0)) true) → b ≠ bg := fun b hb e => by
    subst e; rw [og] at hb
    obtain ⟨m, rfl⟩ : ∃ m, n = m + 1 := ⟨n - 1, by omega⟩
    simp [List.replicate_succ] at hb
  have hrep : (List.range n).map (fun i => slV ⟨none, 0, 0⟩) = List.replicate n (.slice none 0 0) := by
    apply List.ext_getElem?
    intro j
    by_cases hj : j < n
    · rw [List.getElem?_map, List.getElem?_range hj, List.getElem?_replicate, if_pos hj]; rfl
    · rw [List.getElem?_eq_none (by simp; omega), List.getElem?_eq_none (by simp; omega)]
  refine ⟨h1, set_same .., ng, ne, fun t => ?_, fun t => ?_, fun t => ?_, fun t i hi => Vec.nil0, fun t i hi x ⟨a, ha, _⟩ => (by cases ha), fun t i t' i' _ _ _ x ⟨a, ha, _⟩ => (by cases ha), E.of_new Fr.set (fun b hb => by rw [hb]; exact ng), fun t i hi => Nat.le_refl _⟩
  · cases t
    · exact hne _ o1
    · exact hne _ o2
  · rw [hrep]
    cases t
    · simp only [H.set, if_neg (hne _ o1), Bool.false_eq_true, if_false]; exact o1
    · simp only [H.set, if_neg (hne _ o2), if_true]; exact o2
  · cases t
    · exact n1
    · exact n2
theorem GF.rows {h0 h : H} {n bg cnt : Nat} {bt : Bool → Nat} {sv : Bool → Nat → Sl} {f : Bool → Nat → List Int} (G : GF h0 n h bg bt sv f cnt) (t : Bool) : RowsF n h ⟨some ⟨bt t, 0, none⟩, n, n⟩ (f t) := by
  refine ⟨(List.range n).map (sv t), ⟨by simp, Nat.le_refl _, (fun e => by cases e), fun a ha _ => ?_⟩, by simp, fun i hi => ?_⟩
  · cases ha
    have e : (List.range n).map (fun i => slV (sv t i)) = ((List.range n).map (sv t)).map slV := by rw [List.map_map]; rfl
    refine ⟨rfl, _, _, G.tab t, by simp [eL], ?_⟩
    rw [List.drop_zero, List.take_of_length_le (by simp [eL]), e]
    exact slV_all _
  · have hi' : i < n := by simpa using hi
    simp only [List.getElem_map, List.getElem_range]
    exact (G.row t i hi').arr

/-- where the edges lead, and where all lead -/
def outR (L : List (Int × Int)) (u : Nat) : List Int := (L.filter fun e => decide (e.1 = (u : Int))).map (·.2)
def allR (L : List (Int × Int)) (u : Nat) : List Int := L.flatMap fun e => (if e.1 = (u : Int) then [e.2] else []) ++ (if e.2 = (u : Int) then [e.1] else [])
def bothR (L : List (Int × Int)) : Bool → Nat → List Int := fun t u => if t then allR L u else outR L u
end Go.Cz
namespace Go.Cz.S
set_option maxRecDepth 100000
set_option maxHeartbeats 1000000
set_option linter.unusedSimpArgs false
set_option linter.unusedVariables false
theorem bothR_snoc (L : List (Int × Int)) (x y : Nat) : bothR (L ++ [((x : Int), (y : Int))]) = upd2 (upd2 (upd2 (bothR L) false x (bothR L false x ++ [(y : Int)])) true x (upd2 (bothR L) false x (bothR L false x ++ [(y : Int)]) true x ++ [(y : Int)])) true y
    (upd2 (upd2 (bothR L) false x (bothR L false x ++ [(y : Int)])) true x (upd2 (bothR L) false x (bothR L false x ++ [(y : Int)]) true x ++ [(y : Int)]) true y ++ [(x : Int)]) := by
  funext t u
  cases t
  · unfold upd2
    simp only [Bool.false_eq_true, false_and, if_false, true_and]
    by_cases h : u = x
    · subst h
      simp [bothR, outR]
    · rw [if_neg h]
      have : ¬ ((x : Int) = (u : Int)) := by omega
      simp [bothR, outR, this]
  · unfold upd2
    simp only [true_and, Bool.true_eq_false, false_and, if_false]
    by_cases h1 : u = y
    · subst h1
      by_cases h2 : u = x
      · subst h2
        simp [bothR, allR]
      · have : ¬ ((x : Int) = (u : Int)) := by omega
        simp [bothR, allR, h2, this]
    · have e1 : ¬ ((y : Int) = (u : Int)) := by omega
      by_cases h2 : u = x
      · subst h2
        simp [bothR, allR, h1, e1]
      · have : ¬ ((x : Int) = (u : Int)) := by omega
        simp [bothR, allR, h1, h2, e1, this]
theorem ofF_spec {n : Nat} {v : Sl} {L : List (Int × Int)} {h : H} (h1 : 1 ≤ n) (h2 : n ≤ 256) (A : Arr h v eP L) (hL : L.length ≤ 4096) (hb : ∀ e ∈ L, 0 ≤ e.1 ∧ e.1 < n ∧ 0 ≤ e.2 ∧ e.2 < n) {Q : Int × Sl × Sl → HProp}
    (hQ : ∀ vo va h', RowsF n h' vo (outR L) → RowsF n h' va (allR L) → Ext h h' → Q ((n : Int), vo, va) h') : truth_of ((n : Int), v) Q h := by
  unfold truth_of
  refine with_i (fun (p : Option Addr) h' => ∃ bg bt, p = some (at0 bg) ∧ GF h n h' bg bt (fun _ _ => ⟨none, 0, 0⟩) (fun _ _ => []) 0) (fun k hk => ?_) ?_
  · refine both_i (mkT h2 fun b1 ha o1 n1 e1 => both_i (mkT h2 fun b2 hc o2 n2 e2 => Obj.new fun bg hd og ng e3 => ?_) (Obj.new fun bg hc og ng e2 => mkT h2 fun b2 hd o2 n2 e3 => ?_))
      (both_i (mkT h2 fun b1 ha o1 n1 e1 => both_i (mkT h2 fun b2 hc o2 n2 e2 => Obj.new fun bg hd og ng e3 => ?_) (Obj.new fun bg hc og ng e2 => mkT h2 fun b2 hd o2 n2 e3 => ?_))
        (Obj.new fun bg ha og ng e1 => both_i (mkT h2 fun b1 hc o1 n1 e2 => mkT h2 fun b2 hd o2 n2 e3 => ?_) (mkT h2 fun b1 hc o1 n1 e2 => mkT h2 fun b2 hd o2 n2 e3 => ?_)))
    · exact GF.start h1 (e1.trans (e2.trans e3)) og ((o1.ext e2).ext e3) (o2.ext e3) (e1.none (e2.none ng)) n1 (e1.none n2) (fresh_ne o1 n2) fun h' bt G => hk _ _ ⟨_, _, rfl, G⟩
    · exact GF.start h1 (e1.trans (e2.trans e3)) (og.ext e3) ((o1.ext e2).ext e3) o2 (e1.none ng) n1 (e1.none (e2.none n2)) (fresh_ne (o1.ext e2) n2) fun h' bt G => hk _ _ ⟨_, _, rfl, G⟩
    · exact GF.start h1 (e1.trans (e2.trans e3)) og (o2.ext e3) ((o1.ext e2).ext e3) (e1.none (e2.none ng)) (e1.none n2) n1 (fresh_ne o1 n2).symm fun h' bt G => hk _ _ ⟨_, _, rfl, G⟩
    · exact GF.start h1 (e1.trans (e2.trans e3)) (og.ext e3) o2 ((o1.ext e2).ext e3) (e1.none ng) (e1.none (e2.none n2)) n1 (fresh_ne (o1.ext e2) n2).symm fun h' bt G => hk _ _ ⟨_, _, rfl, G⟩
    · exact GF.start h1 (e1.trans (e2.trans e3)) ((og.ext e2).ext e3) (o1.ext e3) o2 ng (e1.none n1) (e1.none (e2.none n2)) (fresh_ne o1 n2) fun h' bt G => hk _ _ ⟨_, _, rfl, G⟩
    · exact GF.start h1 (e1.trans (e2.trans e3)) ((og.ext e2).ext e3) o2 (o1.ext e3) ng (e1.none (e2.none n2)) (e1.none n1) (fresh_ne o1 n2).symm fun h' bt G => hk _ _ ⟨_, _, rfl, G⟩
  · rintro p h' ⟨bg, bt, rfl, G⟩
    simp only [A.len, ltI_eq]
    refine loop_i (fun (s : Int) h3 => ∃ (i : Nat) (sv : Bool → Nat → Sl), s = i ∧ i ≤ L.length ∧ GF h n h3 bg bt sv (bothR (L.take i)) (3 * i)) (fun s => ((L.length : Int) - s).toNat) ⟨0, fun _ _ => ⟨none, 0, 0⟩, rfl, Nat.zero_le _, ?_⟩ ?_
    · have e : bothR (L.take 0) = fun _ _ => [] := by
        funext t u; cases t <;> rfl
      rw [e]; exact G
    rintro s h3 ⟨i, sv, rfl, hi, G3⟩ k hk
    refine ite_i (fun hlt => ?_) fun hge => ?_
    · have hlt : i < L.length := by simpa using hlt
      have A3 := A.ext G3.ext
      refine A3.index (by omega) (by omega) fun a ha => ?_
      have c0 := A3.cell (i := i) (j := 0) (x := L[i]) (y := .int .i64 L[i].1) (by simpa [eP] using ha) (List.getElem?_eq_getElem hlt) rfl
      have c1 := A3.cell (i := i) (j := 1) (x := L[i]) (y := .int .i64 L[i].2) (by simpa [eP] using ha) (List.getElem?_eq_getElem hlt) rfl
      refine loadI_i c0 (loadI_i c1 ?_)
      obtain ⟨x0, x1, y0, y1⟩ := hb _ (List.getElem_mem hlt)
      obtain ⟨x, hx⟩ : ∃ x : Nat, L[i].1 = x := ⟨L[i].1.toNat, by omega⟩
      obtain ⟨y, hy⟩ : ∃ y : Nat, L[i].2 = y := ⟨L[i].2.toNat, by omega⟩
      have hLi : L[i] = ((x : Int), (y : Int)) := Prod.ext hx hy
      rw [hx] at x0 x1 ⊢; rw [hy] at y0 y1 ⊢
      refine G3.add false (i := x) (by omega) (by omega) fun h4 sv4 G4 => ?_
      refine G4.add true (i := x) (by omega) (by omega) fun h5 sv5 G5 => ?_
      refine G5.add true (i := y) (by omega) (by omega) fun h6 sv6 G6 => ?_
      rw [add_i64 (by omega) (by omega)]
      refine hk _ _ ⟨i + 1, sv6, by simp, by omega, ?_⟩ (by omega)
      have et : L.take (i + 1) = L.take i ++ [((x : Int), (y : Int))] := by rw [List.take_add_one, List.getElem?_eq_getElem hlt, hLi]; rfl
      rw [et, bothR_snoc]
      exact G6
    · have : i = L.length := by have : ¬ (i < L.length) := (by simpa using hge); omega
      subst this
      rw [List.take_length] at G3
      refine deref_i ?_
      refine loadI_i (n := n) (Obj.ld (j := 0) G3.og rfl) ?_
      refine G3.ld false (G3.ld true ?_)
      exact hQ _ _ h3 (G3.rows false) (G3.rows true) G3.ext
end Go.Cz.S

namespace Go.Cz
set_option maxRecDepth 100000
set_option maxHeartbeats 1000000
set_option linter.unusedSimpArgs false
set_option linter.unusedVariables false

/-! ## distances -/
def gt (D : List Int) (i : Nat) : Int := (D[i]?).getD FAR
theorem gt_get {D : List Int} {i : Nat} (h : i < D.length) : gt D i = D[i] := by unfold gt; rw [List.getElem?_eq_getElem h]; rfl
theorem gt_set {D : List Int} {i : Nat} (x : Int) (j : Nat) (h : i < D.length) : gt (D.set i x) j = if i = j then x else gt D j := by
  unfold gt
  by_cases e : i = j
  · subst e; rw [List.getElem?_set_self h, if_pos rfl]; rfl
  · rw [List.getElem?_set_ne e, if_neg e]
theorem gt_far {D : List Int} {i : Nat} (h : D.length ≤ i) : gt D i = FAR := by unfold gt; rw [List.getElem?_eq_none h]; rfl
structure Bf (n s : Nat) (f : Nat → List Int) (D : List Int) (P : Nat → Prop) : Prop where
  dist : Dist n D
  src : gt D s = 0
  par : ∀ b, b < n → gt D b ≠ FAR → b ≠ s → ∃ a, a < n ∧ gt D a ≠ FAR ∧ (b : Int) ∈ f a ∧ gt D b = gt D a + 1
  don : ∀ a, a < n → gt D a ≠ FAR → P a ∨ ∀ b ∈ f a, gt D b.toNat ≠ FAR ∧ gt D b.toNat ≤ gt D a + 1
theorem Bf.val {n s : Nat} {f : Nat → List Int} {D : List Int} {P : Nat → Prop} (B : Bf n s f D P) {a : Nat} (ha : gt D a ≠ FAR) : a < n ∧ 0 ≤ gt D a ∧ gt D a + D.count FAR ≤ n := by
  have hlt : a < D.length := by
    by_cases h : a < D.length
    · exact h
    · exact absurd (gt_far (by omega)) ha
  have := B.dist.val (gt D a) (by rw [gt_get hlt]; exact List.getElem_mem hlt)
  rw [B.dist.len] at hlt
  rcases this with h | h
  · exact absurd h ha
  · exact ⟨hlt, h⟩
theorem Bf.set {n s : Nat} {f : Nat → List Int} {D : List Int} {P : Nat → Prop} (B : Bf n s f D P) (hn : n ≤ 256) {v j : Nat} (hv : v < n) (hvf : gt D v = FAR) (hj : gt D j ≠ FAR) (hm : (v : Int) ∈ f j) (hp : P v) :
    Bf n s f (D.set v (gt D j + 1)) P ∧ (D.set v (gt D j + 1)).count FAR + 1 = D.count FAR := by
  obtain ⟨hjn, j0, j1⟩ := B.val hj
  have hvl : v < D.length := by rw [B.dist.len]; exact hv
  have hve : D[v]? = some FAR := by rw [List.getElem?_eq_getElem hvl, ← gt_get hvl, hvf]
  obtain ⟨D', hc⟩ := B.dist.set hn hv hve j0 j1
  have hne : gt D j + 1 ≠ FAR := by simp only [FAR]; omega
  refine ⟨⟨D', ?_, fun b hb hbf hbs => ?_, fun a ha haf => ?_⟩, hc⟩
  · rw [gt_set _ _ hvl, if_neg (fun e => by subst e; rw [B.src] at hvf; cases hvf)]
    exact B.src
  · have hvj : v ≠ j := fun e => by subst e; exact hj hvf
    rw [gt_set _ _ hvl] at hbf ⊢
    by_cases e : v = b
    · subst e
      rw [if_pos rfl]
      exact ⟨j, hjn, by rw [gt_set _ _ hvl, if_neg hvj]; exact hj, hm, by rw [gt_set _ _ hvl, if_neg hvj]⟩
    · rw [if_neg e] at hbf ⊢
      obtain ⟨a, a1, a2, a3, a4⟩ := B.par b hb hbf hbs
      have : v ≠ a := fun e => by subst e; exact a2 hvf
      exact ⟨a, a1, by rw [gt_set _ _ hvl, if_neg this]; exact a2, a3, by rw [gt_set _ _ hvl, if_neg this]; exact a4⟩
  · rw [gt_set _ _ hvl] at haf
    by_cases e : v = a
    · subst e; exact .inl hp
    · rw [if_neg e] at haf
      refine (B.don a ha haf).imp id fun h b hb => ?_
      obtain ⟨b1, b2⟩ := h b hb
      have : v ≠ b.toNat := fun e => by subst e; exact b1 hvf
      rw [gt_set _ _ hvl, if_neg this, gt_set _ _ hvl, if_neg e]
      exact ⟨b1, b2⟩
end Go.Cz
namespace Go.Cz.S
set_option maxRecDepth 100000
set_option maxHeartbeats 1000000
set_option linter.unusedSimpArgs false
set_option linter.unusedVariables false
/-- rows as they should be -/
def OkRows (n : Nat) (f : Nat → List Int) : Prop := ∀ i, i < n → (f i).length ≤ 20000 ∧ ∀ y ∈ f i, 0 ≤ y ∧ y < (n : Int)
theorem farF_spec {n u : Nat} {v : Sl} {f : Nat → List Int} {h : H} (h1 : 1 ≤ n) (h2 : n ≤ 256) (hu : u < n) (R : RowsF n h v f) (hok : OkRows n f) {Q : Sl → HProp}
    (hQ : ∀ r h' D, Vec h' r (eI .u64) D → Bf n u f D (fun _ => False) → New h r → Ext h h' → Q r h') : truth_far (v, (u : Int)) Q h := by
  unfold truth_far
  simp only [R.len]
  refine fill_spec h1 h2 fun r ha V0 hra N0 E0 => ?_
  refine V0.put (by simpa using hu) fun hb V1 F1 => ?_
  have E1 : Ext h hb := E0.of_new F1 N0
  refine new_i (E := eI .i64) (l := [(u : Int)]) (by simp [eI_all]) rfl fun b hc Vq Nq Ec => ?_
  have V2 := V1.ext Ec
  have E2 := E1.trans Ec
  have hul : u < (List.replicate n FAR).length := by simpa using hu
  have hcount : ((List.replicate n FAR).set u 0).count FAR + 1 = n := by
    rw [List.count_set hul]
    have c1 : (List.replicate n FAR).count FAR = n := List.count_replicate_self
    have c2 : ((List.replicate n FAR)[u] == FAR) = true := by simp
    have c3 : ((0 : Int) == FAR) = false := by decide
    rw [c1, if_pos c2, c3]
    simp
    omega
  have grep : ∀ j, gt (List.replicate n FAR) j = FAR := fun j => by
    unfold gt
    rw [List.getElem?_replicate]
    split <;> rfl
  have B0 : Bf n u f ((List.replicate n FAR).set u 0) (fun a => (a : Int) ∈ [(u : Int)]) := by
    refine ⟨⟨by simp, fun x hx => ?_⟩, by rw [gt_set _ _ hul, if_pos rfl], fun b hb hbf hbs => ?_, fun a ha haf => .inl ?_⟩
    · rcases List.mem_or_eq_of_mem_set hx with hx | rfl
      · exact .inl (List.mem_replicate.1 hx).2
      · refine .inr ⟨Int.le_refl _, ?_⟩
        change (0 : Int) + ((((List.replicate n FAR).set u 0).count FAR : Nat) : Int) ≤ n
        omega
    · rw [gt_set _ _ hul, if_neg (fun e => hbs e.symm), grep] at hbf
      exact absurd rfl hbf
    · rw [gt_set _ _ hul] at haf
      by_cases e : u = a
      · subst e; simp
      · rw [if_neg e, grep] at haf; exact absurd rfl haf
  refine loop_n (fun T (s : Sl) h' => ∃ D qL, Vec h' r (eI .u64) D ∧ Bf n u f D (fun a => (a : Int) ∈ qL) ∧ Vec h' s (eI .i64) qL ∧ Ext h h' ∧ (∀ b, s.on b → h b = none ∧ ¬ r.on b) ∧ T = D.count FAR + qL.length ∧ T ≤ n ∧
      (∀ q ∈ qL, ∃ j : Nat, q = j ∧ j < n ∧ gt D j ≠ FAR) ∧ qL.Pairwise (fun x y => gt D x.toNat ≤ gt D y.toNat) ∧ (∀ q0 ∈ qL.head?, ∀ a, gt D a ≠ FAR → gt D a ≤ gt D q0.toNat + 1)) _ ⟨_, [(u : Int)], V2, B0, Vq, E2, ?_, rfl, ?_, ?_, List.pairwise_singleton _ _, ?_⟩ ?_
  · intro b' hb'
    have hbn := Nq b' hb'
    exact ⟨E1.none hbn, fun hr => by obtain ⟨o, ho⟩ := V1.there hr; rw [hbn] at ho; cases ho⟩
  · show ((List.replicate n FAR).set u 0).count FAR + [(u : Int)].length ≤ n
    simp only [List.length_singleton]; omega
  · intro q hq
    simp at hq
    subst hq
    exact ⟨u, rfl, hu, by rw [B0.src]; decide⟩
  · intro q0 hq0 a ha
    simp at hq0
    subst hq0
    rw [Int.toNat_natCast, B0.src]
    rw [gt_set _ _ hul] at ha ⊢
    by_cases e : u = a
    · rw [if_pos e]; decide
    · rw [if_neg e, grep] at ha; exact absurd rfl ha
  · rintro T s h' ⟨D, qL, V, B, W, E, hs, rfl, hT, hq, hpw, hhd⟩ k hk
    simp only [ltI_eq]
    refine ite_i (fun hpos => ?_) fun hz => ?_
    · have hpos : 0 < s.len := by simpa using hpos
      cases qL with
      | nil => have := W.len; simp at this; omega
      | cons x tl =>
      obtain ⟨j, rfl, hj, hyF⟩ := hq x (List.mem_cons_self ..)
      refine W.arr.num (i := 0) (by simp) ?_
      simp only [List.getElem_cons_zero]
      refine R.row E hj fun x1 A => ?_
      obtain ⟨hl8, hl⟩ := hok j hj
      have hpw' := List.pairwise_cons.1 hpw
      refine loop_i (fun (p : Sl × Int) h'' => ∃ (i : Nat) (D' qL' : List Int), p.2 = i ∧ i ≤ (f j).length ∧ Vec h'' r (eI .u64) D' ∧ Bf n u f D' (fun a => a = j ∨ (a : Int) ∈ qL') ∧ Vec h'' p.1 (eI .i64) ((j : Int) :: qL') ∧ Ext h h'' ∧ (∀ b, p.1.on b → h b = none ∧ ¬ r.on b) ∧
          D'.count FAR + qL'.length = D.count FAR + tl.length ∧ (∀ q ∈ ((j : Int) :: qL'), ∃ j : Nat, q = j ∧ j < n ∧ gt D' j ≠ FAR) ∧ ((j : Int) :: qL').Pairwise (fun x y => gt D' x.toNat ≤ gt D' y.toNat) ∧ (∀ a, gt D' a ≠ FAR → gt D' a ≤ gt D' j + 1) ∧
          (∀ q, q < i → ∀ hq : q < (f j).length, gt D' ((f j)[q]).toNat ≠ FAR)) (fun p => (((f j).length : Int) - p.2).toNat) ?_ ?_
      · refine ⟨0, D, tl, rfl, Nat.zero_le _, V, ⟨B.dist, B.src, B.par, fun a ha haf => (B.don a ha haf).imp (fun hm => ?_) id⟩, W, E, hs, rfl, hq, hpw, fun a ha => by simpa using hhd (j : Int) (by simp) a ha, fun q hq => by omega⟩
        rcases List.mem_cons.1 hm with hm | hm
        · exact .inl (by omega)
        · exact .inr hm
      · rintro ⟨s1, jj⟩ h'' ⟨i, D', qL', rfl, hil, V', B', W', E', hs', hcnt, hq', hpw', hmax, hdone⟩ k1 hk1
        simp only at *
        have A'' := A.ext E'
        rw [A.len]
        refine ite_i (fun hlt => ?_) fun hge => ?_
        · have hlt : i < (f j).length := by simpa using hlt
          refine with_u ?_
          refine A''.num hlt ?_
          obtain ⟨y0, y1⟩ := hl _ (List.getElem_mem hlt)
          obtain ⟨vv, hvv⟩ : ∃ vv : Nat, (f j)[i] = vv := ⟨((f j)[i]).toNat, by omega⟩
          have hmem : (vv : Int) ∈ f j := by rw [← hvv]; exact List.getElem_mem hlt
          rw [hvv] at y0 y1 ⊢
          have hvn : vv < n := by omega
          have hvo : vv < D'.length := by rw [B'.dist.len]; exact hvn
          refine V'.arr.num hvo ?_
          simp only [eqI_eq]
          obtain ⟨j2, hj2, hjn2, hyF2⟩ := hq' _ (List.mem_cons_self ..)
          have : j2 = j := by omega
          subst this
          refine ite_i (fun hfar => ?_) fun hfar => ?_
          · have hfar : D'[vv] = FAR := by simpa using hfar
            have hfar' : gt D' vv = FAR := by rw [gt_get hvo]; exact hfar
            have hjo : j2 < D'.length := by rw [B'.dist.len]; exact hjn2
            refine V'.arr.num hjo ?_
            rw [← gt_get hjo]
            obtain ⟨_, z0, z1⟩ := B'.val hyF2
            rw [add_u64 (by omega) (by omega)]
            have hne1 : gt D' j2 + 1 ≠ FAR := by simp only [FAR]; omega
            refine V'.put hvo fun h3 V3 F3 => ?_
            have W3 : Vec h3 s1 (eI .i64) ((j2 : Int) :: qL') := W'.fr F3 fun b hb hr => (hs' b hb).2 hr
            have E3 : Ext h h3 := E'.of_new F3 N0
            have hlen3 : ((j2 : Int) :: qL').length ≤ 300 := by simp at hT ⊢; omega
            refine W3.append_new E3 (fun b hb => (hs' b hb).1) (m := [(vv : Int)]) rfl (by simp [eI_all]) rfl (by omega) fun u h4 V4 E4 N4 F4 hu4 => ?_
            rw [add_i64 (by omega) (by omega)]
            have hvj : vv ≠ j2 := fun e => by subst e; exact hyF2 hfar'
            have gj : gt (D'.set vv (gt D' j2 + 1)) j2 = gt D' j2 := by rw [gt_set _ _ hvo, if_neg hvj]
            have B'' : Bf n _ f D' (fun a => a = j2 ∨ (a : Int) ∈ qL' ++ [(vv : Int)]) := ⟨B'.dist, B'.src, B'.par, fun a ha haf => (B'.don a ha haf).imp (fun h => h.imp id fun h => List.mem_append_left _ h) id⟩
            obtain ⟨B3, hc3⟩ := B''.set h2 hvn hfar' hyF2 hmem (.inr (by simp))
            refine hk1 _ _ ⟨i + 1, D'.set vv (gt D' j2 + 1), qL' ++ [(vv : Int)], by simp, by omega, V3.fr F4 (fun b hb hr => (hs' b hr).2 hb), B3, by simpa using V4, E4, ?_, by simp; omega, ?_, ?_, ?_, ?_⟩ (by simp; omega)
            · intro b hb
              refine ⟨N4 b hb, fun hr => ?_⟩
              rcases hu4 b hb with h | h
              · exact (hs' b h).2 hr
              · obtain ⟨o, ho⟩ := V3.there hr; rw [h] at ho; cases ho
            · intro q hqm
              have hqm : q ∈ ((j2 : Int) :: qL') ∨ q = (vv : Int) := by simpa [or_assoc] using hqm
              rcases hqm with hqm | rfl
              · obtain ⟨j3, a, b, c⟩ := hq' q hqm
                refine ⟨j3, a, b, ?_⟩
                rw [gt_set _ _ hvo]
                split
                · exact hne1
                · exact c
              · exact ⟨vv, rfl, hvn, by rw [gt_set _ _ hvo, if_pos rfl]; exact hne1⟩
            · rw [← List.cons_append, List.pairwise_append]
              refine ⟨hpw'.imp_of_mem fun {a b} ha hb hab => ?_, List.pairwise_singleton _ _, fun a ha b hb => ?_⟩
              · obtain ⟨a3, ea, _, fa⟩ := hq' a ha
                obtain ⟨b3, eb, _, fb⟩ := hq' b hb
                rw [ea, eb, Int.toNat_natCast, Int.toNat_natCast] at hab ⊢
                rw [gt_set _ _ hvo, if_neg (fun e => by subst e; exact fa hfar'), gt_set _ _ hvo, if_neg (fun e => by subst e; exact fb hfar')]
                exact hab
              · obtain ⟨a3, ea, _, fa⟩ := hq' a ha
                rw [List.mem_singleton.1 hb, ea, Int.toNat_natCast, Int.toNat_natCast, gt_set _ _ hvo, if_neg (fun e => by subst e; exact fa hfar'), gt_set _ _ hvo, if_pos rfl]
                exact hmax a3 fa
            · intro a haf
              rw [gj]
              rw [gt_set _ _ hvo] at haf ⊢
              split
              · exact Int.le_refl _
              · rename_i e
                rw [if_neg e] at haf
                exact hmax a haf
            · intro q hqi hql
              rw [gt_set _ _ hvo]
              split
              · exact hne1
              · rename_i e
                by_cases e2 : q = i
                · subst e2; rw [hvv] at e; simp at e
                · exact hdone q (by omega) hql
          · have hfar : ¬ (D'[vv] = FAR) := by simpa using hfar
            rw [add_i64 (by omega) (by omega)]
            refine hk1 _ _ ⟨i + 1, D', qL', by simp, by omega, V', B', W', E', hs', hcnt, hq', hpw', hmax, fun q hqi hql => ?_⟩ (by simp; omega)
            by_cases e2 : q = i
            · subst e2
              rw [hvv, Int.toNat_natCast, gt_get hvo]; exact hfar
            · exact hdone q (by omega) hql
        · have hil : i = (f j).length := by have : ¬ (i < (f j).length) := (by simpa using hge); omega
          refine Vec.tail1 W' fun u Vu hu => ?_
          have hpw2 := List.pairwise_cons.1 hpw'
          refine hk (D'.count FAR + qL'.length) _ _ (by rw [List.length_cons]; omega) ⟨D', qL', V', ⟨B'.dist, B'.src, B'.par, fun a ha haf => ?_⟩, Vu, E', fun b hb => hs' b (hu b hb), rfl, by rw [List.length_cons] at hT; omega, fun q hqm => hq' q (List.mem_cons_of_mem _ hqm), hpw2.2, fun q0 hq0 a haf => ?_⟩
          · rcases B'.don a ha haf with (rfl | hm) | hd
            · refine .inr fun b hb => ?_
              obtain ⟨q, hq, rfl⟩ := List.getElem_of_mem hb
              have := hdone q (by omega) hq
              exact ⟨this, hmax _ this⟩
            · exact .inl hm
            · exact .inr hd
          · have hq0m : q0 ∈ qL' := List.mem_of_head? hq0
            have h3 := hpw2.1 q0 hq0m
            rw [Int.toNat_natCast] at h3
            have := hmax a haf
            omega
    · have hz : s.len = 0 := by simpa using hz
      have hnil : qL = [] := List.length_eq_zero_iff.1 (by have := W.len; omega)
      subst hnil
      exact hQ r h' D V ⟨B.dist, B.src, B.par, fun a ha haf => (B.don a ha haf).imp (fun h => by simp at h) id⟩ N0 E
end Go.Cz.S

namespace Go.Cz.S
set_option maxRecDepth 100000
set_option maxHeartbeats 1000000
set_option linter.unusedSimpArgs false
set_option linter.unusedVariables false

/-- a table that was made since h0 -/
structure Mine (h0 h : H) (b : Nat) (lv av : Sl) (c : Cfg) (pos : Int) (all : List Ent) : Prop where
  t : Tab h b lv av c pos all
  e : Ext h0 h
  nb : h0 b = none
  na : ∀ x, av.on x → h0 x = none
section
variable {h0 h h' : H} {b : Nat} {lv av av' : Sl} {c : Cfg} {pos pos' : Int} {all all' : List Ent}
theorem Mine.ow (M : Mine h0 h b lv av c pos all) : ∀ x, own b av x → h0 x = none := fun x hx => by
  rcases hx with rfl | hx
  · exact M.nb
  · exact M.na x hx
theorem Mine.next (M : Mine h0 h b lv av c pos all) (T : Tab h' b lv av c pos' all') (F : Fr (own b av) h h') : Mine h0 h' b lv av c pos' all' :=
  ⟨T, M.e.of_new F M.ow, M.nb, M.na⟩
theorem Mine.grow (M : Mine h0 h b lv av c pos all) (T : Tab h' b lv av' c pos' all') (F : Fr (own b av) h h') (hu : ∀ x, av'.on x → av.on x ∨ h x = none) : Mine h0 h' b lv av' c pos' all' :=
  ⟨T, M.e.of_new F M.ow, M.nb, fun x hx => (hu x hx).elim (M.na x) fun hn => M.e.none hn⟩
theorem Mine.ext (M : Mine h0 h b lv av c pos all) (e : Ext h h') : Mine h0 h' b lv av c pos all := ⟨M.t.ext e, M.e.trans e, M.nb, M.na⟩
end
theorem ints_spec {a b : Sl} {L M : List Int} {h : H} (A : Arr h a (eI .i64) L) (B : Arr h b (eI .i64) M) (hL : L.length ≤ 1000000) {Q : Bool → HProp} (hQ : Q (decide (L = M)) h) : law26_Ints (a, b) Q h := by
  unfold law26_Ints
  simp only [A.len, B.len, ltI_eq, eqI_eq]
  refine ite_i (fun hne => ?_) fun heq => ?_
  · have : ¬ (L = M) := fun e => by subst e; simp at hne
    rw [decide_eq_false this] at hQ; exact hQ
  · have heq : L.length = M.length := by have : (L.length : Int) = M.length := (by simpa using heq); omega
    refine loop_i (fun (s : Int) h' => h' = h ∧ ∃ i : Nat, s = i ∧ i ≤ L.length ∧ ∀ j, (hj : j < i) → ∀ hl : j < L.length, ∀ hm : j < M.length, L[j] = M[j]) (fun s => ((L.length : Int) - s).toNat) ⟨rfl, 0, rfl, Nat.zero_le _, fun j hj => by omega⟩ ?_
    rintro s h' ⟨rfl, i, rfl, hi, hp⟩ k hk
    refine ite_i (fun hlt => ?_) fun hge => ?_
    · have hlt : i < L.length := by simpa using hlt
      refine A.num hlt (B.num (by omega) ?_)
      refine ite_i (fun hne => ?_) fun he => ?_
      · have hne : ¬ (L[i] = M[i]) := by
          rw [Bool.not_eq_true'] at hne
          exact of_decide_eq_false hne
        have : ¬ (L = M) := fun e => by subst e; exact hne rfl
        rw [decide_eq_false this] at hQ; exact hQ
      · have he : L[i] = M[i] := by
          rw [Bool.not_eq_false'] at he
          exact of_decide_eq_true he
        rw [add_i64 (by omega) (by omega)]
        refine hk _ _ ⟨rfl, i + 1, by simp, by omega, fun j hj hl hm => ?_⟩ (by omega)
        by_cases e : j = i
        · subst e; exact he
        · exact hp j (by omega) hl hm
    · have hi : i = L.length := by have : ¬ (i < L.length) := (by simpa using hge); omega
      have : L = M := List.ext_getElem heq fun j h1 h2 => hp j (by omega) h1 h2
      rw [decide_eq_true this] at hQ; exact hQ

/-! ## the chapter's graph -/
def ringL : List (Int × Int) := [(0, 1), (1, 2), (2, 0)]
def ringC : Cfg := ⟨4, 2, 600, ringL⟩
theorem ring_valid : Valid 4 ringL := ⟨by decide, by unfold Rising ringL ltP; decide⟩
def k1 (m1 m2 : Int) : List Ent := [⟨1, 0, 0, 300, 2, 0, m1, 0, 0, 1, true, true⟩, ⟨3, 0, 0, 300, 2, 0, m2, 0, 0, 1, true, true⟩]
def k2 (m1 m2 : Int) : List Ent := [⟨1, 0, 0, 300, 2, 0, m1, 0, 0, 1, true, true⟩, ⟨3, 0, 0, 300, 2, 0, m2, 0, 1, 1, true, false⟩]
def k3 (m1 m2 : Int) : List Ent := [⟨1, 0, 0, 300, 5, 60, m1, 0, 0, 1, false, false⟩, ⟨3, 0, 0, 300, 2, 0, m2, 0, 1, 1, true, false⟩]
def k4 (m1 m2 : Int) : List Ent := [⟨1, 0, 0, 300, 5, 60, m1, 0, 0, 1, false, false⟩, ⟨3, 0, 0, 300, 5, 50, m2, 0, 1, 1, false, false⟩]
theorem ks1 (m1 m2 : Int) : stepF ringC (-1) ([] ++ [newE 1 0 0 300 m1] ++ [newE 3 0 0 300 m2]) 0 0 = ⟨(2, 0, 0, 0, 0), 0, k1 m1 m2⟩ := by kernel_rfl
theorem ks2 (m1 m2 : Int) : stepF ringC 0 (k1 m1 m2) 1 0 = ⟨(3, 0, 2, 0, 0), 0, k2 m1 m2⟩ := by kernel_rfl
theorem ks3 (m1 m2 : Int) : stepF ringC 0 (k2 m1 m2) 0 60 = ⟨(3, 0, 1, 60, 0), 0, k3 m1 m2⟩ := by kernel_rfl
theorem ks4 (m1 m2 : Int) : stepF ringC 0 (k3 m1 m2) 0 50 = ⟨(4, 1, 0, 50, 0), 1, k4 m1 m2⟩ := by kernel_rfl
theorem ks5 (m1 m2 : Int) : stepF ringC 1 (k4 m1 m2) 0 0 = ⟨(1, 0, 0, 0, 0), 1, k4 m1 m2⟩ := by kernel_rfl
theorem kw (m1 m2 : Int) : ids isX (k2 m1 m2) = [1] := by kernel_rfl
theorem ku2 (m1 m2 : Int) : usedF (k2 m1 m2) = 600 := by kernel_rfl
theorem ku4 (m1 m2 : Int) : usedF (k4 m1 m2) = 0 := by kernel_rfl
theorem kp1 (m1 m2 : Int) : pollF (k4 m1 m2) 1 = (5, 0, 60, 0) := by kernel_rfl
theorem kp2 (m1 m2 : Int) : pollF (k4 m1 m2) 2 = (5, 0, 50, 0) := by kernel_rfl
theorem kc (m1 m2 : Int) : (cancelF (k4 m1 m2) 1).1 = 270 := by kernel_rfl
theorem keq {l : List (Int × Int)} (h : l.all (fun p => p.1 == p.2) = true) : eqPairs l = true := by
  induction l with
  | nil => rfl
  | cons p r ih =>
    obtain ⟨a, b⟩ := p
    simp only [List.all_cons, Bool.and_eq_true, beq_iff_eq] at h
    have hr := ih h.2
    cases r with
    | nil => simp [eqPairs, eqI_eq, h.1]
    | cons q s => simp only [eqPairs] at hr ⊢; simp [eqI_eq, h.1, hr]
theorem keeps_spec {h : H} {Q : Bool → HProp} (hQ : ∀ h', Ext h h' → Q true h') : law28_keeps () Q h := by
  unfold law28_keeps
  simp only [eqI_eq]
  refine new_i (E := eP) (l := ringL) rfl rfl fun b0 h1 V1 N1 e1 => ?_
  have A1 := V1.arr
  refine new_spec A1 (by decide) (fun hx => absurd ⟨ring_valid, by decide, by decide, by decide⟩ hx) fun _ b lv h2 T2 e2 nb => ?_
  refine new_spec (A1.ext e2) (by decide) (fun _ h3 e3 => ?_) fun hy => absurd hy.2.1 (by decide)
  have M : Mine h h3 b lv ⟨none, 0, 0⟩ ringC (-1) [] := ⟨T2.ext e3, (e1.trans e2).trans e3, e1.none nb, fun x ⟨a, ha, _⟩ => by cases ha⟩
  refine with_u (ite_f rfl (ite_f rfl ?_))
  have hcn : (1 : Int) ≤ ringC.n := by decide
  have hck : ringC.k ≠ 0 := by decide
  refine submit_spec M.t ring_valid (by decide) (by decide) (fun hx => absurd rfl hx) fun _ m1 h4 av4 T4 F4 hu4 _ _ _ => ?_
  have M4 := M.grow T4 F4 hu4
  refine submit_spec M4.t ring_valid (by decide) (by simp) (fun hx => absurd rfl hx) fun _ m2 h5 av5 T5 F5 hu5 _ _ _ => ?_
  have M5 := M4.grow T5 F5 hu5
  refine step_spec M5.t hcn hck (by simp) fun h6 T6 F6 => ?_
  rw [ks1] at T6 ⊢
  have M6 := M5.next T6 F6
  refine step_spec M6.t hcn hck (by simp [k1]) fun h7 T7 F7 => ?_
  rw [ks2] at T7 ⊢
  have M7 := M6.next T7 F7
  refine with_u (ite_f (by simp) (ite_f (by simp) (ite_f (by rw [keq rfl]; rfl) (ite_f (by rw [keq rfl]; rfl) ?_))))
  refine waiting_spec M7.t hcn (by simp [k2]) fun r8 h8 V8 N8 e8 => ?_
  rw [kw] at V8
  refine new_i (E := eI .i64) (l := [1]) rfl rfl fun b9 h9 V9 N9 e9 => ?_
  refine ints_spec (V8.ext e9).arr V9.arr (by decide) ?_
  have M9 := (M7.ext e8).ext e9
  refine ite_f rfl (used_spec M9.t hcn (by simp [k2]) fun h10 e10 => ?_)
  rw [ku2]
  have M10 := M9.ext e10
  refine ite_f rfl ?_
  refine step_spec M10.t hcn hck (by simp [k2]) fun h11 T11 F11 => ?_
  rw [ks3] at T11 ⊢
  have M11 := M10.next T11 F11
  refine step_spec M11.t hcn hck (by simp [k3]) fun h12 T12 F12 => ?_
  rw [ks4] at T12 ⊢
  have M12 := M11.next T12 F12
  refine poll_spec M12.t hcn (by simp [k4]) (poll_spec M12.t hcn (by simp [k4]) ?_)
  rw [kp1, kp2]
  refine step_spec M12.t hcn hck (by simp [k4]) fun h13 T13 F13 => ?_
  rw [ks5] at T13 ⊢
  have M13 := M12.next T13 F13
  refine with_u (ite_t (keq rfl) (ite_t (keq rfl) (ite_t (keq rfl) (ite_t (keq rfl) (ite_t (keq rfl) ?_)))))
  refine used_spec M13.t hcn (by simp [k4]) fun h14 e14 => ?_
  rw [ku4]
  have M14 := M13.ext e14
  refine ite_t rfl (cancel_spec M14.t hcn (by simp [k4]) fun h15 T15 F15 => ?_)
  rw [kc]
  exact hQ h15 (M14.next T15 F15).e

/-! ## a table that is none -/
def Non (h : H) (x : Option Addr) : Prop := ∀ Q : Bool → HProp, Q true h → table_Table_none x Q h
theorem non_nil {h : H} : Non h none := fun Q hQ => none_nil hQ
theorem non_zero {h : H} {b : Nat} {r : List Value} (o : Obj h b (.int .i64 0 :: r)) : Non h (some (at0 b)) := fun Q hQ => by
  unfold table_Table_none
  simp only [eqI_eq]
  exact with_u (ite_f (isNilP_some _) (deref_i (loadI_i (o.ld (j := 0) rfl) hQ)))
section
variable {h : H} {x : Option Addr}
theorem sub_non (N : Non h x) {a b c d : Int} {Q : Int × Int → HProp} (hQ : Q (0, 1) h) : table_Table_Submit (x, a, b, c, d) Q h := by
  unfold table_Table_Submit
  exact N _ (ite_t rfl hQ)
theorem find_non (N : Non h x) {a : Int} {Q : Option Addr × Int → HProp} (hQ : Q (none, 1) h) : table_Table_find (x, a) Q h := by
  unfold table_Table_find
  exact N _ (ite_t rfl hQ)
theorem poll_non (N : Non h x) {a : Int} {Q : Int × Int × Int × Int → HProp} (hQ : Q (0, 0, 0, 1) h) : table_Table_Poll (x, a) Q h := by
  unfold table_Table_Poll
  simp only [eqI_eq]
  exact find_non N (ite_t rfl hQ)
theorem res_non (N : Non h x) {a : Int} {Q : Sl × Int → HProp} (hQ : Q (Sl.mk none 0 0, 1) h) : table_Table_Result (x, a) Q h := by
  unfold table_Table_Result
  simp only [eqI_eq]
  exact find_non N (ite_t rfl hQ)
theorem cancel_non (N : Non h x) {a : Int} {Q : Int → HProp} (hQ : Q 1 h) : table_Table_Cancel (x, a) Q h := by
  unfold table_Table_Cancel
  simp only [eqI_eq]
  exact find_non N (ite_t rfl hQ)
theorem step_non (N : Non h x) {a b : Int} {Q : Int × Int × Int × Int × Int → HProp} (hQ : Q (0, 0, 0, 0, 1) h) : table_Table_Step (x, a, b) Q h := by
  unfold table_Table_Step
  exact N _ (ite_t rfl hQ)
theorem wait_non (N : Non h x) {Q : Sl → HProp} (hQ : Q (Sl.mk none 0 0) h) : table_Table_Waiting x Q h := by
  unfold table_Table_Waiting
  exact N _ (ite_t rfl hQ)
theorem used_non (N : Non h x) {Q : Int → HProp} (hQ : Q 0 h) : table_Table_Used x Q h := by
  unfold table_Table_Used
  exact N _ (ite_t rfl hQ)
end
end Go.Cz.S

namespace Go.Cz.S
set_option maxRecDepth 100000
set_option maxHeartbeats 1000000
set_option linter.unusedSimpArgs false
set_option linter.unusedVariables false

/-! ## the document's list of edges -/
theorem less_spec {x y : Int × Int} {h : H} {Q : Bool → HProp} (hQ : Q (ltP x y) h) : ref08_Less (x.1, x.2, y.1, y.2) Q h := by
  unfold ref08_Less
  simp only [ltI_eq, eqI_eq]
  refine with_u (ite_i (fun h1 => ?_) fun h1 => ite_i (fun h2 => ?_) fun h2 => ?_)
  · have : ltP x y = true := ltP_iff'.2 (.inl (by simpa using h1))
    rw [this] at hQ; exact hQ
  · have h1 : ¬ x.1 < y.1 := by simpa using h1
    have h2 : x.1 = y.1 := by simpa using h2
    have : ltP x y = decide (x.2 < y.2) := by
      unfold ltP
      congr 1
      apply propext
      omega
    rw [this] at hQ; exact hQ
  · have h1 : ¬ x.1 < y.1 := by simpa using h1
    have h2 : ¬ x.1 = y.1 := by simpa using h2
    have : ltP x y = false := by
      rw [Bool.eq_false_iff]
      intro h
      rw [ltP_iff'] at h; omega
    rw [this] at hQ; exact hQ
theorem lt_trans' {a b c : Int × Int} (h1 : ltP a b = true) (h2 : ltP b c = true) : ltP a c = true := by rw [ltP_iff'] at *; omega
theorem lt_irr (a : Int × Int) : ltP a a ≠ true := by rw [Ne, ltP_iff']; omega
theorem lt_tri {a b : Int × Int} (h1 : ltP a b ≠ true) (h2 : b ≠ a) : ltP b a = true := by
  rw [Ne, ltP_iff'] at h1
  rw [ltP_iff']
  have : ¬ (b.1 = a.1 ∧ b.2 = a.2) := fun h => h2 (Prod.ext h.1 h.2)
  omega
theorem rising_split {M : List (Int × Int)} (h : Rising M) {e : Int × Int} {p : Nat} (hp : p ≤ M.length) (h1 : ∀ j, (hj : j < p) → ltP (M[j]'(by omega)) e = true) (h2 : ∀ j, p ≤ j → (hj : j < M.length) → ltP e M[j] = true) : Rising (M.take p ++ [e] ++ M.drop p) := by
  unfold Rising at *
  rw [List.pairwise_append, List.pairwise_append]
  refine ⟨⟨List.Pairwise.sublist (List.take_sublist _ _) h, List.pairwise_singleton _ _, fun a ha b hb => ?_⟩, List.Pairwise.sublist (List.drop_sublist _ _) h, fun a ha b hb => ?_⟩
  · rw [List.mem_singleton.1 hb]
    obtain ⟨j, hj, rfl⟩ := List.getElem_of_mem ha
    rw [List.getElem_take]
    exact h1 j (by simp at hj; omega)
  · obtain ⟨j, hj, rfl⟩ := List.getElem_of_mem hb
    rw [List.length_drop] at hj
    rw [List.getElem_drop]
    have hej := h2 (p + j) (by omega) (by omega)
    rcases List.mem_append.1 ha with ha | ha
    · obtain ⟨i, hi, rfl⟩ := List.getElem_of_mem ha
      rw [List.length_take] at hi
      rw [List.getElem_take]
      exact lt_trans' (h1 i (by omega)) hej
    · rw [List.mem_singleton.1 ha]; exact hej
theorem put_spec {v : Sl} {M : List (Int × Int)} {e : Int × Int} {h : H} (A : Arr h v eP M) (R : Rising M) (hl : M.length ≤ 1000) {Q : Sl → HProp}
    (hQ : ∀ u M' h', Arr h' u eP M' → Ext h h' → Rising M' → M'.length ≤ M.length + 1 → ((∀ m ∈ M, ltP m e = true) → M' = M ++ [e]) → (∀ m ∈ M', m ∈ M ∨ m = e) → Q u h') : ref08_put (v, e.1, e.2, true) Q h := by
  unfold ref08_put
  simp only [A.len, ltI_eq]
  refine loop_i (fun (s : Int) h' => h' = h ∧ ∃ p : Nat, s = p ∧ p ≤ M.length ∧ ∀ j, p ≤ j → (hj : j < M.length) → ltP e M[j] = true) (fun s => s.toNat) ⟨rfl, M.length, rfl, Nat.le_refl _, fun j h1 h2 => by omega⟩ ?_
  rintro s h' ⟨rfl, p, rfl, hp, hgt⟩ k hk
  -- what is done where the place is found
  have found : (0 < p → ∀ hp' : p - 1 < M.length, ltP e M[p - 1] ≠ true) → withK
            (fun (t_2 : Bool) =>
              iteW t_2 (Q v)
                (sliceW v 2 0 (p : Int) fun (u : Sl) =>
                  rowW u 2 fun (l : List Value) =>
                    appendW (Sl.mk none 0 0) [Value.int IntKind.i64 0, Value.int IntKind.i64 0] 16 u.len l
                      fun (u : Sl) =>
                      appendW u [Value.int IntKind.i64 0, Value.int IntKind.i64 0] 16 1
                        [Value.int IntKind.i64 e.1, Value.int IntKind.i64 e.2] fun (u : Sl) =>
                        sliceW v 2 (p : Int) (M.length : Int) fun (u_1 : Sl) =>
                          rowW u_1 2 fun (l : List Value) =>
                            appendW u [Value.int IntKind.i64 0, Value.int IntKind.i64 0] 16 u_1.len l Q))
            (fun (k : Bool → HProp) =>
            iteW true
              (iteW (decide (0 < (p : Int)))
                (indexW (sub IntKind.i64 (p : Int) 1) v 2 fun (a : Addr) =>
                  loadI IntKind.i64 (a.add 0) fun (x : Int) =>
                    loadI IntKind.i64 (a.add 1) fun (x_1 : Int) => k (eqPairs [(x, e.1), (x_1, e.2)]))
                (k false))
              (k false)) h' := by
    intro hnl
    refine with_b (decide (∃ hp' : p - 1 < M.length, 0 < p ∧ M[p - 1] = e)) (fun kk hkk => ite_t rfl (ite_i (fun h0 => ?_) fun h0 => ?_)) (ite_i (fun hb => ?_) fun hb => ?_)
    · have h0 : 0 < p := by have : (0 : Int) < p := (by simpa using h0); omega
      rw [show sub .i64 (p : Int) 1 = ((p - 1 : Nat) : Int) by rw [sub_i64 (by omega) (by omega)]; omega]
      refine A.pair (by omega) ?_
      rw [eqPairs2]
      have : decide ((M[p - 1].1, M[p - 1].2) = (e.1, e.2)) = decide (∃ hp' : p - 1 < M.length, 0 < p ∧ M[p - 1] = e) := by
        congr 1
        apply propext
        exact ⟨fun h => ⟨by omega, h0, h⟩, fun ⟨_, _, h⟩ => h⟩
      rw [this]; exact hkk
    · have h0 : ¬ (0 < p) := by have : ¬ ((0 : Int) < p) := (by simpa using h0); omega
      have : decide (∃ hp' : p - 1 < M.length, 0 < p ∧ M[p - 1] = e) = false := decide_eq_false fun ⟨_, h, _⟩ => h0 h
      rw [this] at hkk; exact hkk
    · obtain ⟨q1, q2, q3⟩ := of_decide_eq_true hb
      refine hQ v M h' A (Ext.refl _) R (by omega) (fun hall => ?_) fun m hm => .inl hm
      have := hall _ (List.getElem_mem q1)
      rw [q3] at this
      exact absurd this (lt_irr e)
    · have hb := of_decide_eq_false hb
      refine A.slice (w := 2) rfl (Int.le_refl _) (by omega) (by omega) fun u1 A1 _ hu1 _ => A1.row (w := 2) rfl ?_
      have e1 : (M.drop (0 : Int).toNat).take ((p : Int).toNat - (0 : Int).toNat) = M.take p := by simp
      rw [e1] at A1 ⊢
      have hul : u1.len = (M.take p).length := A1.len
      rw [hul]
      have N0 : Vec h' ⟨none, 0, 0⟩ eP [] := Vec.nil0
      refine N0.append_new (Ext.refl h') New.nil0 (m := M.take p) rfl rfl rfl (by simp; omega) fun u2 h2 V2 E2 N2 _ _ => ?_
      refine V2.append_new E2 N2 (m := [e]) rfl rfl rfl (by simp; omega) fun u3 h3 V3 E3 N3 _ _ => ?_
      have A3 := A.ext E3
      refine A3.slice (w := 2) rfl (by omega) (by omega) (Int.le_refl _) fun u4 A4 _ hu4 _ => A4.row (w := 2) rfl ?_
      have e4 : (M.drop (p : Int).toNat).take ((M.length : Int).toNat - (p : Int).toNat) = M.drop p := by
        simp only [Int.toNat_natCast]; exact List.take_of_length_le (by simp)
      rw [e4] at A4 ⊢
      have hul4 : u4.len = (M.drop p).length := A4.len
      rw [hul4]
      refine V3.append_new E3 N3 (m := M.drop p) rfl rfl rfl (by simp; omega) fun u5 h5 V5 E5 N5 _ _ => ?_
      have hlow : ∀ j, (hj : j < p) → ltP (M[j]'(by omega)) e = true := fun j hj => by
        have h1 := hnl (by omega) (by omega)
        have h2 : M[p - 1]'(by omega) ≠ e := fun h => hb ⟨by omega, by omega, h⟩
        have h3 := lt_tri h1 h2
        by_cases hjp : j = p - 1
        · subst hjp; exact h3
        · exact lt_trans' ((List.pairwise_iff_getElem.1 R) j (p - 1) (by omega) (by omega) (by omega)) h3
      refine hQ u5 (M.take p ++ [e] ++ M.drop p) h5 (by simpa using V5.arr) E5 (rising_split R hp hlow hgt) (by simp; omega) (fun hall => ?_) fun m hm => ?_
      · have : p = M.length := by
          by_cases hpl : p < M.length
          · have h1 := hgt p (Nat.le_refl _) hpl
            have h2 := hall _ (List.getElem_mem hpl)
            exact absurd (lt_trans' h1 h2) (lt_irr e)
          · omega
        subst this
        simp
      · rcases List.mem_append.1 hm with hm | hm
        · rcases List.mem_append.1 hm with hm | hm
          · exact .inl (List.mem_of_mem_take hm)
          · exact .inr (List.mem_singleton.1 hm)
        · exact .inl (List.mem_of_mem_drop hm)
  refine with_u (ite_i (fun h0 => ?_) fun h0 => ?_)
  · have h0 : 0 < p := by have : (0 : Int) < p := (by simpa using h0); omega
    have ep : sub .i64 (p : Int) 1 = ((p - 1 : Nat) : Int) := by rw [sub_i64 (by omega) (by omega)]; omega
    rw [ep]
    refine A.pair (by omega) (less_spec (x := e) (ite_i (fun hlt => ?_) fun hge => ?_))
    · refine hk _ _ ⟨rfl, p - 1, rfl, by omega, fun j h1 h2 => ?_⟩ (by omega)
      by_cases hj : j = p - 1
      · subst hj; exact hlt
      · exact hgt j (by omega) h2
    · have := found fun _ hp' => by rw [hge]; decide
      rw [ep] at this
      exact this
  · have h0 : ¬ (0 < p) := by have : ¬ ((0 : Int) < p) := (by simpa using h0); omega
    refine ite_f rfl ?_
    exact found fun h => absurd h h0
theorem refnormal_spec {n : Int} {v : Sl} {L : List (Int × Int)} {h : H} (A : Arr h v eP L) (hL : L.length ≤ 900) {Q : Sl × Int → HProp}
    (hbad : badG n L = true → ∀ h', Ext h h' → Q (Sl.mk none 0 0, 2) h')
    (hgood : badG n L = false → ∀ u M h', Arr h' u eP M → Ext h h' → (Rising L → M = L) → Rising M → M.length ≤ L.length → (∀ m ∈ M, m ∈ L) → Q (u, 0) h') : ref08_Normal (n, v) Q h := by
  unfold ref08_Normal
  simp only [A.len, ltI_eq, eqI_eq, leI_eq]
  refine with_b (!(decide (1 ≤ n) && decide (n ≤ 256))) (fun k hk => ?_) ?_
  · refine ite_i (fun h1 => ?_) fun h1 => ?_
    · have h1 : n < 1 := by simpa using h1
      rw [decide_eq_false (show ¬ (1 ≤ n) by omega)] at hk
      exact hk
    · have h1 : ¬ n < 1 := by simpa using h1
      rw [decide_eq_true (show 1 ≤ n by omega), Bool.true_and] at hk
      have : (!decide (n ≤ 256)) = decide (256 < n) := by
        by_cases h : n ≤ 256 <;> simp [h] <;> omega
      rw [this] at hk; exact hk
  · refine ite_i (fun hb => hbad (by unfold badG; rw [hb]; rfl) h (Ext.refl h)) fun hb => ?_
    have hbG : badG n L = L.any (badE n) := by unfold badG; rw [hb]; rfl
    refine loop_i (fun (s : Sl × Int) h' => ∃ (i : Nat) (M : List (Int × Int)), s.2 = i ∧ i ≤ L.length ∧ Arr h' s.1 eP M ∧ Ext h h' ∧ Rising M ∧ M.length ≤ i ∧ (∀ j, (hj : j < i) → ∀ hl : j < L.length, badE n L[j] = false) ∧ (Rising L → M = L.take i) ∧ (∀ m ∈ M, m ∈ L)) (fun s => ((L.length : Int) - s.2).toNat)
      ⟨0, [], rfl, Nat.zero_le _, Vec.nil0.arr, Ext.refl h, List.Pairwise.nil, Nat.le_refl _, fun j hj => by omega, fun _ => by simp, by simp⟩ ?_
    rintro ⟨u, i⟩ h' ⟨i, M, rfl, hi, U, E, R, hM, hgd, hsame, hmem⟩ k hk
    simp only at *
    refine ite_i (fun hlt => ?_) fun hge => ?_
    · have hlt : i < L.length := by simpa using hlt
      refine (A.ext E).pair hlt ?_
      have eb : badE n L[i] = (decide (L[i].1 < 0) || (decide (n ≤ L[i].1) || (decide (L[i].2 < 0) || (decide (n ≤ L[i].2) || decide (L[i].1 = L[i].2))))) := by
        unfold badE
        by_cases h1 : L[i].1 < 0 <;> by_cases h2 : n ≤ L[i].1 <;> by_cases h3 : L[i].2 < 0 <;> by_cases h4 : n ≤ L[i].2 <;> simp [h1, h2, h3, h4] <;> omega
      refine with_b (badE n L[i]) (fun kk hkk => ?_) (ite_i (fun hbe => ?_) fun hbe => ?_)
      · rw [eb] at hkk
        refine ite_i (fun h1 => ?_) fun h1 => ite_i (fun h2 => ?_) fun h2 => ite_i (fun h3 => ?_) fun h3 => ite_i (fun h4 => ?_) fun h4 => ?_
        · rw [h1] at hkk; exact hkk
        · rw [h1, h2] at hkk; exact hkk
        · rw [h1, h2, h3] at hkk; exact hkk
        · rw [h1, h2, h3, h4] at hkk; exact hkk
        · rw [h1, h2, h3, h4] at hkk; exact hkk
      · exact hbad (by rw [hbG]; exact List.any_eq_true.2 ⟨_, List.getElem_mem hlt, hbe⟩) h' E
      · refine put_spec (e := L[i]) U R (by omega) fun u' M' h2 U2 E2 R2 hl2 happ hm2 => ?_
        rw [add_i64 (by omega) (by omega)]
        refine hk _ _ ⟨i + 1, M', by simp, by omega, U2, E.trans E2, R2, by omega, fun j hj hl => ?_, fun hR => ?_, fun m hm => (hm2 m hm).elim (hmem m) fun e => e ▸ List.getElem_mem hlt⟩ (by simp; omega)
        · by_cases e : j = i
          · subst e; exact hbe
          · exact hgd j (by omega) hl
        · have hMi := hsame hR
          rw [happ fun m hm => ?_, hMi, List.take_add_one, List.getElem?_eq_getElem hlt]; rfl
          rw [hMi] at hm
          obtain ⟨j, hj, rfl⟩ := List.getElem_of_mem hm
          rw [List.length_take] at hj
          rw [List.getElem_take]
          exact (List.pairwise_iff_getElem.1 hR) j i (by omega) hlt (by omega)
    · have hi : i = L.length := by have : ¬ (i < L.length) := (by simpa using hge); omega
      subst hi
      refine ite_f (by rw [U.len]; simp; omega) ?_
      refine hgood ?_ u M h' U E (fun hR => by rw [hsame hR, List.take_length]) R hM hmem
      rw [hbG, Bool.eq_false_iff]
      intro h
      obtain ⟨x, hx, hpx⟩ := List.any_eq_true.1 h
      obtain ⟨j, hj, rfl⟩ := List.getElem_of_mem hx
      rw [hgd j hj hj] at hpx; cases hpx
end Go.Cz.S

namespace Go.Cz.S
set_option maxRecDepth 100000
set_option maxHeartbeats 1000000
set_option linter.unusedSimpArgs false
set_option linter.unusedVariables false

theorem same_spec {a b : Sl} {L M : List (Int × Int)} {h : H} (A : Arr h a eP L) (B : Arr h b eP M) (hL : L.length ≤ 1000000) {Q : Bool → HProp} (hQ : Q (decide (L = M)) h) : ref16_same (a, b) Q h := by
  unfold ref16_same
  simp only [A.len, B.len, ltI_eq, eqI_eq]
  refine ite_i (fun hne => ?_) fun heq => ?_
  · have : ¬ (L = M) := fun e => by subst e; simp at hne
    rw [decide_eq_false this] at hQ; exact hQ
  · have heq : L.length = M.length := by have : (L.length : Int) = M.length := (by simpa using heq); omega
    refine loop_i (fun (s : Int) h' => h' = h ∧ ∃ i : Nat, s = i ∧ i ≤ L.length ∧ ∀ j, (hj : j < i) → ∀ hl : j < L.length, ∀ hm : j < M.length, L[j] = M[j]) (fun s => ((L.length : Int) - s).toNat) ⟨rfl, 0, rfl, Nat.zero_le _, fun j hj => by omega⟩ ?_
    rintro s h' ⟨rfl, i, rfl, hi, hp⟩ k hk
    refine ite_i (fun hlt => ?_) fun hge => ?_
    · have hlt : i < L.length := by simpa using hlt
      refine A.pair hlt (B.pair (by omega) ?_)
      rw [eqPairs2]
      refine ite_i (fun hne => ?_) fun he => ?_
      · have hne : ¬ (L[i] = M[i]) := by
          rw [Bool.not_eq_true'] at hne
          exact of_decide_eq_false hne
        have : ¬ (L = M) := fun e => by subst e; exact hne rfl
        rw [decide_eq_false this] at hQ; exact hQ
      · have he : L[i] = M[i] := by
          rw [Bool.not_eq_false'] at he
          exact of_decide_eq_true he
        rw [add_i64 (by omega) (by omega)]
        refine hk _ _ ⟨rfl, i + 1, by simp, by omega, fun j hj hl hm => ?_⟩ (by omega)
        by_cases e : j = i
        · subst e; exact he
        · exact hp j (by omega) hl hm
    · have hi : i = L.length := by have : ¬ (i < L.length) := (by simpa using hge); omega
      have : L = M := List.ext_getElem heq fun j h1 h2 => hp j (by omega) h1 h2
      rw [decide_eq_true this] at hQ; exact hQ
theorem refcheck3 {n : Int} (n0 : 1 ≤ n) (n1 : n ≤ 256) {h : H} {Q : Int → HProp} (hQ : Q 0 h) : ref16_Check (3, 0, 0, 0, n) Q h := by
  unfold ref16_Check
  simp only [eqI_eq, ltI_eq]
  refine with_u (ite_f rfl (ite_f rfl (ite_t rfl (with_u ?_))))
  refine ite_f (by simp; omega) (ite_f (by simp; omega) (ite_f rfl (ite_f rfl (ite_f rfl (ite_f rfl hQ)))))
theorem refuses_spec {n : Int} {v : Sl} {L : List (Int × Int)} {h : H} (A : Arr h v eP L) (hL : L.length ≤ 900) {Q : Int → HProp}
    (hno : ¬ Valid n L → ∀ h', Ext h h' → Q 2 h') (hyes : Valid n L → ∀ h', Ext h h' → Q 0 h') : ref16_Refuses (n, v, 3, 0, 0, 0) Q h := by
  unfold ref16_Refuses
  simp only [eqI_eq]
  refine refnormal_spec A hL (fun hb h1 e1 => ?_) fun hb u M h1 U e1 hR1 hR hM _ => ?_
  · exact ite_t rfl (hno (fun hv => by rw [hv.1] at hb; cases hb) h1 e1)
  · refine ite_f rfl (same_spec (A.ext e1) U (by omega) (ite_i (fun hne => ?_) fun heq => ?_))
    · have hne : ¬ (L = M) := by
        rw [Bool.not_eq_true'] at hne
        exact of_decide_eq_false hne
      exact hno (fun hv => hne (hR1 hv.2).symm) h1 e1
    · have heq : L = M := by
        rw [Bool.not_eq_false'] at heq
        exact of_decide_eq_true heq
      have hv : Valid n L := ⟨hb, by rw [heq]; exact hR⟩
      exact refcheck3 hv.n.1 hv.n.2 (hyes hv h1 e1)
theorem refcut_spec {n k : Int} {h : H} {Q : Sl × Int → HProp} (hno : cutOk n k = false → Q (Sl.mk none 0 0, 2) h) (hyes : cutOk n k = true → ∀ v h', Ext h h' → Q (v, 0) h') : ref09_Cut (n, k) Q h := by
  unfold ref09_Cut
  simp only [ltI_eq]
  refine with_b (!cutOk n k) (fun kk hk => ?_) ?_
  · have e : (!cutOk n k) = (decide (n < 1) || (decide (256 < n) || (decide (k < 1) || (decide (n < k) || decide (16 < k))))) := by
      unfold cutOk
      by_cases h1 : n < 1 <;> by_cases h2 : 256 < n <;> by_cases h3 : k < 1 <;> by_cases h4 : n < k <;> by_cases h5 : 16 < k <;> simp [h1, h2, h3, h4, h5] <;> omega
    rw [e] at hk
    refine ite_i (fun h1 => ?_) fun h1 => ite_i (fun h2 => ?_) fun h2 => ite_i (fun h3 => ?_) fun h3 => ite_i (fun h4 => ?_) fun h4 => ?_
    · rw [h1] at hk; exact hk
    · rw [h1, h2] at hk; exact hk
    · rw [h1, h2, h3] at hk; exact hk
    · rw [h1, h2, h3, h4] at hk; exact hk
    · rw [h1, h2, h3, h4] at hk; exact hk
  · refine ite_i (fun hc => hno (by simpa using hc)) fun hc => ?_
    have hc : cutOk n k = true := by simpa using hc
    have hc' := hc
    unfold cutOk at hc'
    simp at hc'
    obtain ⟨k', rfl⟩ : ∃ k' : Nat, k = k' := ⟨k.toNat, by omega⟩
    refine loop_i (fun (s : Sl × Int) h' => ∃ (j : Nat) (l : List (Int × Int)), s.2 = j ∧ j ≤ k' ∧ l.length = j ∧ Vec h' s.1 eP l ∧ New h s.1 ∧ Ext h h') (fun s => ((k' : Int) - s.2).toNat) ⟨0, [], rfl, Nat.zero_le _, rfl, Vec.nil0, New.nil0, Ext.refl h⟩ ?_
    rintro ⟨v, j⟩ h' ⟨j, l, rfl, hj, hll, V, N, E⟩ kk hk
    simp only at *
    refine ite_i (fun hlt => ?_) fun hge => hyes hc v h' E
    have hlt : j < k' := by simpa using hlt
    refine must_i (by omega) (must_i (by omega) ?_)
    refine V.append_new E N (m := [(_, _)]) rfl rfl rfl (by omega) fun u h2 V2 E2 N2 _ _ => ?_
    rw [show add .i64 (j : Int) 1 = (j : Int) + 1 from add_i64 (by omega) (by omega)]
    exact hk _ _ ⟨j + 1, _, by simp, by omega, by simp [hll], V2, N2, E2⟩ (by simp; omega)
theorem refnew_spec {n : Int} {v : Sl} {L : List (Int × Int)} {k tot : Int} {h : H} (A : Arr h v eP L) (hL : L.length ≤ 900) {Q : Option Addr × Int → HProp}
    (hno : ¬ newOk n L k tot → ∀ h', Ext h h' → Q (none, 2) h') (hyes : newOk n L k tot → ∀ b h', Ext h h' → Q (some (at0 b), 0) h') : ref28_New (n, v, k, tot) Q h := by
  unfold ref28_New
  simp only [eqI_eq, ltI_eq]
  refine refuses_spec A hL (fun hx h1 E1 => ?_) fun hv h1 E1 => ?_
  · exact ite_t rfl (hno (fun hy => hx hy.1) h1 E1)
  · refine ite_f rfl (refcut_spec (fun hc => ?_) fun hc u h2 E2 => ?_)
    · exact ite_t rfl (hno (fun hy => by rw [hy.2.1] at hc; cases hc) h1 E1)
    · refine ite_f rfl ?_
      have E12 := E1.trans E2
      refine with_b (!decide (1 ≤ tot ∧ tot ≤ 1099511627776)) (fun k hk => ?_) ?_
      · refine ite_i (fun h1 => ?_) fun h1 => ?_
        · have h1 : tot < 1 := by simpa using h1
          rw [decide_eq_false (show ¬ (1 ≤ tot ∧ tot ≤ 1099511627776) by omega)] at hk
          exact hk
        · have h1 : ¬ tot < 1 := by simpa using h1
          have e : (!decide (1 ≤ tot ∧ tot ≤ 1099511627776)) = decide (1099511627776 < tot) := by
            by_cases h2 : tot ≤ 1099511627776
            · rw [decide_eq_true (show 1 ≤ tot ∧ tot ≤ 1099511627776 from ⟨by omega, h2⟩), decide_eq_false (show ¬ (1099511627776 < tot) by omega)]; rfl
            · rw [decide_eq_false (show ¬ (1 ≤ tot ∧ tot ≤ 1099511627776) by omega), decide_eq_true (show 1099511627776 < tot by omega)]; rfl
          rw [e] at hk
          exact hk
      · refine ite_i (fun ht => hno (fun hy => by rw [decide_eq_true hy.2.2] at ht; cases ht) h2 E12) fun ht => ?_
        have ht : 1 ≤ tot ∧ tot ≤ 1099511627776 := by simpa using ht
        refine Obj.new fun b0 h3 o3 n3 e3 => ?_
        refine ((A.ext E12).ext e3).row (w := 2) rfl ?_
        simp only [A.len]
        have V0 : Vec h3 ⟨some ⟨b0, 0, none⟩, 0, 0⟩ eP [] := ⟨rfl, Nat.le_refl _, (fun e => by cases e), fun a ha => by
          cases ha
          exact ⟨rfl, [], o3, by simp, by simp [Enc.all]⟩⟩
        refine V0.append_new e3 (fun x hx => by obtain ⟨a, ha, rfl⟩ := hx; cases ha; exact n3) (m := L) rfl rfl rfl (by simp; omega) fun u h4 V4 E4 N4 _ _ => ?_
        exact Obj.new fun b5 h5 o5 n5 e5 => hyes ⟨hv, hc, ht⟩ b5 h5 ((E12.trans E4).trans e5)
end Go.Cz.S

namespace Go.Cz.S
set_option maxRecDepth 100000
set_option maxHeartbeats 1000000
set_option linter.unusedSimpArgs false
set_option linter.unusedVariables false

/-! ## What has ended stays so: the model -/
/-- an entry as it may be: fewer than r rounds -/
structure EOk (n : Int) (r : Nat) (e : Ent) : Prop where
  st : 1 ≤ e.state ∧ e.state ≤ 5
  cd : e.code ≠ 0 ↔ e.state = 5
  ok : okReq e.kind e.arg e.prio n = true
  rd : 0 ≤ e.round ∧ e.round ≤ r
  at_ : e.att = true → e.state = 2
  ex : e.exp = true → e.state = 2
def RelT (e f : Ent) : Prop := (2 < e.state → f.state = e.state ∧ f.code = e.code) ∧ e.state ≤ f.state ∧ f.round = e.round
def Rel (e f : Ent) : Prop := (2 < e.state → f.state = e.state ∧ f.code = e.code ∧ f.round = e.round) ∧ e.state ≤ f.state ∧ e.round ≤ f.round ∧ f.round ≤ e.round + 1
theorem RelT.refl (e : Ent) : RelT e e := ⟨fun _ => ⟨rfl, rfl⟩, Int.le_refl _, rfl⟩
theorem RelT.trans {a b c : Ent} (h : RelT a b) (g : RelT b c) : RelT a c := by
  obtain ⟨h1, h2, h3⟩ := h
  obtain ⟨g1, g2, g3⟩ := g
  refine ⟨fun ha => ?_, by omega, by omega⟩
  obtain ⟨x, y⟩ := h1 ha
  obtain ⟨u, v⟩ := g1 (by omega)
  exact ⟨by omega, by omega⟩
theorem RelT.rel {a b : Ent} (h : RelT a b) : Rel a b := ⟨fun ha => ⟨(h.1 ha).1, (h.1 ha).2, h.2.2⟩, h.2.1, by have := h.2.2; omega, by have := h.2.2; omega⟩
theorem Rel.refl (e : Ent) : Rel e e := (RelT.refl e).rel
def All2 (R : Ent → Ent → Prop) (l m : List Ent) : Prop := l.length = m.length ∧ ∀ (i : Nat) (e f : Ent), l[i]? = some e → m[i]? = some f → R e f
theorem All2.reflT (l : List Ent) : All2 RelT l l := ⟨rfl, fun i e f h1 h2 => by rw [h1] at h2; cases h2; exact RelT.refl e⟩
theorem All2.transT {l m k : List Ent} (h : All2 RelT l m) (g : All2 RelT m k) : All2 RelT l k := by
  refine ⟨h.1.trans g.1, fun i e f h1 h2 => ?_⟩
  have hi := (List.getElem?_eq_some_iff.1 h1).1
  have hm : m[i]? = some (m[i]'(by rw [← h.1]; exact hi)) := List.getElem?_eq_getElem _
  exact (h.2 i e _ h1 hm).trans (g.2 i _ f hm h2)
theorem All2.rel {l m : List Ent} (h : All2 RelT l m) : All2 Rel l m := ⟨h.1, fun i e f h1 h2 => (h.2 i e f h1 h2).rel⟩
def GoodL (n : Int) (r : Nat) (l : List Ent) : Prop := ∀ e ∈ l, EOk n r e
theorem EOk.mono {n : Int} {r s : Nat} {e : Ent} (h : EOk n r e) (hs : r ≤ s) : EOk n s e := ⟨h.st, h.cd, h.ok, ⟨h.rd.1, by have := h.rd.2; omega⟩, h.at_, h.ex⟩
theorem GoodL.mono {n : Int} {r s : Nat} {l : List Ent} (h : GoodL n r l) (hs : r ≤ s) : GoodL n s l := fun e he => (h e he).mono hs
section
variable {n : Int} {r s : Nat}
theorem set_good {R : Ent → Ent → Prop} (hR : ∀ e, R e e) {l : List Ent} {i : Nat} {e g : Ent} (G : GoodL n r l) (he : l[i]? = some e) (hg : EOk n r g) (hr : R e g) : GoodL n r (l.set i g) ∧ All2 R l (l.set i g) := by
  have hi := (List.getElem?_eq_some_iff.1 he).1
  refine ⟨fun x hx => ?_, by simp, fun j a b h1 h2 => ?_⟩
  · rcases List.mem_or_eq_of_mem_set hx with hx | rfl
    · exact G x hx
    · exact hg
  · by_cases e' : i = j
    · subst e'
      rw [he] at h1; cases h1
      rw [List.getElem?_set_self hi] at h2; cases h2
      exact hr
    · rw [List.getElem?_set_ne e'] at h2
      rw [h1] at h2; cases h2; exact hR a
/-- those of a list of numbers are turned, one by one -/
theorem fold_good {f : Ent → Ent} {P : Ent → Prop} (hf : ∀ e, EOk n r e → P e → EOk n r (f e) ∧ RelT e (f e) ∧ P (f e)) : ∀ (ids : List Int) (l : List Ent), GoodL n r l →
    (∀ x ∈ ids, ∃ (i : Nat) (e : Ent), x = ((i + 1 : Nat) : Int) ∧ l[i]? = some e ∧ P e) → GoodL n r (ids.foldl (upd f) l) ∧ All2 RelT l (ids.foldl (upd f) l)
  | [], l, G, _ => ⟨G, All2.reflT l⟩
  | x :: xs, l, G, hx => by
    obtain ⟨i, e, rfl, he, hp⟩ := hx x (List.mem_cons_self ..)
    have hi := (List.getElem?_eq_some_iff.1 he).1
    obtain ⟨a, b, c⟩ := hf e (G e (List.mem_of_getElem? he)) hp
    obtain ⟨G1, A1⟩ := set_good RelT.refl G he a b
    rw [List.foldl_cons, upd_at _ he]
    obtain ⟨G2, A2⟩ := fold_good hf xs (l.set i (f e)) G1 fun y hy => by
      obtain ⟨j, g, rfl, hg, hpg⟩ := hx y (List.mem_cons_of_mem _ hy)
      by_cases e' : i = j
      · subst e'; exact ⟨i, f e, rfl, List.getElem?_set_self hi, c⟩
      · exact ⟨j, g, rfl, by rw [List.getElem?_set_ne e']; exact hg, hpg⟩
    exact ⟨G2, A1.transT A2⟩
theorem tick1_good {l : List Ent} (G : GoodL n r l) : GoodL n r (tick1 l) ∧ All2 RelT l (tick1 l) := by
  refine fold_good (f := incE) (P := fun _ => True) (fun e h _ => ⟨⟨h.st, h.cd, h.ok, h.rd, h.at_, h.ex⟩, ⟨fun _ => ⟨rfl, rfl⟩, Int.le_refl _, rfl⟩, trivial⟩) _ _ G fun x hx => ?_
  obtain ⟨j, e, h1, _, h3, _⟩ := mem_ids hx
  exact ⟨j, e, h1, h3, trivial⟩
theorem admit_good {tot : Int} : ∀ (g : Nat) (l : List Ent), GoodL n r l → GoodL n r (admitN tot g l) ∧ All2 RelT l (admitN tot g l)
  | 0, l, G => ⟨G, All2.reflT l⟩
  | g + 1, l, G => by
    simp only [admitN]
    cases h : admit1 tot l with
    | none => exact ⟨G, All2.reflT l⟩
    | some l' =>
      have : GoodL n r l' ∧ All2 RelT l l' := by
        unfold admit1 at h
        split at h
        · split at h
          · cases h
          · rename_i hz
            split at h
            · cases h
            · cases h
              have hne : ids isQ l ≠ [] := by intro e; rw [e] at hz; exact hz rfl
              obtain ⟨j, e, hx, hj, he, hp⟩ := mem_ids (minF_mem (aheadC l) _ hne)
              rw [hx, upd_at _ he]
              have hs : e.state = 1 := of_decide_eq_true hp
              have E := G e (List.mem_of_getElem? he)
              have hc : ¬ (e.code ≠ 0) := fun h => by have := E.cd.1 h; omega
              refine set_good RelT.refl G he ⟨⟨by show (1 : Int) ≤ 2; decide, by show (2 : Int) ≤ 5; decide⟩, ?_, E.ok, E.rd, fun _ => rfl, fun _ => rfl⟩ ⟨fun h => by omega, by show e.state ≤ 2; omega, rfl⟩
              show e.code ≠ 0 ↔ (2 : Int) = 5
              exact ⟨fun h => absurd h hc, fun h => by cases h⟩
        · cases h
      obtain ⟨a, b⟩ := admit_good g l' this.1
      exact ⟨a, this.2.transT b⟩
theorem tick_good {c : Cfg} {pos fault : Int} {l : List Ent} (G : GoodL n r l) : GoodL n r (tickF c pos l fault).all ∧ All2 RelT l (tickF c pos l fault).all := by
  obtain ⟨G1, A1⟩ := tick1_good G
  obtain ⟨G2, A2⟩ := admit_good (tot := c.tot) (ids isQ (tick1 l)).length _ G1
  have hatt : ∀ x ∈ ids isA (admitF c.tot (tick1 l)), ∃ (i : Nat) (e : Ent), x = ((i + 1 : Nat) : Int) ∧ (admitF c.tot (tick1 l))[i]? = some e ∧ e.state = 2 := fun x hx => by
    obtain ⟨j, e, h1, _, h3, h4⟩ := mem_ids hx
    exact ⟨j, e, h1, h3, (G2 e (List.mem_of_getElem? h3)).at_ h4⟩
  unfold tickF
  simp only []
  split
  · exact ⟨G2, A1.transT A2⟩
  · split
    · rename_i hf
      obtain ⟨G3, A3⟩ := fold_good (f := endE 5 fault) (P := fun e => e.state = 2 ∨ e.state = 5 ∧ e.code = fault) (fun e h hp => ⟨⟨⟨by show (1 : Int) ≤ 5; decide, by show (5 : Int) ≤ 5; decide⟩, ⟨fun _ => rfl, fun _ => hf⟩, h.ok, h.rd, fun h => (by cases h), fun h => (by cases h)⟩,
          ⟨fun h2 => by rcases hp with hp | hp
                        · omega
                        · exact ⟨hp.1.symm, hp.2.symm⟩, h.st.2, rfl⟩, .inr ⟨rfl, rfl⟩⟩) (ids isA (admitF c.tot (tick1 l))) _ G2 fun x hx => by
        obtain ⟨i, e, h1, h2, h3⟩ := hatt x hx
        exact ⟨i, e, h1, h2, .inl h3⟩
      exact ⟨G3, (A1.transT A2).transT A3⟩
    · obtain ⟨G3, A3⟩ := fold_good (f := expE) (P := fun e => e.state = 2) (fun e h hp => ⟨⟨h.st, h.cd, h.ok, h.rd, h.at_, fun _ => hp⟩, ⟨fun _ => ⟨rfl, rfl⟩, Int.le_refl _, rfl⟩, hp⟩) (ids isA (admitF c.tot (tick1 l))) _ G2 hatt
      exact ⟨G3, (A1.transT A2).transT A3⟩
theorem serve_good {k fault : Int} {e : Ent} (h : EOk n r e) (hr : r ≤ 100000) (hs : e.state = 2) : EOk n (r + 1) (serveE k fault e) ∧ Rel e (serveE k fault e) := by
  have hc : ¬ (e.code ≠ 0) := fun h' => by have := h.cd.1 h'; omega
  obtain ⟨r0, r1⟩ := h.rd
  unfold serveE
  by_cases hf : fault ≠ 0
  · rw [if_pos hf]
    exact ⟨⟨⟨by show (1 : Int) ≤ 5; decide, by show (5 : Int) ≤ 5; decide⟩, ⟨fun _ => rfl, fun _ => hf⟩, h.ok, ⟨r0, by show e.round ≤ _; omega⟩, fun h => (by cases h), fun h => (by cases h)⟩, ⟨fun h2 => by omega, by show e.state ≤ 5; omega, Int.le_refl _, by show e.round ≤ _; omega⟩⟩
  · rw [if_neg hf]
    split
    · exact ⟨⟨h.st, h.cd, h.ok, ⟨r0, by show e.round ≤ _; omega⟩, h.at_, fun h => (by cases h)⟩, ⟨fun h2 => by omega, Int.le_refl _, Int.le_refl _, by show e.round ≤ e.round + 1; omega⟩⟩
    · split
      · refine ⟨⟨⟨by show (1 : Int) ≤ 3; decide, by show (3 : Int) ≤ 5; decide⟩, ⟨fun h => absurd rfl h, fun h => by cases h⟩, h.ok, ⟨r0, by show e.round ≤ _; omega⟩, fun h => (by cases h), fun h => (by cases h)⟩, ⟨fun h2 => by omega, by show e.state ≤ 3; omega, Int.le_refl _, by show e.round ≤ _; omega⟩⟩
      · have er : add .i64 e.round 1 = e.round + 1 := add_i64 (by omega) (by omega)
        rw [er]
        exact ⟨⟨h.st, h.cd, h.ok, ⟨by show 0 ≤ e.round + 1; omega, by show e.round + 1 ≤ _; omega⟩, h.at_, fun h => (by cases h)⟩, ⟨fun h2 => by omega, Int.le_refl _, by show e.round ≤ e.round + 1; omega, Int.le_refl _⟩⟩
theorem step_good {c : Cfg} {pos pk fault : Int} {l : List Ent} (G : GoodL n r l) (hr : r ≤ 100000) : GoodL n (r + 1) (stepF c pos l pk fault).all ∧ All2 Rel l (stepF c pos l pk fault).all := by
  unfold stepF
  split
  · obtain ⟨a, b⟩ := tick_good (c := c) (pos := pos) (fault := fault) G
    exact ⟨a.mono (by omega), b.rel⟩
  · split
    · exact ⟨G.mono (by omega), (All2.reflT l).rel⟩
    · cases hq : (ids isX l)[pk.toNat]? with
      | none => exact ⟨G.mono (by omega), (All2.reflT l).rel⟩
      | some id =>
        obtain ⟨j, e, hx, hj, he, hp⟩ := mem_ids (List.mem_of_getElem? hq)
        simp only [hx]
        rw [upd_at _ he]
        have E := G e (List.mem_of_getElem? he)
        obtain ⟨a, b⟩ := serve_good (k := c.k) (fault := fault) E hr (E.ex hp)
        exact set_good Rel.refl (G.mono (by omega)) he a b
theorem cancel_good {l : List Ent} {id : Int} (G : GoodL n r l) : GoodL n (r + 1) (cancelF l id).2 ∧ All2 Rel l (cancelF l id).2 := by
  unfold cancelF getE
  split
  · rename_i e he
    split at he
    · cases he
    · split
      · exact ⟨G.mono (by omega), (All2.reflT l).rel⟩
      · rename_i hns
        have E := G e (List.mem_of_getElem? he)
        have hs : e.state = 1 ∨ e.state = 2 := by omega
        obtain ⟨a, b⟩ := set_good (g := endE 4 0 e) RelT.refl G he ⟨⟨by show (1 : Int) ≤ 4; decide, by show (4 : Int) ≤ 5; decide⟩, ⟨fun h => absurd rfl h, fun h => by cases h⟩, E.ok, E.rd, fun h => (by cases h), fun h => (by cases h)⟩ ⟨fun h2 => by omega, by show e.state ≤ 4; omega, rfl⟩
        exact ⟨a.mono (by omega), b.rel⟩
  · exact ⟨G.mono (by omega), (All2.reflT l).rel⟩
end
end Go.Cz.S

namespace Go.Cz
set_option linter.unusedVariables false
/-- three whole numbers -/
def eT : Enc (Int × Int × Int) := ⟨3, fun x => [.int .i64 x.1, .int .i64 x.2.1, .int .i64 x.2.2], fun _ => rfl, fun n v hv => by simp at hv; rcases hv with rfl | rfl | rfl <;> trivial, by decide⟩
/-- two bytes -/
def eU2 : Enc (Int × Int) := ⟨2, fun x => [.int .u8 x.1, .int .u8 x.2], fun _ => rfl, fun n v hv => by simp at hv; rcases hv with rfl | rfl <;> trivial, by decide⟩
/-- an act -/
structure Deed where
  kind : Int
  n : Int
  a0 : Int
  a1 : Int
  a2 : Int
  a3 : Int
  r0 : Int
  r1 : Int
  r2 : Int
  r3 : Int
  odd : Bool
def Deed.cells (e : Deed) : List Value := [.int .u8 e.kind, .int .i64 e.n, .int .u8 e.a0, .int .u8 e.a1, .int .u8 e.a2, .int .u16 e.a3, .int .i64 e.r0, .int .i64 e.r1, .int .i64 e.r2, .int .i64 e.r3, .bool e.odd]
def eD : Enc Deed := ⟨11, Deed.cells, fun _ => rfl, fun e v hv => by
  simp only [Deed.cells, List.mem_cons, List.not_mem_nil, or_false] at hv
  rcases hv with rfl | rfl | rfl | rfl | rfl | rfl | rfl | rfl | rfl | rfl | rfl <;> trivial, by decide⟩
section
variable {h : H} {v : Sl} {C : List (Int × Int × Int)} {i : Nat}
theorem Arr.w0 (A : Arr h v eT C) (hi : i < C.length) {K : Int → HProp} (hK : K C[i].1 h) : indexW (i : Int) v 3 (fun a => loadI IntKind.i64 (a.add 0) K) h :=
  A.index (by omega) (by omega) fun a ha => loadI_i (A.cell (E := eT) (i := i) (j := 0) (x := C[i]) (by simpa [eT] using ha) (List.getElem?_eq_getElem hi) rfl) hK
theorem Arr.w1 (A : Arr h v eT C) (hi : i < C.length) {K : Int → HProp} (hK : K C[i].2.1 h) : indexW (i : Int) v 3 (fun a => loadI IntKind.i64 (a.add 1) K) h :=
  A.index (by omega) (by omega) fun a ha => loadI_i (A.cell (E := eT) (i := i) (j := 1) (x := C[i]) (by simpa [eT] using ha) (List.getElem?_eq_getElem hi) rfl) hK
theorem Arr.w3 (A : Arr h v eT C) (hi : i < C.length) {K : Int → Int → Int → HProp} (hK : K C[i].1 C[i].2.1 C[i].2.2 h) : indexW (i : Int) v 3 (fun a => loadI IntKind.i64 (a.add 0) fun x => loadI IntKind.i64 (a.add 1) fun y => loadI IntKind.i64 (a.add 2) fun z => K x y z) h :=
  A.index (by omega) (by omega) fun a ha => loadI_i (A.cell (E := eT) (i := i) (j := 0) (x := C[i]) (by simpa [eT] using ha) (List.getElem?_eq_getElem hi) rfl)
    (loadI_i (A.cell (E := eT) (i := i) (j := 1) (x := C[i]) (by simpa [eT] using ha) (List.getElem?_eq_getElem hi) rfl) (loadI_i (A.cell (E := eT) (i := i) (j := 2) (x := C[i]) (by simpa [eT] using ha) (List.getElem?_eq_getElem hi) rfl) hK))
end
end Go.Cz
namespace Go.Cz.S
set_option maxRecDepth 100000
set_option maxHeartbeats 1000000
set_option linter.unusedSimpArgs false
set_option linter.unusedVariables false
theorem cnv_rem {n m : Int} (h0 : 0 ≤ n) (h1 : n ≤ 9223372036854775807) (hm : 0 < m) : rem (cnv IntKind.i64 n) m = n % m := by
  rw [cnv_i64 (by omega) (by omega), rem_nn h0]

theorem result_spec {h : H} {b : Nat} {lv av : Sl} {c : Cfg} {pos : Int} {all : List Ent} (T : Tab h b lv av c pos all) (hv : Valid c.n c.L) (hL : c.L.length ≤ 4096) (hl : all.length ≤ 1000000) {i : Nat} {e : Ent} (he : all[i]? = some e) (hok : okReq e.kind e.arg e.prio c.n = true)
    {Q : Sl × Int → HProp} (h3 : e.state = 3 → ∀ x h', (x.len : Int) = c.n → Ext h h' → Q (x, 0) h') (hw : e.state = 1 ∨ e.state = 2 → Q (Sl.mk none 0 0, 271) h) (hs : e.state ≠ 1 → e.state ≠ 2 → e.state ≠ 3 → Q (Sl.mk none 0 0, 272) h) :
    table_Table_Result (some (at0 b), ((i + 1 : Nat) : Int)) Q h := by
  have hi := (List.getElem?_eq_some_iff.1 he).1
  unfold table_Table_Result
  simp only [eqI_eq]
  refine find_spec T hv.n.1 hl (fun hx => by omega) fun j e' a hid hj he' ha => ?_
  have : j = i := by omega
  subst this
  rw [he] at he'; cases he'
  refine ite_f rfl (deref_i (loadI_i (T.cell (j := 4) ha he rfl) (ite_i (fun h1 => ?_) fun h1 => ?_)))
  · have h1 : e.state = 3 := by simpa using h1
    simp only [add0]
    refine deref_i (loadI_i (T.ob.ld (j := 0) rfl) (deref_i (loadL_i (v := lv) (T.ob.ld (j := 3) rfl) (deref_i ?_))))
    have c0 := T.cell (j := 0) ha he rfl
    rw [add0] at c0
    refine loadI_i c0 (loadI_i (T.cell (j := 1) ha he rfl) (loadI_i (T.cell (j := 2) ha he rfl) (loadI_i (T.cell (j := 3) ha he rfl) ?_)))
    unfold truth_Of
    refine run_spec T.al hL (fun hx => absurd ⟨hv, hok⟩ hx) fun _ _ r m h4 outL V4 hl4 _ E4 _ _ _ => ?_
    refine h3 h1 r h4 ?_ E4
    rw [V4.len, hl4]
    have := hv.n.1
    omega
  · have h1 : ¬ e.state = 3 := by simpa using h1
    refine with_u (ite_i (fun h2 => ite_t h2 (hw (.inl (by simpa using h2)))) fun h2 => ite_i (fun h4 => hw (.inr (by simpa using h4))) fun h4 => hs (by simpa using h2) (by simpa using h4) h1)
theorem made_spec {N : Int} {v : Sl} {L : List (Int × Int)} {h : H} (A : Arr h v eU2 L) (hL : L.length ≤ 200) (N0 : 0 ≤ N) (N1 : N ≤ 255) (hb : ∀ x ∈ L, 0 ≤ x.1 ∧ x.1 ≤ 255 ∧ 0 ≤ x.2 ∧ x.2 ≤ 255) {Q : Int × Sl → HProp}
    (hQ : ∀ n u M h', 1 ≤ n → n ≤ 60 → Arr h' u eP M → Ext h h' → Valid n M → M.length ≤ 200 → Q (n, u) h') : law16_Graph_Made (N, v) Q h := by
  unfold law16_Graph_Made
  simp only [ltI_eq, eqI_eq, leI_eq, A.len]
  rw [cnv_rem N0 (by omega) (by decide), add_i64 (by omega) (by omega)]
  obtain ⟨n, hn⟩ : ∃ n : Int, 1 + N % 60 = n := ⟨_, rfl⟩
  rw [hn]
  have n0 : 1 ≤ n := by omega
  have n1 : n ≤ 60 := by omega
  clear hn
  refine must_i (by decide) ?_
  refine loop_i (fun (s : Sl × Int) h' => ∃ (i : Nat) (M : List (Int × Int)), s.2 = i ∧ i ≤ L.length ∧ Vec h' s.1 eP M ∧ New h s.1 ∧ Ext h h' ∧ M.length ≤ i ∧ (∀ e ∈ M, badE n e = false)) (fun s => ((L.length : Int) - s.2).toNat) ⟨0, [], rfl, Nat.zero_le _, Vec.nil0, New.nil0, Ext.refl h, Nat.le_refl _, by simp⟩ ?_
  rintro ⟨u, i⟩ h' ⟨i, M, rfl, hi, V, Nw, E, hM, hgd⟩ k hk
  simp only at *
  refine ite_i (fun hlt => ?_) fun hge => ?_
  · have hlt : i < L.length := by simpa using hlt
    have A' := A.ext E
    obtain ⟨x0, x1, y0, y1⟩ := hb _ (List.getElem_mem hlt)
    refine with_u (A'.index (by omega) (by omega) fun a ha => ite_t rfl (ite_t rfl ?_))
    refine loadI_i (A'.cell (E := eU2) (i := i) (j := 0) (x := L[i]) (by simpa [eU2] using ha) (List.getElem?_eq_getElem hlt) rfl) (must_i (by omega) ?_)
    refine A'.index (by omega) (by omega) fun a2 ha2 => ite_t rfl (ite_t rfl ?_)
    refine loadI_i (A'.cell (E := eU2) (i := i) (j := 1) (x := L[i]) (by simpa [eU2] using ha2) (List.getElem?_eq_getElem hlt) rfl) (must_i (by omega) ?_)
    rw [cnv_rem x0 (by omega) (by omega), cnv_rem y0 (by omega) (by omega)]
    have ei : add .i64 (i : Int) 1 = (i : Int) + 1 := add_i64 (by omega) (by omega)
    rw [ei]
    refine ite_i (fun hne => ?_) fun heq => ?_
    · have hne : ¬ (L[i].1 % n = L[i].2 % n) := by simpa using hne
      refine V.append_new E Nw (m := [(L[i].1 % n, L[i].2 % n)]) rfl rfl rfl (by omega) fun u2 h2 V2 E2 N2 _ _ => ?_
      refine hk _ _ ⟨i + 1, _, by simp, by omega, V2, N2, E2, by simp; omega, fun e he => ?_⟩ (by simp; omega)
      rcases List.mem_append.1 he with he | he
      · exact hgd e he
      · rw [List.mem_singleton.1 he]
        have a1 := Int.emod_nonneg L[i].1 (show n ≠ 0 by omega)
        have a2 := Int.emod_lt_of_pos L[i].1 (show 0 < n by omega)
        have a3 := Int.emod_nonneg L[i].2 (show n ≠ 0 by omega)
        have a4 := Int.emod_lt_of_pos L[i].2 (show 0 < n by omega)
        unfold badE
        simp only [a1, a2, a3, a4, hne, decide_true, decide_false, Bool.and_self, Bool.not_true, Bool.or_self]
    · exact hk _ _ ⟨i + 1, M, by simp, by omega, V, Nw, E, by omega, hgd⟩ (by simp; omega)
  · have hgood : badG n M = false := by
      unfold badG
      rw [decide_eq_true n0, decide_eq_true (show n ≤ 256 by omega)]
      simp only [Bool.and_self, Bool.not_true, Bool.false_or]
      rw [List.any_eq_false]
      intro e he
      rw [hgd e he]; decide
    refine refnormal_spec V.arr (by omega) (fun hx => by rw [hgood] at hx; cases hx) fun _ u2 M2 h2 U2 E2 _ R2 hl2 hm2 => ?_
    refine hQ n u2 M2 h2 n0 n1 U2 (E.trans E2) ⟨?_, R2⟩ (by omega)
    unfold badG
    rw [decide_eq_true n0, decide_eq_true (show n ≤ 256 by omega)]
    simp only [Bool.and_self, Bool.not_true, Bool.false_or]
    rw [List.any_eq_false]
    intro e he
    rw [hgd e (hm2 e he)]; decide
theorem ask_spec {x y z w n : Int} (n0 : 1 ≤ n) {h : H} {Q : Int × Int × Int × Int → HProp} (hQ : ∀ a b c d, Q (a, b, c, d) h) : law16_Ask_Made (x, y, z, w, n) Q h := by
  unfold law16_Ask_Made
  refine must_i (by decide) (must_i (by decide) (must_i (by decide) (with_u ?_)))
  refine ite_i (fun _ => must_i (show n ≠ 0 by omega) (hQ _ _ _ _)) fun _ => ite_i (fun _ => must_i (by decide) (hQ _ _ _ _)) fun _ => ite_i (fun _ => must_i (by decide) (hQ _ _ _ _)) fun _ => hQ _ _ _ _
theorem fault_spec {x : Int} {h : H} {Q : Int → HProp} (hQ : ∀ c, Q c h) : law28_fault x Q h := by
  unfold law28_fault
  exact ite_i (fun _ => hQ _) fun _ => ite_i (fun _ => hQ _) fun _ => hQ _
end Go.Cz.S
