/- Part of the proof of a law of 28: an engine that runs a function over an abstract heap, and what the functions compute; own work. -/
import Derived.Test.YtpmojjeehmadpaaGreatP28A
set_option linter.unusedVariables false
set_option linter.unusedSimpArgs false
set_option linter.unusedSectionVars false
namespace Go.Cz
set_option maxRecDepth 100000
set_option maxHeartbeats 1000000
set_option linter.unusedSimpArgs false
set_option linter.unusedVariables false

theorem Arr.numg {h : H} {v : Sl} {k : IntKind} {l : List Int} (A : Arr h v (eI k) l) {i : Nat} (hi : i < l.length) {K : Int → HProp} (hK : K (gt l i) h) : indexW (i : Int) v 1 (fun a => loadI k a K) h :=
  A.num hi (by rw [← gt_get hi]; exact hK)
theorem Arr.p0 {h : H} {v : Sl} {L : List (Int × Int)} (A : Arr h v eP L) {i : Nat} (hi : i < L.length) {K : Int → HProp} (hK : K L[i].1 h) : indexW (i : Int) v 2 (fun a => loadI IntKind.i64 (a.add 0) K) h :=
  A.index (by omega) (by omega) fun a ha => loadI_i (A.cell (E := eP) (i := i) (j := 0) (x := L[i]) (by simpa [eP] using ha) (List.getElem?_eq_getElem hi) rfl) hK
theorem Arr.p1 {h : H} {v : Sl} {L : List (Int × Int)} (A : Arr h v eP L) {i : Nat} (hi : i < L.length) {K : Int → HProp} (hK : K L[i].2 h) : indexW (i : Int) v 2 (fun a => loadI IntKind.i64 (a.add 1) K) h :=
  A.index (by omega) (by omega) fun a ha => loadI_i (A.cell (E := eP) (i := i) (j := 1) (x := L[i]) (by simpa [eP] using ha) (List.getElem?_eq_getElem hi) rfl) hK

/-! ## what a job comes to, round by round -/
def bgF (L : List (Int × Int)) (u : Int) : Int := ((L.countP fun e => decide (e.1 = u) : Nat) : Int)
def stO (kind : Int) (now out : List Int) (e : Int × Int) : List Int :=
  if kind = 1 then (if gt now e.1.toNat ≠ FAR ∧ add .u64 (gt now e.1.toNat) 1 < gt out e.2.toNat then out.set e.2.toNat (add .u64 (gt now e.1.toNat) 1) else out)
  else if kind = 3 then (out.set e.1.toNat (minI (gt out e.1.toNat) (gt now e.2.toNat))).set e.2.toNat (minI (gt (out.set e.1.toNat (minI (gt out e.1.toNat) (gt now e.2.toNat))) e.2.toNat) (gt now e.1.toNat))
  else out
def stS (kind : Int) (L : List (Int × Int)) (now sum : List Int) (e : Int × Int) : List Int :=
  if kind = 2 then sum.set e.2.toNat (add .u64 (gt sum e.2.toNat) (quo .u64 (gt now e.1.toNat) (bgF L e.1)))
  else if kind = 4 then (sum.set e.1.toNat (add .u64 (gt sum e.1.toNat) (gt now e.2.toNat))).set e.2.toNat (add .u64 (gt (sum.set e.1.toNat (add .u64 (gt sum e.1.toNat) (gt now e.2.toNat))) e.2.toNat) (gt now e.1.toNat))
  else sum
def finF (kind arg s o : Int) : Int :=
  if kind = 4 ∧ s < cnv .u64 arg then 0 else if kind = 2 then add .u64 644245094 (quo .u64 (mul .u64 s 850) 1000) else o
def outF (kind : Int) (L : List (Int × Int)) (now : List Int) : List Int := L.foldl (stO kind now) now
def sumF (n : Nat) (kind : Int) (L : List (Int × Int)) (now : List Int) : List Int := L.foldl (stS kind L now) (List.replicate n 0)
def nextF (n : Nat) (L : List (Int × Int)) (kind arg : Int) (now : List Int) : List Int := (List.range n).map fun (v : Nat) => finF kind arg (gt (sumF n kind L now) v) (gt (outF kind L now) v)
def firstF (n : Nat) (kind arg : Int) : List Int := (List.range n).map fun (v : Nat) => if kind = 1 then (if (v : Int) = arg then 0 else FAR) else if kind = 2 then 4294967296 else if kind = 3 then (v : Int) else if kind = 4 then 1 else 0
def itF (n : Nat) (L : List (Int × Int)) (kind arg : Int) : Nat → List Int
  | 0 => firstF n kind arg
  | k + 1 => nextF n L kind arg (itF n L kind arg k)
def Says (n : Nat) (L : List (Int × Int)) (kind arg : Int) (out : List Int) (many : Nat) : Prop :=
  1 ≤ many ∧ out = itF n L kind arg many ∧ (kind = 2 → (many : Int) = arg) ∧ (kind ≠ 2 → itF n L kind arg many = itF n L kind arg (many - 1) ∧ ∀ j, 1 ≤ j → j < many → itF n L kind arg j ≠ itF n L kind arg (j - 1))
theorem Says.uniq {n : Nat} {L : List (Int × Int)} {kind arg : Int} {o1 o2 : List Int} {m1 m2 : Nat} (a : Says n L kind arg o1 m1) (b : Says n L kind arg o2 m2) : o1 = o2 ∧ m1 = m2 := by
  obtain ⟨a1, a2, a3, a4⟩ := a
  obtain ⟨b1, b2, b3, b4⟩ := b
  have hm : m1 = m2 := by
    by_cases hk : kind = 2
    · have := a3 hk; have := b3 hk; omega
    · obtain ⟨a5, a6⟩ := a4 hk
      obtain ⟨b5, b6⟩ := b4 hk
      rcases Nat.lt_trichotomy m1 m2 with h | h | h
      · exact absurd a5 (b6 m1 a1 h)
      · exact h
      · exact absurd b5 (a6 m2 b1 h)
  subst hm
  exact ⟨by rw [a2, b2], rfl⟩
theorem stO_len (kind : Int) (now out : List Int) (e : Int × Int) : (stO kind now out e).length = out.length := by
  unfold stO; split
  · split <;> simp
  · split <;> simp
theorem stS_len (kind : Int) (L : List (Int × Int)) (now out : List Int) (e : Int × Int) : (stS kind L now out e).length = out.length := by
  unfold stS; split
  · simp
  · split <;> simp
theorem fold_lenI {α : Type} (f : List Int → α → List Int) (hf : ∀ o e, (f o e).length = o.length) : ∀ (L : List α) (o : List Int), (L.foldl f o).length = o.length
  | [], o => rfl
  | e :: L, o => by rw [List.foldl_cons, fold_lenI f hf L, hf]
theorem outF_len (kind : Int) (L : List (Int × Int)) (now : List Int) : (outF kind L now).length = now.length := fold_lenI _ (stO_len kind now) L now
theorem sumF_len (n : Nat) (kind : Int) (L : List (Int × Int)) (now : List Int) : (sumF n kind L now).length = n := by unfold sumF; rw [fold_lenI _ (stS_len kind L now)]; simp
theorem nextF_len (n : Nat) (L : List (Int × Int)) (kind arg : Int) (now : List Int) : (nextF n L kind arg now).length = n := by simp [nextF]
theorem itF_len (n : Nat) (L : List (Int × Int)) (kind arg : Int) : ∀ k, (itF n L kind arg k).length = n
  | 0 => by simp [itF, firstF]
  | k + 1 => by rw [itF, nextF_len]
def InN (n : Nat) (L : List (Int × Int)) : Prop := ∀ e ∈ L, 0 ≤ e.1 ∧ e.1 < n ∧ 0 ≤ e.2 ∧ e.2 < n
theorem foldl_takeI {α : Type} (f : List Int → α → List Int) (o : List Int) (L : List α) {i : Nat} (hi : i < L.length) : (L.take (i + 1)).foldl f o = f ((L.take i).foldl f o) L[i] := by
  rw [List.take_succ_eq_append_getElem hi, List.foldl_append]; rfl
theorem listext {n : Nat} {a b : List Int} (ha : a.length = n) (hb : b.length = n) (h : ∀ v, v < n → gt a v = gt b v) : a = b := by
  refine List.ext_getElem (by omega) fun i h1 h2 => ?_
  have := h i (by omega)
  rwa [gt_get h1, gt_get h2] at this
theorem gt_map {n : Nat} (f : Nat → Int) {v : Nat} (hv : v < n) : gt ((List.range n).map f) v = f v := by
  unfold gt
  rw [List.getElem?_map, List.getElem?_range hv]; rfl
end Go.Cz
namespace Go.Cz.S
set_option maxRecDepth 100000
set_option maxHeartbeats 1000000
set_option linter.unusedSimpArgs false
set_option linter.unusedVariables false
theorem begins_spec {v : Sl} {L : List (Int × Int)} {u : Int} {h : H} (A : Arr h v eP L) (hL : L.length ≤ 100000) {Q : Int → HProp} (hQ : Q (bgF L u) h) : ref16_begins (v, u) Q h := by
  unfold ref16_begins
  simp only [A.len, ltI_eq, eqI_eq]
  refine loop_i (fun (p : Int × Int) h' => h' = h ∧ ∃ i : Nat, p.2 = i ∧ i ≤ L.length ∧ p.1 = bgF (L.take i) u) (fun p => ((L.length : Int) - p.2).toNat) ⟨rfl, 0, rfl, Nat.zero_le _, rfl⟩ ?_
  rintro ⟨g, i⟩ h' ⟨rfl, i, rfl, hi, hg⟩ k hk
  simp only at *
  refine ite_i (fun hlt => ?_) fun hge => ?_
  · have hlt : i < L.length := by simpa using hlt
    refine with_u (A.p0 hlt ?_)
    have hs : bgF (L.take (i + 1)) u = bgF (L.take i) u + if L[i].1 = u then 1 else 0 := by
      unfold bgF
      rw [List.take_succ_eq_append_getElem hlt, List.countP_append]
      by_cases e : L[i].1 = u <;> simp [e]
    have hb : (0 : Int) ≤ bgF (L.take i) u ∧ bgF (L.take i) u ≤ 100000 := by
      unfold bgF
      have : (L.take i).countP (fun e => decide (e.1 = u)) ≤ (L.take i).length := List.countP_le_length
      rw [List.length_take] at this
      omega
    rw [add_i64 (by omega) (by omega)]
    refine ite_i (fun hx => ?_) fun hx => ?_
    · have hx : L[i].1 = u := by simpa using hx
      rw [hg, add_u64 (by omega) (by omega)]
      refine hk _ _ ⟨rfl, i + 1, by simp, by omega, ?_⟩ (by simp; omega)
      rw [hs, if_pos hx]
    · have hx : ¬ L[i].1 = u := by simpa using hx
      refine hk _ _ ⟨rfl, i + 1, by simp, by omega, ?_⟩ (by simp; omega)
      rw [hs, if_neg hx, hg]; simp
  · have : i = L.length := by have : ¬ (i < L.length) := (by simpa using hge); omega
    subst this
    rw [hg, List.take_length]; exact hQ
theorem bgF_pos {L : List (Int × Int)} {e : Int × Int} (he : e ∈ L) : bgF L e.1 ≠ 0 := by
  unfold bgF
  have : 0 < L.countP fun x => decide (x.1 = e.1) := List.countP_pos_iff.2 ⟨e, he, by simp⟩
  omega
theorem refnext_spec {n : Nat} {kind arg prio need : Int} {x v : Sl} {L : List (Int × Int)} {now : List Int} {h : H} (h1 : 1 ≤ n) (h2 : n ≤ 256) (N : Arr h x (eI .u64) now) (hn : now.length = n) (A : Arr h v eP L) (hL : L.length ≤ 100000) (hb : InN n L)
    {Q : Sl → HProp} (hQ : ∀ r h', Arr h' r (eI .u64) (nextF n L kind arg now) → New h r → Ext h h' → Q r h') : ref16_Next (x, v, kind, arg, prio, need) Q h := by
  unfold ref16_Next
  simp only [N.len, A.len, hn, ltI_eq, eqI_eq]
  refine Obj.new fun b ha oa na ea => ?_
  have Na := N.ext ea
  refine Na.row (w := 1) rfl ?_
  have V0 : Vec ha ⟨some ⟨b, 0, none⟩, 0, 0⟩ (eI .u64) [] := ⟨rfl, Nat.le_refl _, (fun e => by cases e), fun a ha => by
    cases ha
    exact ⟨rfl, [], oa, by simp, by simp [Enc.all]⟩⟩
  refine V0.append_new ea (fun x hx => by obtain ⟨a, ha, rfl⟩ := hx; cases ha; exact na) (m := now) rfl rfl hn (by simp; omega) fun u hc Vu Eu Nu _ _ => ?_
  simp only [List.nil_append] at Vu
  have hul : u.len = n := by rw [Vu.len, hn]
  refine make_i (E := eI .u64) (x0 := 0) rfl (by omega) (by omega) (by omega) (by omega) ?_
  intro s hd Vs _ Ns Es _
  simp only [Int.toNat_natCast] at Vs
  have Ed := Eu.trans Es
  have Vu2 := Vu.ext Es
  have hsu : ∀ b, s.on b → ¬ u.on b := fun b hb hr => by obtain ⟨o, ho⟩ := Vu.there hr; rw [Ns b hb] at ho; cases ho
  have Ns0 : New h s := Ns.mono Eu
  refine loop_i (fun (p : Int) h' => ∃ i : Nat, p = i ∧ i ≤ L.length ∧ Vec h' u (eI .u64) ((L.take i).foldl (stO kind now) now) ∧ Vec h' s (eI .u64) ((L.take i).foldl (stS kind L now) (List.replicate n 0)) ∧ Ext h h') (fun p => ((L.length : Int) - p).toNat)
    ⟨0, rfl, Nat.zero_le _, by simpa using Vu2, by simpa using Vs, Ed⟩ ?_
  rintro p h' ⟨i, rfl, hi, U, S, E⟩ k hk
  have Ne := N.ext E
  have Ae := A.ext E
  refine ite_i (fun hlt => ?_) fun hge => ?_
  · have hlt : i < L.length := by simpa using hlt
    rw [show add .i64 (i : Int) 1 = ((i + 1 : Nat) : Int) by rw [add_i64 (by omega) (by omega)]; simp]
    have fo := foldl_takeI (stO kind now) now L hlt
    have fs := foldl_takeI (stS kind L now) (List.replicate n 0) L hlt
    have lo : ((L.take i).foldl (stO kind now) now).length = n := by rw [fold_lenI _ (stO_len kind now), hn]
    have ls : ((L.take i).foldl (stS kind L now) (List.replicate n 0)).length = n := by rw [fold_lenI _ (stS_len kind L now)]; simp
    generalize hO : (L.take i).foldl (stO kind now) now = O at U fo lo
    generalize hS : (L.take i).foldl (stS kind L now) (List.replicate n 0) = SS at S fs ls
    have hbe := bgF_pos (List.getElem_mem hlt)
    obtain ⟨b0, b1, b2, b3⟩ := hb _ (List.getElem_mem hlt)
    have hk' : ∀ h', Vec h' u (eI .u64) (stO kind now O L[i]) → Vec h' s (eI .u64) (stS kind L now SS L[i]) → Ext h h' → k ((i + 1 : Nat) : Int) h' := fun h' a b c => hk _ _ ⟨i + 1, rfl, by omega, by rw [fo]; exact a, by rw [fs]; exact b, c⟩ (by omega)
    refine Ae.p0 hlt (Ae.p1 hlt ?_)
    obtain ⟨e1, he1⟩ : ∃ m : Nat, L[i].1 = m := ⟨L[i].1.toNat, by omega⟩
    obtain ⟨e2, he2⟩ : ∃ m : Nat, L[i].2 = m := ⟨L[i].2.toNat, by omega⟩
    have hpair : L[i] = ((e1 : Int), (e2 : Int)) := Prod.ext he1 he2
    rw [hpair] at hk' hbe
    simp only at hbe
    simp only [he1, he2] at b1 b3 ⊢
    simp only [stO, stS, Int.toNat_natCast] at hk'
    refine with_u ?_
    refine ite_i (fun k1 => ?_) fun k1 => ?_
    · have k1 : kind = 1 := by simpa using k1
      subst k1
      rw [if_pos rfl, if_neg (show ¬ ((1 : Int) = 2) by decide), if_neg (show ¬ ((1 : Int) = 4) by decide)] at hk'
      refine with_b (decide (gt now e1 ≠ FAR ∧ add .u64 (gt now e1) 1 < gt O e2)) (fun k' hk'' => ?_) ?_
      · refine Ne.numg (by omega) (ite_i (fun hx => ?_) fun hx => ?_)
        · have hx : gt now e1 ≠ FAR := by simpa using hx
          refine Ne.numg (by omega) (U.arr.numg (by omega) ?_)
          rw [show decide (gt now e1 ≠ FAR ∧ add .u64 (gt now e1) 1 < gt O e2) = decide (add .u64 (gt now e1) 1 < gt O e2) by simp only [hx, ne_eq, not_false_iff, true_and]] at hk''
          exact hk''
        · have hx : gt now e1 = FAR := by simpa using hx
          rw [show decide (gt now e1 ≠ FAR ∧ add .u64 (gt now e1) 1 < gt O e2) = false by simp [hx]] at hk''
          exact hk''
      · refine ite_i (fun hx => ?_) fun hx => ?_
        · have hx := of_decide_eq_true hx
          rw [if_pos hx] at hk'
          refine Ne.numg (by omega) (U.put (by omega) fun h3 U3 F3 => ?_)
          exact hk' _ U3 (S.fr F3 fun b hb hr => hsu b hb hr) (E.of_new F3 Nu)
        · have hx := of_decide_eq_false hx
          rw [if_neg hx] at hk'
          exact hk' _ U S E
    · have k1 : kind ≠ 1 := by simpa using k1
      rw [if_neg k1] at hk'
      refine ite_i (fun k2 => ?_) fun k2 => ?_
      · have k2 : kind = 2 := by simpa using k2
        subst k2
        rw [if_neg (by decide), if_pos rfl] at hk'
        refine S.arr.index (i := (e2 : Int)) (by omega) (by omega) fun a ha => ?_
        have ca := S.arr.cell (E := eI .u64) (i := e2) (j := 0) (a := a) (x := gt SS e2) (by simpa [eI] using ha) (by rw [gt_get (by omega)]; exact List.getElem?_eq_getElem _) rfl
        rw [add0] at ca
        refine loadI_i ca ?_
        refine Ne.index (i := (e1 : Int)) (by omega) (by omega) fun a' ha' => ?_
        have ca' := Ne.cell (E := eI .u64) (i := e1) (j := 0) (a := a') (x := gt now e1) (by simpa [eI] using ha') (by rw [gt_get (by omega)]; exact List.getElem?_eq_getElem _) rfl
        rw [add0] at ca'
        refine loadI_i ca' ?_
        refine begins_spec Ae hL (keeps1 ca (keeps1 ca' (must_i hbe ?_)))
        refine S.put (by omega) fun h3 S3 F3 => ?_
        exact hk' _ (U.fr F3 fun b hb hr => hsu b hr hb) S3 (E.of_new F3 Ns0)
      · have k2 : kind ≠ 2 := by simpa using k2
        refine ite_i (fun k3 => ?_) fun k3 => ?_
        · have k3 : kind = 3 := by simpa using k3
          subst k3
          rw [if_pos rfl, if_neg (by decide), if_neg (by decide)] at hk'
          refine U.arr.numg (by omega) (Ne.numg (by omega) (U.put (by omega) fun h3 U3 F3 => ?_))
          have E3 := E.of_new F3 Nu
          have S3 := S.fr F3 fun b hb hr => hsu b hb hr
          refine U3.arr.numg (by simp; omega) ((N.ext E3).numg (by omega) (U3.put (by simp; omega) fun h4 U4 F4 => ?_))
          exact hk' _ U4 (S3.fr F4 fun b hb hr => hsu b hb hr) (E3.of_new F4 Nu)
        · have k3 : kind ≠ 3 := by simpa using k3
          rw [if_neg k3, if_neg k2] at hk'
          refine ite_i (fun k4 => ?_) fun k4 => ?_
          · have k4 : kind = 4 := by simpa using k4
            rw [if_pos k4] at hk'
            refine S.arr.numg (by omega) (Ne.numg (by omega) (S.put (by omega) fun h3 S3 F3 => ?_))
            have E3 := E.of_new F3 Ns0
            have U3 := U.fr F3 fun b hb hr => hsu b hr hb
            refine S3.arr.numg (by simp; omega) ((N.ext E3).numg (by omega) (S3.put (by simp; omega) fun h4 S4 F4 => ?_))
            exact hk' _ (U3.fr F4 fun b hb hr => hsu b hr hb) S4 (E3.of_new F4 Ns0)
          · have k4 : kind ≠ 4 := by simpa using k4
            rw [if_neg k4] at hk'
            exact hk' _ U S E
  · have : i = L.length := by have : ¬ (i < L.length) := (by simpa using hge); omega
    subst this
    rw [List.take_length] at U S
    have lo := outF_len kind L now
    have ls := sumF_len n kind L now
    rw [hn] at lo
    change Vec h' u (eI .u64) (outF kind L now) at U
    change Vec h' s (eI .u64) (sumF n kind L now) at S
    generalize hO : outF kind L now = O at U lo
    generalize hS : sumF n kind L now = SS at S ls
    refine loop_i (fun (p : Int) h' => ∃ (i : Nat) (l : List Int), p = i ∧ i ≤ n ∧ Vec h' u (eI .u64) l ∧ l.length = n ∧ (∀ v, v < n → gt l v = if v < i then finF kind arg (gt SS v) (gt O v) else gt O v) ∧ Vec h' s (eI .u64) SS ∧ Ext h h') (fun p => ((n : Int) - p).toNat)
      ⟨0, O, rfl, Nat.zero_le _, U, lo, fun v hv => by rw [if_neg (Nat.not_lt_zero _)], S, E⟩ ?_
    rintro p h'' ⟨i, l, rfl, hi, U2, hl, hg, S2, E2⟩ k2 hk2
    rw [hul]
    refine ite_i (fun hlt => ?_) fun hge => ?_
    · have hlt : i < n := by simpa using hlt
      rw [show add .i64 (i : Int) 1 = ((i + 1 : Nat) : Int) by rw [add_i64 (by omega) (by omega)]; simp]
      refine with_u ?_
      have step : ∀ h3 l3, Vec h3 u (eI .u64) l3 → l3.length = n → (∀ v, v ≠ i → gt l3 v = gt l v) → gt l3 i = finF kind arg (gt SS i) (gt O i) → Vec h3 s (eI .u64) SS → Ext h h3 → k2 ((i + 1 : Nat) : Int) h3 := fun h3 l3 a b c d e f => by
        refine hk2 _ _ ⟨i + 1, l3, rfl, by omega, a, b, fun v hv => ?_, e, f⟩ (by omega)
        by_cases ev : v = i
        · subst ev; rw [if_pos (by omega)]; exact d
        · rw [c v ev, hg v hv]
          by_cases hvi : v < i
          · rw [if_pos hvi, if_pos (by omega)]
          · rw [if_neg hvi, if_neg (by omega)]
      have gi := hg i hlt
      rw [if_neg (Nat.lt_irrefl _)] at gi
      have tail : ∀ h3 l3, Vec h3 u (eI .u64) l3 → l3.length = n → (∀ v, v ≠ i → gt l3 v = gt l v) → gt l3 i = (if kind = 2 then add .u64 644245094 (quo .u64 (mul .u64 (gt SS i) 850) 1000) else gt O i) → Vec h3 s (eI .u64) SS → Ext h h3 →
          withK (fun (t : Bool) => iteW t (indexW (i : Int) u 1 fun (a : Addr) => storeW a (Value.int IntKind.u64 0) (k2 ((i + 1 : Nat) : Int))) (k2 ((i + 1 : Nat) : Int)))
            (fun (k : Bool → HProp) => iteW (decide (kind = 4)) (indexW (i : Int) s 1 fun (a : Addr) => loadI IntKind.u64 a fun (x : Int) => k (decide (x < cnv IntKind.u64 arg))) (k false)) h3 := fun h3 l3 a b c d e f => by
        refine with_b (decide (kind = 4 ∧ gt SS i < cnv .u64 arg)) (fun k' hk' => ?_) ?_
        · refine ite_i (fun hx => ?_) fun hx => ?_
          · have hx : kind = 4 := by simpa using hx
            refine e.arr.numg (by omega) ?_
            rw [show decide (kind = 4 ∧ gt SS i < cnv .u64 arg) = decide (gt SS i < cnv .u64 arg) by simp only [hx, true_and]] at hk'
            exact hk'
          · have hx : kind ≠ 4 := by simpa using hx
            rw [show decide (kind = 4 ∧ gt SS i < cnv .u64 arg) = false by simp [hx]] at hk'
            exact hk'
        · refine ite_i (fun hx => ?_) fun hx => ?_
          · have hx := of_decide_eq_true hx
            refine a.put (by omega) fun h4 V4 F4 => ?_
            refine step h4 _ V4 (by simp [b]) (fun v hv => by rw [gt_set _ _ (by omega), if_neg (fun e => hv e.symm)]; exact c v hv) ?_ (e.fr F4 fun b hb hr => hsu b hb hr) (f.of_new F4 Nu)
            rw [gt_set _ _ (by omega), if_pos rfl]; unfold finF; rw [if_pos hx]
          · have hx := of_decide_eq_false hx
            refine step h3 l3 a b c ?_ e f
            unfold finF; rw [if_neg hx]; exact d
      refine with_u ?_
      refine ite_i (fun kk => ?_) fun kk => ?_
      · have kk : kind = 2 := by simpa using kk
        refine S2.arr.numg (by omega) (must_i (by decide) (U2.put (by omega) fun h4 V4 F4 => ?_))
        refine tail h4 _ V4 (by simp [hl]) (fun v hv => by rw [gt_set _ _ (by omega), if_neg (fun e => hv e.symm)]) ?_ (S2.fr F4 fun b hb hr => hsu b hb hr) (E2.of_new F4 Nu)
        rw [gt_set _ _ (by omega), if_pos rfl, if_pos kk]
      · have kk : kind ≠ 2 := by simpa using kk
        refine tail h'' l U2 hl (fun v hv => rfl) ?_ S2 E2
        rw [if_neg kk]; exact gi
    · have : i = n := by have : ¬ (i < n) := (by simpa using hge); omega
      subst this
      have hfin : l = nextF i L kind arg now := listext hl (nextF_len ..) fun v hv => by
        rw [hg v hv, if_pos hv, nextF, gt_map _ hv, hO, hS]
      subst hfin
      exact hQ u h'' U2.arr Nu E2
end Go.Cz.S

namespace Go.Cz.S
set_option maxRecDepth 100000
set_option maxHeartbeats 1000000
set_option linter.unusedSimpArgs false
set_option linter.unusedVariables false
theorem refcheck_spec {kind arg prio need n : Int} (n0 : 1 ≤ n) (n1 : n ≤ 256) {h : H} {Q : Int → HProp} (hQ : Q (if okReq kind arg prio n then 0 else 2) h) : ref16_Check (kind, arg, prio, need, n) Q h := by
  unfold ref16_Check
  simp only [eqI_eq, ltI_eq]
  refine with_b (if kind = 1 then ((0 : Int), n - 1) else if kind = 2 then (1, 64) else if kind = 3 then (0, 0) else if kind = 4 then (0, 4096) else (0, -1)) (fun k hk => ?_) ?_
  · refine ite_i (fun k1 => ?_) fun k1 => ite_i (fun k2 => ?_) fun k2 => ite_i (fun k3 => ?_) fun k3 => ite_i (fun k4 => ?_) fun k4 => ?_
    · rw [if_pos (by simpa using k1)] at hk; rw [sub_i64 (by omega) (by omega)]; exact hk
    · rw [if_neg (by simpa using k1), if_pos (by simpa using k2)] at hk; exact hk
    · rw [if_neg (by simpa using k1), if_neg (by simpa using k2), if_pos (by simpa using k3)] at hk; exact hk
    · rw [if_neg (by simpa using k1), if_neg (by simpa using k2), if_neg (by simpa using k3), if_pos (by simpa using k4)] at hk; exact hk
    · rw [if_neg (by simpa using k1), if_neg (by simpa using k2), if_neg (by simpa using k3), if_neg (by simpa using k4)] at hk; exact hk
  · generalize hb : (if kind = 1 then ((0 : Int), n - 1) else if kind = 2 then (1, 64) else if kind = 3 then (0, 0) else if kind = 4 then (0, 4096) else (0, -1)) = bo
    have hok : okReq kind arg prio n = decide (¬ (n < 1 ∨ 256 < n ∨ prio < 0 ∨ 7 < prio ∨ arg < bo.1 ∨ bo.2 < arg)) := by
      subst hb
      unfold okReq
      rw [Bool.eq_iff_iff]
      by_cases k1 : kind = 1
      · simp only [k1, if_true, reduceIte, Bool.and_eq_true, decide_eq_true_eq]; omega
      by_cases k2 : kind = 2
      · rw [if_neg k1, if_pos k2, if_neg k1, if_pos k2]; simp only [Bool.and_eq_true, decide_eq_true_eq]; omega
      by_cases k3 : kind = 3
      · rw [if_neg k1, if_neg k2, if_pos k3, if_neg k1, if_neg k2, if_pos k3]; simp only [Bool.and_eq_true, decide_eq_true_eq]; omega
      by_cases k4 : kind = 4
      · rw [if_neg k1, if_neg k2, if_neg k3, if_pos k4, if_neg k1, if_neg k2, if_neg k3, if_pos k4]; simp only [Bool.and_eq_true, decide_eq_true_eq]; omega
      · rw [if_neg k1, if_neg k2, if_neg k3, if_neg k4, if_neg k1, if_neg k2, if_neg k3, if_neg k4]; simp only [Bool.and_eq_true, decide_eq_true_eq, Bool.false_eq_true, and_false, false_iff]; omega
    refine with_b (!okReq kind arg prio n) (fun k hk => ?_) ?_
    · rw [hok] at hk
      refine ite_i (fun a => ?_) fun a => ite_i (fun b => ?_) fun b => ite_i (fun c => ?_) fun c => ite_i (fun d => ?_) fun d => ite_i (fun e => ?_) fun e => ?_
      · have a := of_decide_eq_true a; simpa [a] using hk
      · have b := of_decide_eq_true b; simpa [b] using hk
      · have c := of_decide_eq_true c; simpa [c] using hk
      · have d := of_decide_eq_true d; simpa [d] using hk
      · have e := of_decide_eq_true e; simpa [e] using hk
      · have a := of_decide_eq_false a; have b := of_decide_eq_false b; have c := of_decide_eq_false c; have d := of_decide_eq_false d; have e := of_decide_eq_false e
        have : (!decide (¬ (n < 1 ∨ 256 < n ∨ prio < 0 ∨ 7 < prio ∨ arg < bo.1 ∨ bo.2 < arg))) = decide (bo.2 < arg) := by
          simp only [a, b, c, d, e, false_or, decide_not, Bool.not_not]
        rw [this] at hk
        exact hk
    · refine ite_i (fun hc => ?_) fun hc => ?_
      · rw [if_neg (by simpa using hc)] at hQ; exact hQ
      · rw [if_pos (by simpa using hc)] at hQ; exact hQ
theorem refusesG_spec {n : Int} {v : Sl} {L : List (Int × Int)} {kind arg prio need : Int} {h : H} (A : Arr h v eP L) (hL : L.length ≤ 900) {Q : Int → HProp} (hv : Valid n L) (hok : okReq kind arg prio n = true)
    (hyes : ∀ h', Ext h h' → Q 0 h') : ref16_Refuses (n, v, kind, arg, prio, need) Q h := by
  unfold ref16_Refuses
  simp only [eqI_eq]
  refine refnormal_spec A hL (fun hb h1 e1 => ?_) fun hb u M h1 U e1 hR1 hR hM _ => ?_
  · rw [hv.1] at hb; cases hb
  · refine ite_f rfl (same_spec (A.ext e1) U (by omega) (ite_i (fun hne => ?_) fun heq => ?_))
    · have hne : ¬ (L = M) := by
        rw [Bool.not_eq_true'] at hne
        exact of_decide_eq_false hne
      exact absurd (hR1 hv.2).symm hne
    · refine refcheck_spec hv.n.1 hv.n.2 ?_
      rw [if_pos hok]
      exact hyes h1 e1
theorem first_spec {n : Nat} {kind arg prio need : Int} (h1 : 1 ≤ n) (h2 : n ≤ 256) {h : H} {Q : Sl → HProp} (hQ : ∀ r h', Arr h' r (eI .u64) (firstF n kind arg) → New h r → Ext h h' → Q r h') : ref16_First ((n : Int), kind, arg, prio, need) Q h := by
  unfold ref16_First
  simp only [eqI_eq, ltI_eq]
  refine make_i (E := eI .u64) (x0 := 0) rfl (by omega) (by omega) (by omega) (by omega) ?_
  intro s hd Vs _ Ns Es _
  simp only [Int.toNat_natCast] at Vs
  refine loop_i (fun (p : Int) h' => ∃ (i : Nat) (l : List Int), p = i ∧ i ≤ n ∧ Vec h' s (eI .u64) l ∧ l.length = n ∧ (∀ v, v < n → gt l v = if v < i then gt (firstF n kind arg) v else 0) ∧ Ext h h') (fun p => ((n : Int) - p).toNat)
    ⟨0, _, rfl, Nat.zero_le _, Vs, by simp, fun v hv => by rw [if_neg (Nat.not_lt_zero _), gt_get (by simpa using hv)]; simp, Es⟩ ?_
  rintro p h' ⟨i, l, rfl, hi, V, hl, hg, E⟩ k hk
  refine ite_i (fun hlt => ?_) fun hge => ?_
  · have hlt : i < n := by simpa using hlt
    rw [show add .i64 (i : Int) 1 = ((i + 1 : Nat) : Int) by rw [add_i64 (by omega) (by omega)]; simp]
    refine with_u ?_
    have step : ∀ h3 l3, Vec h3 s (eI .u64) l3 → l3.length = n → (∀ v, v ≠ i → gt l3 v = gt l v) → gt l3 i = gt (firstF n kind arg) i → Ext h h3 → k ((i + 1 : Nat) : Int) h3 := fun h3 l3 a b c d f => by
      refine hk _ _ ⟨i + 1, l3, rfl, by omega, a, b, fun v hv => ?_, f⟩ (by omega)
      by_cases ev : v = i
      · subst ev; rw [if_pos (by omega)]; exact d
      · rw [c v ev, hg v hv]
        by_cases hvi : v < i
        · rw [if_pos hvi, if_pos (by omega)]
        · rw [if_neg hvi, if_neg (by omega)]
    have one : ∀ {x : Int}, x = gt (firstF n kind arg) i → indexW (i : Int) s 1 (fun a => storeW a (Value.int .u64 x) (k ((i + 1 : Nat) : Int))) h' := fun hx => by
      refine V.put (by omega) fun h4 V4 F4 => ?_
      exact step h4 _ V4 (by simp [hl]) (fun v hv => by rw [gt_set _ _ (by omega), if_neg (fun e => hv e.symm)]) (by rw [gt_set _ _ (by omega), if_pos rfl, hx]) (E.of_new F4 Ns)
    have hf : gt (firstF n kind arg) i = _ := gt_map _ hlt
    refine ite_i (fun k1 => ?_) fun k1 => ite_i (fun k2 => ?_) fun k2 => ite_i (fun k3 => ?_) fun k3 => ite_i (fun k4 => ?_) fun k4 => ?_
    · rw [if_pos (by simpa using k1)] at hf
      refine V.put (by omega) fun h4 V4 F4 => ?_
      have E4 := E.of_new F4 Ns
      refine ite_i (fun ha => ?_) fun ha => ?_
      · have ha : (i : Int) = arg := by simpa using ha
        rw [if_pos ha] at hf
        refine V4.put (by simp; omega) fun h5 V5 F5 => ?_
        exact step h5 _ V5 (by simp [hl]) (fun v hv => by rw [gt_set _ _ (by simp; omega), if_neg (fun e => hv e.symm), gt_set _ _ (by omega), if_neg (fun e => hv e.symm)]) (by rw [gt_set _ _ (by simp; omega), if_pos rfl, hf]) (E4.of_new F5 Ns)
      · have ha : ¬ ((i : Int) = arg) := by simpa using ha
        rw [if_neg ha] at hf
        exact step h4 _ V4 (by simp [hl]) (fun v hv => by rw [gt_set _ _ (by omega), if_neg (fun e => hv e.symm)]) (by rw [gt_set _ _ (by omega), if_pos rfl, hf]) E4
    · rw [if_neg (by simpa using k1), if_pos (by simpa using k2)] at hf; exact one hf.symm
    · rw [if_neg (by simpa using k1), if_neg (by simpa using k2), if_pos (by simpa using k3)] at hf; exact one (by rw [hf, cnv_u64 (by omega) (by omega)])
    · rw [if_neg (by simpa using k1), if_neg (by simpa using k2), if_neg (by simpa using k3), if_pos (by simpa using k4)] at hf; exact one hf.symm
    · rw [if_neg (by simpa using k1), if_neg (by simpa using k2), if_neg (by simpa using k3), if_neg (by simpa using k4)] at hf
      refine step h' l V hl (fun v hv => rfl) ?_ E
      rw [hg i hlt, if_neg (Nat.lt_irrefl _), hf]
  · have : i = n := by have : ¬ (i < n) := (by simpa using hge); omega
    subst this
    have : l = firstF i kind arg := listext hl (by simp [firstF]) fun v hv => by rw [hg v hv, if_pos hv]
    subst this
    exact hQ s h' V.arr Ns E
theorem refrun_spec {n : Int} {v : Sl} {L : List (Int × Int)} {kind arg prio need : Int} {h : H} (A : Arr h v eP L) (hL : L.length ≤ 900) {Q : Sl × Int × Int → HProp} (hv : Valid n L) (hok : okReq kind arg prio n = true)
    {out : List Int} {many : Nat} (S : Says n.toNat L kind arg out many) (hm : many ≤ 100000) (hQ : ∀ r h', Arr h' r (eI .u64) out → New h r → Ext h h' → Q (r, (many : Int), 0) h') : ref16_Run (n, v, kind, arg, prio, need) Q h := by
  unfold ref16_Run
  simp only [eqI_eq, ltI_eq]
  refine refusesG_spec A hL hv hok fun h1 e1 => ite_f rfl ?_
  obtain ⟨n1, n2⟩ := hv.n
  have hin : InN n.toNat L := fun e he => by have := hv.e e he; omega
  obtain ⟨m, rfl⟩ : ∃ m : Nat, n = m := ⟨n.toNat, by omega⟩
  simp only [Int.toNat_natCast] at S hin
  refine first_spec (by omega) (by omega) fun r0 h2 A2 N2 e2 => ?_
  obtain ⟨s1, s2, s3, s4⟩ := S
  refine loop_i (fun (p : Sl × Int) h' => ∃ k : Nat, p.2 = ((k + 1 : Nat) : Int) ∧ k < many ∧ Arr h' p.1 (eI .u64) (itF m L kind arg k) ∧ Ext h h') (fun p => ((many : Int) + 1 - p.2).toNat) ⟨0, rfl, by omega, A2, e1.trans e2⟩ ?_
  rintro ⟨r, p⟩ h' ⟨k, rfl, hk, N, E⟩ kk hkk
  simp only at *
  have lk := itF_len m L kind arg k
  refine refnext_spec (by omega) (by omega) N lk (A.ext E) (by omega) hin fun u h3 U Nu E3 => ?_
  have lk1 := itF_len m L kind arg (k + 1)
  change Arr h3 u (eI .u64) (itF m L kind arg (k + 1)) at U
  have N3 := N.ext E3
  refine loop_i (fun (q : Bool × Int) h4 => h4 = h3 ∧ ∃ i : Nat, q.2 = i ∧ i ≤ m ∧ q.1 = decide (∃ v, v < i ∧ gt (itF m L kind arg (k + 1)) v ≠ gt (itF m L kind arg k) v)) (fun q => ((m : Int) - q.2).toNat) ⟨rfl, 0, rfl, Nat.zero_le _, (decide_eq_false (fun ⟨v, hv, _⟩ => by omega)).symm⟩ ?_
  rintro ⟨ch, q⟩ h4 ⟨rfl, i, rfl, hi, rfl⟩ k4 hk4
  simp only at *
  refine ite_i (fun hlt => ?_) fun hge => ?_
  · have hlt : i < m := by simpa using hlt
    rw [show add .i64 (i : Int) 1 = ((i + 1 : Nat) : Int) by rw [add_i64 (by omega) (by omega)]; simp]
    refine with_b (decide (∃ v, v < i + 1 ∧ gt (itF m L kind arg (k + 1)) v ≠ gt (itF m L kind arg k) v)) (fun k5 hk5 => ?_) ?_
    · refine ite_i (fun hx => ?_) fun hx => ?_
      · obtain ⟨v, hv, hne⟩ := of_decide_eq_true hx
        rw [decide_eq_true (⟨v, by omega, hne⟩ : ∃ v, v < i + 1 ∧ gt (itF m L kind arg (k + 1)) v ≠ gt (itF m L kind arg k) v)] at hk5
        exact hk5
      · have hx := of_decide_eq_false hx
        refine U.numg (by omega) (N3.numg (by omega) ?_)
        have e : decide (∃ v, v < i + 1 ∧ gt (itF m L kind arg (k + 1)) v ≠ gt (itF m L kind arg k) v) = !decide (gt (itF m L kind arg (k + 1)) i = gt (itF m L kind arg k) i) := by
          rw [← decide_not]
          refine decide_eq_decide.2 ⟨fun ⟨v, hv, hne⟩ => ?_, fun hne => ⟨i, by omega, hne⟩⟩
          by_cases ev : v = i
          · subst ev; exact hne
          · exact absurd ⟨v, by omega, hne⟩ hx
        rw [e] at hk5
        exact hk5
    · exact hk4 _ _ ⟨rfl, i + 1, rfl, by omega, rfl⟩ (by simp; omega)
  · have : i = m := by have : ¬ (i < m) := (by simpa using hge); omega
    subst this
    have hch : decide (∃ v, v < i ∧ gt (itF i L kind arg (k + 1)) v ≠ gt (itF i L kind arg k) v) = decide (itF i L kind arg (k + 1) ≠ itF i L kind arg k) := by
      refine decide_eq_decide.2 ⟨fun ⟨v, hv, hne⟩ e => hne (by rw [e]), fun hne => ?_⟩
      apply Classical.byContradiction
      intro hx
      refine hne (listext lk1 lk fun v hv => ?_)
      apply Classical.byContradiction
      intro he
      exact hx ⟨v, hv, he⟩
    rw [hch]
    refine with_b (decide (k + 1 = many)) (fun k5 hk5 => ?_) ?_
    · refine ite_i (fun hx => ?_) fun hx => ?_
      · have hx : kind = 2 := by simpa using hx
        have h3 := s3 hx
        refine ite_i (fun hy => ?_) fun hy => ?_
        · have hy : ((k + 1 : Nat) : Int) = arg := of_decide_eq_true hy
          rw [decide_eq_true (by omega)] at hk5; exact hk5
        · have hy : ¬ ((k + 1 : Nat) : Int) = arg := of_decide_eq_false hy
          rw [decide_eq_false (by omega)] at hk5
          exact ite_f (by simp [hx]) hk5
      · have hx : ¬ kind = 2 := by simpa using hx
        obtain ⟨s5, s6⟩ := s4 hx
        refine ite_t (by simp [hx]) ?_
        have e : decide (k + 1 = many) = !decide (itF i L kind arg (k + 1) ≠ itF i L kind arg k) := by
          rw [← decide_not]
          refine decide_eq_decide.2 ⟨fun he hn => hn ?_, fun hn => ?_⟩
          · subst he; exact s5
          · apply Classical.byContradiction
            intro hne
            exact s6 (k + 1) (by omega) (by omega) (Classical.byContradiction hn)
        rw [e] at hk5
        exact hk5
    · refine ite_i (fun he => ?_) fun he => ?_
      · have he := of_decide_eq_true he
        subst he
        rw [s2] at hQ
        exact hQ u h4 U (fun b hb => E.none (Nu b hb)) (E.trans E3)
      · have he := of_decide_eq_false he
        rw [show add .i64 ((k + 1 : Nat) : Int) 1 = ((k + 1 + 1 : Nat) : Int) by rw [add_i64 (by omega) (by omega)]; simp]
        exact hkk _ _ ⟨k + 1, rfl, by omega, U, E.trans E3⟩ (by simp; omega)
end Go.Cz.S

namespace Go.Cz
set_option maxRecDepth 100000
set_option maxHeartbeats 1000000
set_option linter.unusedSimpArgs false
set_option linter.unusedVariables false
/-! ## a round, vertex by vertex -/
def opF (g : Int → Int → Int) (U : List (Nat × Int)) (v : Nat) (x : Int) : Int := U.foldl (fun x p => if p.1 = v then g x p.2 else x) x
theorem opF_append (g : Int → Int → Int) (U W : List (Nat × Int)) (v : Nat) (x : Int) : opF g (U ++ W) v x = opF g W v (opF g U v x) := by unfold opF; rw [List.foldl_append]
theorem opF_cons (g : Int → Int → Int) (p : Nat × Int) (W : List (Nat × Int)) (v : Nat) (x : Int) : opF g (p :: W) v x = opF g W v (if p.1 = v then g x p.2 else x) := rfl
theorem fold_ups {n : Nat} (g : Int → Int → Int) (f : List Int → Int × Int → List Int) (ups : Int × Int → List (Nat × Int)) : ∀ (L : List (Int × Int)) (o : List Int), o.length = n →
    (∀ o e, o.length = n → e ∈ L → (f o e).length = n ∧ ∀ v, gt (f o e) v = opF g (ups e) v (gt o v)) → ∀ v, gt (L.foldl f o) v = opF g (L.flatMap ups) v (gt o v)
  | [], o, _, _, v => rfl
  | e :: L, o, ho, hf, v => by
    obtain ⟨h1, h2⟩ := hf o e ho (List.mem_cons_self ..)
    rw [List.foldl_cons, List.flatMap_cons, opF_append, fold_ups g f ups L (f o e) h1 (fun o e ho he => hf o e ho (List.mem_cons_of_mem _ he)) v, h2 v]
theorem opMin (v : Nat) : ∀ (U : List (Nat × Int)) (x : Int), opF minI U v x ≤ x ∧ (∀ p ∈ U, p.1 = v → opF minI U v x ≤ p.2) ∧ (opF minI U v x = x ∨ ∃ p ∈ U, p.1 = v ∧ opF minI U v x = p.2)
  | [], x => ⟨Int.le_refl _, fun p hp => by simp at hp, .inl rfl⟩
  | q :: U, x => by
    rw [opF_cons]
    obtain ⟨a, b, c⟩ := opMin v U (if q.1 = v then minI x q.2 else x)
    have h1 : (if q.1 = v then minI x q.2 else x) ≤ x := by
      split
      · rw [minI_eq]; split <;> omega
      · exact Int.le_refl _
    refine ⟨by omega, fun p hp hv => ?_, ?_⟩
    · rcases List.mem_cons.1 hp with rfl | hp
      · rw [if_pos hv] at a ⊢
        have : minI x p.2 ≤ p.2 := by rw [minI_eq]; split <;> omega
        omega
      · exact b p hp hv
    · rcases c with c | ⟨p, hp, hv, hc⟩
      · by_cases hq : q.1 = v
        · rw [if_pos hq] at c ⊢
          rw [c]
          rw [minI_eq]
          split
          · exact .inr ⟨q, List.mem_cons_self .., hq, rfl⟩
          · exact .inl rfl
        · rw [if_neg hq] at c ⊢; exact .inl c
      · exact .inr ⟨p, List.mem_cons_of_mem _ hp, hv, hc⟩
def smA (U : List (Nat × Int)) (v : Nat) : Int := U.foldr (fun p s => (if p.1 = v then p.2 else 0) + s) 0
theorem smA_append (U W : List (Nat × Int)) (v : Nat) : smA (U ++ W) v = smA U v + smA W v := by
  induction U with
  | nil => simp [smA]
  | cons p U ih =>
    show (if p.1 = v then p.2 else 0) + smA (U ++ W) v = (if p.1 = v then p.2 else 0) + smA U v + smA W v
    rw [ih, Int.add_assoc]
theorem wrap_add (a b : Int) : IntKind.u64.wrap (IntKind.u64.wrap a + b) = IntKind.u64.wrap (a + b) := by simp [IntKind.wrap, IntKind.bits, IntKind.signed]
theorem opAdd (v : Nat) : ∀ (U : List (Nat × Int)) (x : Int), opF (add .u64) U v (IntKind.u64.wrap x) = IntKind.u64.wrap (x + smA U v)
  | [], x => by simp [opF, smA]
  | q :: U, x => by
    rw [opF_cons]
    show _ = IntKind.u64.wrap (x + ((if q.1 = v then q.2 else 0) + smA U v))
    rw [← Int.add_assoc]
    by_cases hq : q.1 = v
    · rw [if_pos hq, if_pos hq]
      have : add .u64 (IntKind.u64.wrap x) q.2 = IntKind.u64.wrap (x + q.2) := by unfold add; exact wrap_add _ _
      rw [this, opAdd v U]
    · rw [if_neg hq, if_neg hq, opAdd v U, Int.add_zero]
def ups1 (now : List Int) (e : Int × Int) : List (Nat × Int) := if gt now e.1.toNat ≠ FAR then [(e.2.toNat, add .u64 (gt now e.1.toNat) 1)] else []
def ups2 (L : List (Int × Int)) (now : List Int) (e : Int × Int) : List (Nat × Int) := [(e.2.toNat, quo .u64 (gt now e.1.toNat) (bgF L e.1))]
def ups3 (now : List Int) (e : Int × Int) : List (Nat × Int) := [(e.1.toNat, gt now e.2.toNat), (e.2.toNat, gt now e.1.toNat)]
theorem out1 {n : Nat} {L : List (Int × Int)} {now : List Int} (hn : now.length = n) (hb : InN n L) (v : Nat) : gt (outF 1 L now) v = opF minI (L.flatMap (ups1 now)) v (gt now v) := by
  refine fold_ups minI (stO 1 now) (ups1 now) L now hn (fun o e ho he => ⟨by rw [stO_len, ho], fun v => ?_⟩) v
  obtain ⟨b0, b1, b2, b3⟩ := hb e he
  unfold stO ups1
  rw [if_pos rfl]
  by_cases hF : gt now e.1.toNat ≠ FAR
  · rw [if_pos hF, opF_cons]
    show _ = if e.2.toNat = v then minI (gt o v) (add .u64 (gt now e.1.toNat) 1) else gt o v
    by_cases hx : add .u64 (gt now e.1.toNat) 1 < gt o e.2.toNat
    · rw [if_pos ⟨hF, hx⟩, gt_set _ _ (by omega)]
      by_cases hv : e.2.toNat = v
      · subst hv; rw [if_pos rfl, if_pos rfl, minI_eq, if_pos hx]
      · rw [if_neg hv, if_neg hv]
    · rw [if_neg (fun h => hx h.2)]
      by_cases hv : e.2.toNat = v
      · subst hv; rw [if_pos rfl, minI_eq, if_neg hx]
      · rw [if_neg hv]
  · rw [if_neg (fun h => hF h.1), if_neg hF]; rfl
theorem out3 {n : Nat} {L : List (Int × Int)} {now : List Int} (hn : now.length = n) (hb : InN n L) (v : Nat) : gt (outF 3 L now) v = opF minI (L.flatMap (ups3 now)) v (gt now v) := by
  refine fold_ups minI (stO 3 now) (ups3 now) L now hn (fun o e ho he => ⟨by rw [stO_len, ho], fun v => ?_⟩) v
  obtain ⟨b0, b1, b2, b3⟩ := hb e he
  unfold stO ups3
  rw [if_neg (show ¬ ((3 : Int) = 1) by decide), if_pos rfl, opF_cons, opF_cons]
  show _ = if e.2.toNat = v then minI (if e.1.toNat = v then minI (gt o v) (gt now e.2.toNat) else gt o v) (gt now e.1.toNat) else if e.1.toNat = v then minI (gt o v) (gt now e.2.toNat) else gt o v
  rw [gt_set _ _ (by simp; omega)]
  by_cases hv : e.2.toNat = v
  · rw [if_pos hv, if_pos hv, gt_set _ _ (by omega)]
    subst hv
    by_cases h1 : e.1.toNat = e.2.toNat
    · rw [if_pos h1, if_pos h1, h1]
    · rw [if_neg h1, if_neg h1]
  · rw [if_neg hv, if_neg hv, gt_set _ _ (by omega)]
    by_cases h1 : e.1.toNat = v
    · subst h1; rw [if_pos rfl]
    · rw [if_neg h1, if_neg h1]
theorem gt_rep {n v : Nat} (hv : v < n) (x : Int) : gt (List.replicate n x) v = x := by rw [gt_get (by simpa using hv)]; simp
theorem sum2 {n : Nat} {L : List (Int × Int)} {now : List Int} (hb : InN n L) {v : Nat} (hv : v < n) : gt (sumF n 2 L now) v = IntKind.u64.wrap (smA (L.flatMap (ups2 L now)) v) := by
  have := fold_ups (n := n) (add .u64) (stS 2 L now) (ups2 L now) L (List.replicate n 0) (by simp) (fun o e ho he => ⟨by rw [stS_len, ho], fun v => ?_⟩) v
  · unfold sumF
    rw [this, gt_rep hv]
    have := opAdd v (L.flatMap (ups2 L now)) 0
    rw [show IntKind.u64.wrap 0 = 0 from rfl, Int.zero_add] at this
    exact this
  · obtain ⟨b0, b1, b2, b3⟩ := hb e he
    unfold stS ups2
    rw [if_pos rfl, gt_set _ _ (by omega), opF_cons]
    show _ = if e.2.toNat = v then add .u64 (gt o v) (quo .u64 (gt now e.1.toNat) (bgF L e.1)) else gt o v
    by_cases hv : e.2.toNat = v
    · subst hv; rw [if_pos rfl]
    · rw [if_neg hv, if_neg hv]
theorem sum4 {n : Nat} {L : List (Int × Int)} {now : List Int} (hb : InN n L) {v : Nat} (hv : v < n) : gt (sumF n 4 L now) v = IntKind.u64.wrap (smA (L.flatMap (ups3 now)) v) := by
  have := fold_ups (n := n) (add .u64) (stS 4 L now) (ups3 now) L (List.replicate n 0) (by simp) (fun o e ho he => ⟨by rw [stS_len, ho], fun v => ?_⟩) v
  · unfold sumF
    rw [this, gt_rep hv]
    have := opAdd v (L.flatMap (ups3 now)) 0
    rw [show IntKind.u64.wrap 0 = 0 from rfl, Int.zero_add] at this
    exact this
  · obtain ⟨b0, b1, b2, b3⟩ := hb e he
    unfold stS ups3
    rw [if_neg (show ¬ ((4 : Int) = 2) by decide), if_pos rfl, opF_cons, opF_cons]
    show _ = if e.2.toNat = v then add .u64 (if e.1.toNat = v then add .u64 (gt o v) (gt now e.2.toNat) else gt o v) (gt now e.1.toNat) else if e.1.toNat = v then add .u64 (gt o v) (gt now e.2.toNat) else gt o v
    rw [gt_set _ _ (by simp; omega)]
    by_cases hv : e.2.toNat = v
    · rw [if_pos hv, if_pos hv, gt_set _ _ (by omega)]
      subst hv
      by_cases h1 : e.1.toNat = e.2.toNat
      · rw [if_pos h1, if_pos h1, h1]
      · rw [if_neg h1, if_neg h1]
    · rw [if_neg hv, if_neg hv, gt_set _ _ (by omega)]
      by_cases h1 : e.1.toNat = v
      · subst h1; rw [if_pos rfl]
      · rw [if_neg h1, if_neg h1]
/-! ## distances -/
theorem mem_outR {L : List (Int × Int)} {a : Nat} {b : Int} : b ∈ outR L a ↔ ((a : Int), b) ∈ L := by
  unfold outR
  simp only [List.mem_map, List.mem_filter, decide_eq_true_eq]
  constructor
  · rintro ⟨⟨x, y⟩, ⟨hm, hx⟩, hy⟩
    simp only at hx hy
    subst hx; subst hy; exact hm
  · exact fun h => ⟨_, ⟨h, rfl⟩, rfl⟩
theorem next1 {n : Nat} {L : List (Int × Int)} {arg : Int} {now : List Int} {v : Nat} (hv : v < n) : gt (nextF n L 1 arg now) v = gt (outF 1 L now) v := by
  unfold nextF
  rw [gt_map _ hv]
  unfold finF
  rw [if_neg (fun h => absurd h.1 (by decide)), if_neg (by decide)]
theorem next3 {n : Nat} {L : List (Int × Int)} {arg : Int} {now : List Int} {v : Nat} (hv : v < n) : gt (nextF n L 3 arg now) v = gt (outF 3 L now) v := by
  unfold nextF
  rw [gt_map _ hv]
  unfold finF
  rw [if_neg (fun h => absurd h.1 (by decide)), if_neg (by decide)]
theorem bfs_it {n s : Nat} {L : List (Int × Int)} {D : List Int} (h2 : n ≤ 256) (hs : s < n) (hb : InN n L) (B : Bf n s (outR L) D (fun _ => False)) : ∀ k : Nat, k ≤ 1000 → ∀ v, v < n → gt (itF n L 1 s k) v = if gt D v ≤ k then gt D v else FAR
  | 0, _, v, hv => by
    show gt (firstF n 1 s) v = _
    unfold firstF
    rw [gt_map _ hv, if_pos rfl]
    by_cases e : v = s
    · subst e; rw [if_pos rfl, B.src]; rfl
    · rw [if_neg (by omega)]
      by_cases hf : gt D v = FAR
      · rw [hf]; rfl
      · obtain ⟨a, a1, a2, a3, a4⟩ := B.par v hv hf e
        have := (B.val a2).2.1
        rw [if_neg (by omega)]
  | k + 1, hk, v, hv => by
    have ih := bfs_it h2 hs hb B k (by omega)
    have hl := itF_len n L 1 s k
    show gt (nextF n L 1 s (itF n L 1 s k)) v = _
    rw [next1 hv, out1 hl hb]
    obtain ⟨u1, u2, u3⟩ := opMin v (L.flatMap (ups1 (itF n L 1 s k))) (gt (itF n L 1 s k) v)
    generalize hU : opF minI (L.flatMap (ups1 (itF n L 1 s k))) v (gt (itF n L 1 s k) v) = U at u1 u2 u3
    -- an edge that brings something
    have edge : ∀ p ∈ L.flatMap (ups1 (itF n L 1 s k)), p.1 = v → ∃ a, a < n ∧ gt D a ≠ FAR ∧ gt D a ≤ k ∧ ((a : Int), (v : Int)) ∈ L ∧ p.2 = gt D a + 1 := by
      intro p hp hpv
      obtain ⟨e, he, hm⟩ := List.mem_flatMap.1 hp
      obtain ⟨b0, b1, b2, b3⟩ := hb e he
      unfold ups1 at hm
      split at hm
      · rename_i hf
        simp only [List.mem_singleton] at hm
        subst hm
        simp only at hpv
        have ha := ih e.1.toNat (by omega)
        by_cases hle : gt D e.1.toNat ≤ k
        · rw [if_pos hle] at ha
          rw [ha] at hf ⊢
          obtain ⟨_, z0, z1⟩ := B.val hf
          refine ⟨e.1.toNat, by omega, hf, hle, ?_, ?_⟩
          · have : e = (((e.1.toNat : Nat) : Int), (v : Int)) := Prod.ext (by simp; omega) (by simp; omega)
            rw [← this]; exact he
          · exact add_u64 (by omega) (by omega)
        · rw [if_neg hle] at ha; exact absurd ha hf
      · simp at hm
    have don : ∀ a, gt D a ≠ FAR → ((a : Int), (v : Int)) ∈ L → gt D v ≠ FAR ∧ gt D v ≤ gt D a + 1 := by
      intro a ha he
      rcases B.don a (B.val ha).1 ha with h | h
      · exact h.elim
      · have := h (v : Int) (mem_outR.2 he)
        rwa [Int.toNat_natCast] at this
    have now := ih v hv
    by_cases c1 : gt D v ≤ k
    · rw [if_pos c1] at now
      rw [now] at u1 u3
      rw [if_pos (by omega)]
      rcases u3 with u3 | ⟨p, hp, hpv, u3⟩
      · exact u3
      · obtain ⟨a, a1, a2, a3, a4, a5⟩ := edge p hp hpv
        have := (don a a2 a4).2
        omega
    · rw [if_neg c1] at now
      by_cases c2 : gt D v ≤ ((k + 1 : Nat) : Int)
      · rw [if_pos c2]
        have hf : gt D v ≠ FAR := by simp only [FAR]; omega
        have hvs : v ≠ s := fun e => by subst e; rw [B.src] at c1; omega
        obtain ⟨a, a1, a2, a3, a4⟩ := B.par v hv hf hvs
        have hm : (v, add .u64 (gt (itF n L 1 s k) a) 1) ∈ L.flatMap (ups1 (itF n L 1 s k)) := by
          refine List.mem_flatMap.2 ⟨_, mem_outR.1 a3, ?_⟩
          unfold ups1
          have ha := ih a a1
          rw [if_pos (by omega)] at ha
          simp only [Int.toNat_natCast, ha]
          rw [if_pos a2]; simp
        have h5 := u2 _ hm rfl
        have ha := ih a a1
        rw [if_pos (by omega)] at ha
        obtain ⟨_, z0, z1⟩ := B.val a2
        simp only [ha] at h5
        rw [add_u64 (by omega) (by omega)] at h5
        rcases u3 with u3 | ⟨p, hp, hpv, u3⟩
        · rw [u3, now] at h5
          have : (18446744073709551615 : Int) ≤ gt D a + 1 := h5
          omega
        · obtain ⟨a', a1', a2', a3', a4', a5'⟩ := edge p hp hpv
          have := (don a' a2' a4').2
          omega
      · rw [if_neg c2]
        rcases u3 with u3 | ⟨p, hp, hpv, u3⟩
        · rw [u3, now]
        · obtain ⟨a', a1', a2', a3', a4', a5'⟩ := edge p hp hpv
          have := (don a' a2' a4').2
          omega
theorem bfs_level {n s : Nat} {f : Nat → List Int} {D : List Int} (B : Bf n s f D (fun _ => False)) : ∀ (d v : Nat), gt D v ≠ FAR → gt D v = d → ∀ j : Nat, j ≤ d → ∃ u, u < n ∧ gt D u = j
  | d, v, hf, hd, j, hj => by
    by_cases e : j = d
    · subst e; exact ⟨v, (B.val hf).1, hd⟩
    · have hvs : v ≠ s := fun e' => by subst e'; rw [B.src] at hd; omega
      obtain ⟨a, a1, a2, a3, a4⟩ := B.par v (B.val hf).1 hf hvs
      obtain ⟨m, rfl⟩ : ∃ m, d = m + 1 := ⟨d - 1, by omega⟩
      exact bfs_level B m a a2 (by omega) j (by omega)
theorem bfs_says {n s : Nat} {L : List (Int × Int)} {D : List Int} {g : Int} (h2 : n ≤ 256) (hs : s < n) (hb : InN n L) (B : Bf n s (outR L) D (fun _ => False)) (g0 : 0 ≤ g) (g1 : g ≤ 256) (hg : ∀ v, v < n → gt D v ≠ FAR → gt D v ≤ g)
    (hm : g = 0 ∨ ∃ v, v < n ∧ gt D v ≠ FAR ∧ gt D v = g) : Says n L 1 s D (g.toNat + 1) := by
  obtain ⟨g, rfl⟩ : ∃ m : Nat, g = m := ⟨g.toNat, by omega⟩
  rw [Int.toNat_natCast]
  have key : ∀ k : Nat, g ≤ k → k ≤ 1000 → itF n L 1 s k = D := fun k hk hk2 => by
    refine listext (itF_len ..) B.dist.len fun v hv => ?_
    rw [bfs_it h2 hs hb B k hk2 v hv]
    by_cases hf : gt D v = FAR
    · rw [hf]; split <;> rfl
    · rw [if_pos (by have := hg v hv hf; omega)]
  refine ⟨by omega, (key _ (by omega) (by omega)).symm, fun h => absurd h (by decide), fun _ => ⟨?_, fun j j1 j2 he => ?_⟩⟩
  · rw [key _ (by omega) (by omega), key _ (by omega) (by omega)]
  · rcases hm with hm | ⟨v, hv, hf, hm⟩
    · omega
    · obtain ⟨u, hu, hd⟩ := bfs_level B g v hf hm j (by omega)
      have e1 := bfs_it h2 hs hb B j (by omega) u hu
      have e2 := bfs_it h2 hs hb B (j - 1) (by omega) u hu
      rw [if_pos (by omega)] at e1
      rw [if_neg (by omega)] at e2
      rw [he, e2, hd] at e1
      have : (18446744073709551615 : Int) = j := e1
      omega
/-! ## labels -/
def adj (L : List (Int × Int)) (a v : Nat) : Prop := ((a : Int), (v : Int)) ∈ L ∨ ((v : Int), (a : Int)) ∈ L
theorem adj_symm {L : List (Int × Int)} {a v : Nat} (h : adj L a v) : adj L v a := h.symm
theorem mem_allR {L : List (Int × Int)} {a : Nat} {b : Int} : b ∈ allR L a ↔ ((a : Int), b) ∈ L ∨ (b, (a : Int)) ∈ L := by
  unfold allR
  simp only [List.mem_flatMap, List.mem_append]
  constructor
  · rintro ⟨⟨x, y⟩, hm, h⟩
    rcases h with h | h
    · split at h
      · rename_i e
        simp only at e h
        simp only [List.mem_singleton] at h
        subst e; subst h; exact .inl hm
      · simp at h
    · split at h
      · rename_i e
        simp only at e h
        simp only [List.mem_singleton] at h
        subst e; subst h; exact .inr hm
      · simp at h
  · rintro (h | h)
    · exact ⟨_, h, .inl (by simp)⟩
    · exact ⟨_, h, .inr (by simp)⟩
structure Lab (n : Nat) (L : List (Int × Int)) (C : List Int) (d : Nat → Int) (most : Int) : Prop where
  len : C.length = n
  own : ∀ v, v < n → 0 ≤ gt C v ∧ gt C v ≤ v ∧ 0 ≤ d v ∧ d v ≤ most ∧ (d v = 0 ↔ gt C v = v)
  par : ∀ v, v < n → 0 < d v → ∃ a, a < n ∧ adj L a v ∧ gt C a = gt C v ∧ d v = d a + 1
  don : ∀ a v, a < n → v < n → adj L a v → gt C v = gt C a ∧ d v ≤ d a + 1
  top : most = 0 ∨ ∃ v, v < n ∧ d v = most
theorem lab_it {n : Nat} {L : List (Int × Int)} {C : List Int} {d : Nat → Int} {most : Int} (hb : InN n L) (B : Lab n L C d most) : ∀ k : Nat, ∀ v, v < n → gt C v ≤ gt (itF n L 3 0 k) v ∧ (d v ≤ k → gt (itF n L 3 0 k) v = gt C v) ∧ ((k : Int) < d v → gt (itF n L 3 0 k) v ≠ gt C v)
  | 0, v, hv => by
    obtain ⟨o1, o2, o3, o4, o5⟩ := B.own v hv
    show gt C v ≤ gt (firstF n 3 0) v ∧ (_ → gt (firstF n 3 0) v = _) ∧ (_ → gt (firstF n 3 0) v ≠ _)
    unfold firstF
    rw [gt_map _ hv, if_neg (by decide), if_neg (by decide), if_pos rfl]
    refine ⟨o2, fun h => (o5.1 (by omega)).symm, fun h e => ?_⟩
    have := o5.2 e.symm
    omega
  | k + 1, v, hv => by
    have ih := lab_it hb B k
    have hl := itF_len n L 3 0 k
    show gt C v ≤ gt (nextF n L 3 0 (itF n L 3 0 k)) v ∧ (_ → gt (nextF n L 3 0 (itF n L 3 0 k)) v = _) ∧ (_ → gt (nextF n L 3 0 (itF n L 3 0 k)) v ≠ _)
    rw [next3 hv, out3 hl hb]
    obtain ⟨u1, u2, u3⟩ := opMin v (L.flatMap (ups3 (itF n L 3 0 k))) (gt (itF n L 3 0 k) v)
    generalize hU : opF minI (L.flatMap (ups3 (itF n L 3 0 k))) v (gt (itF n L 3 0 k) v) = U at u1 u2 u3
    have edge : ∀ p ∈ L.flatMap (ups3 (itF n L 3 0 k)), p.1 = v → ∃ a, a < n ∧ adj L a v ∧ p.2 = gt (itF n L 3 0 k) a := by
      intro p hp hpv
      obtain ⟨e, he, hm⟩ := List.mem_flatMap.1 hp
      obtain ⟨b0, b1, b2, b3⟩ := hb e he
      unfold ups3 at hm
      have e1 : e = (((e.1.toNat : Nat) : Int), ((e.2.toNat : Nat) : Int)) := Prod.ext (by simp; omega) (by simp; omega)
      rw [e1] at he
      simp only [List.mem_cons, List.not_mem_nil, or_false] at hm
      rcases hm with rfl | rfl
      · simp only at hpv
        subst hpv
        exact ⟨e.2.toNat, by omega, .inr he, rfl⟩
      · simp only at hpv
        subst hpv
        exact ⟨e.1.toNat, by omega, .inl he, rfl⟩
    have cand : ∀ a, a < n → adj L a v → U ≤ gt (itF n L 3 0 k) a := by
      intro a ha hadj
      rcases hadj with he | he
      · refine u2 (v, gt (itF n L 3 0 k) a) (List.mem_flatMap.2 ⟨_, he, ?_⟩) rfl
        unfold ups3
        simp
      · refine u2 (v, gt (itF n L 3 0 k) a) (List.mem_flatMap.2 ⟨_, he, ?_⟩) rfl
        unfold ups3
        simp
    obtain ⟨i1, i2, i3⟩ := ih v hv
    have low : gt C v ≤ U := by
      rcases u3 with u3 | ⟨p, hp, hpv, u3⟩
      · omega
      · obtain ⟨a, a1, a2, a3⟩ := edge p hp hpv
        have := (ih a a1).1
        have := (B.don a v a1 hv a2).1
        omega
    refine ⟨low, fun hd => ?_, fun hd => ?_⟩
    · by_cases hk : d v ≤ k
      · have := i2 hk; omega
      · obtain ⟨a, a1, a2, a3, a4⟩ := B.par v hv (by omega)
        have := cand a a1 a2
        have := (ih a a1).2.1 (by omega)
        omega
    · rcases u3 with u3 | ⟨p, hp, hpv, u3⟩
      · rw [u3]; exact i3 (by omega)
      · obtain ⟨a, a1, a2, a3⟩ := edge p hp hpv
        obtain ⟨c1, c2⟩ := B.don a v a1 hv a2
        rw [u3, a3, c1]
        exact (ih a a1).2.2 (by omega)
theorem lab_level {n : Nat} {L : List (Int × Int)} {C : List Int} {d : Nat → Int} {most : Int} (B : Lab n L C d most) : ∀ (m v : Nat), v < n → d v = m → ∀ j : Nat, j ≤ m → ∃ u, u < n ∧ d u = j
  | m, v, hv, hd, j, hj => by
    by_cases e : j = m
    · subst e; exact ⟨v, hv, hd⟩
    · obtain ⟨a, a1, a2, a3, a4⟩ := B.par v hv (by omega)
      obtain ⟨m', rfl⟩ : ∃ m', m = m' + 1 := ⟨m - 1, by omega⟩
      exact lab_level B m' a a1 (by omega) j (by omega)
theorem lab_says {n : Nat} {L : List (Int × Int)} {C : List Int} {d : Nat → Int} {most : Int} (hb : InN n L) (B : Lab n L C d most) (g0 : 0 ≤ most) : Says n L 3 0 C (most.toNat + 1) := by
  obtain ⟨g, rfl⟩ : ∃ m : Nat, most = m := ⟨most.toNat, by omega⟩
  rw [Int.toNat_natCast]
  have key : ∀ k : Nat, g ≤ k → itF n L 3 0 k = C := fun k hk => by
    refine listext (itF_len ..) B.len fun v hv => ?_
    exact (lab_it hb B k v hv).2.1 (by have := (B.own v hv).2.2.2.1; omega)
  refine ⟨by omega, (key _ (by omega)).symm, fun h => absurd h (by decide), fun _ => ⟨?_, fun j j1 j2 he => ?_⟩⟩
  · rw [key _ (by omega), key _ (by omega)]
  · rcases B.top with hm | ⟨v, hv, hm⟩
    · omega
    · obtain ⟨u, hu, hd⟩ := lab_level B g v hv hm j (by omega)
      have e1 := (lab_it hb B j u hu).2.1 (by omega)
      have e2 := (lab_it hb B (j - 1) u hu).2.2 (by omega)
      rw [he] at e1
      exact e2 e1
end Go.Cz

namespace Go.Cz
set_option maxRecDepth 100000
set_option maxHeartbeats 1000000
set_option linter.unusedSimpArgs false
set_option linter.unusedVariables false
/-! ## cores -/
def smI (l : List Int) : Int := l.foldr (· + ·) 0
theorem smI_append (a b : List Int) : smI (a ++ b) = smI a + smI b := by
  induction a with
  | nil => simp [smI]
  | cons x a ih =>
    show x + smI (a ++ b) = x + smI a + smI b
    rw [ih, Int.add_assoc]
def degF (L : List (Int × Int)) (now : List Int) (v : Nat) : Int := smI ((allR L v).map fun u => gt now u.toNat)
theorem smI_ite (p : Prop) [Decidable p] (x : Int) (f : Int → Int) : smI ((if p then [x] else []).map f) = if p then f x else 0 := by
  split
  · show f x + 0 = f x; omega
  · rfl
theorem core_sum {n : Nat} {now : List Int} (v : Nat) : ∀ (L : List (Int × Int)), InN n L → smA (L.flatMap (ups3 now)) v = degF L now v
  | [], _ => rfl
  | e :: L, hb => by
    obtain ⟨b0, b1, b2, b3⟩ := hb e (List.mem_cons_self ..)
    have ih := core_sum (now := now) v L fun e he => hb e (List.mem_cons_of_mem _ he)
    rw [List.flatMap_cons, smA_append, ih]
    unfold degF allR
    rw [List.flatMap_cons, List.map_append, smI_append]
    congr 1
    rw [List.map_append, smI_append, smI_ite, smI_ite]
    unfold ups3
    show (if e.1.toNat = v then gt now e.2.toNat else 0) + ((if e.2.toNat = v then gt now e.1.toNat else 0) + 0) = _
    have c1 : (e.1.toNat = v) = (e.1 = (v : Int)) := by apply propext; omega
    have c2 : (e.2.toNat = v) = (e.2 = (v : Int)) := by apply propext; omega
    simp only [c1, c2, Int.add_zero]
theorem allR_len (v : Nat) : ∀ L : List (Int × Int), (allR L v).length ≤ 2 * L.length
  | [] => Nat.le_refl _
  | e :: L => by
    have ih := allR_len v L
    unfold allR at ih ⊢
    rw [List.flatMap_cons, List.length_append, List.length_append, List.length_cons]
    have : (if e.1 = (v : Int) then [e.2] else []).length ≤ 1 := by split <;> simp
    have : (if e.2 = (v : Int) then [e.1] else []).length ≤ 1 := by split <;> simp
    omega
theorem allR_in {n : Nat} {L : List (Int × Int)} (hb : InN n L) (v : Nat) : ∀ u ∈ allR L v, 0 ≤ u ∧ u < (n : Int) := fun u hu => by
  rcases mem_allR.1 hu with h | h
  · have := hb _ h; exact ⟨this.2.2.1, this.2.2.2⟩
  · have := hb _ h; exact ⟨this.1, this.2.1⟩
theorem outR_in {n : Nat} {L : List (Int × Int)} (hb : InN n L) (v : Nat) : ∀ u ∈ outR L v, 0 ≤ u ∧ u < (n : Int) := fun u hu => by
  have := hb _ (mem_outR.1 hu); exact ⟨this.2.2.1, this.2.2.2⟩
theorem outR_len (L : List (Int × Int)) (v : Nat) : ((outR L v).length : Int) = bgF L v := by
  unfold outR bgF
  rw [List.length_map, List.countP_eq_length_filter]
def Bits01 (n : Nat) (l : List Int) : Prop := ∀ v, v < n → gt l v = 0 ∨ gt l v = 1
theorem smI_bound {n : Nat} {now : List Int} (h : Bits01 n now) : ∀ (l : List Int), (∀ u ∈ l, 0 ≤ u ∧ u < (n : Int)) → 0 ≤ smI (l.map fun u => gt now u.toNat) ∧ smI (l.map fun u => gt now u.toNat) ≤ l.length
  | [], _ => ⟨Int.le_refl _, Int.le_refl _⟩
  | u :: l, hl => by
    have ih := smI_bound h l fun u hu => hl u (List.mem_cons_of_mem _ hu)
    have hu := hl u (List.mem_cons_self ..)
    have := h u.toNat (by omega)
    show 0 ≤ gt now u.toNat + smI (l.map fun u => gt now u.toNat) ∧ gt now u.toNat + smI (l.map fun u => gt now u.toNat) ≤ ((u :: l).length : Int)
    rw [List.length_cons]
    omega
theorem foldl_id {α : Type} (f : List Int → α → List Int) (hf : ∀ o e, f o e = o) : ∀ (L : List α) (o : List Int), L.foldl f o = o
  | [], o => rfl
  | e :: L, o => by rw [List.foldl_cons, hf, foldl_id f hf L]
theorem next4 {n : Nat} {L : List (Int × Int)} {c : Int} {now : List Int} (hb : InN n L) (hL : L.length ≤ 4096) (c0 : 0 ≤ c) (c1 : c ≤ 4096) (hB : Bits01 n now) {v : Nat} (hv : v < n) :
    gt (nextF n L 4 c now) v = if degF L now v < c then 0 else gt now v := by
  unfold nextF
  rw [gt_map _ hv]
  unfold finF
  have ho : outF 4 L now = now := foldl_id _ (fun o e => by unfold stO; rw [if_neg (by decide), if_neg (by decide)]) L now
  have hd := smI_bound hB (allR L v) (allR_in hb v)
  have hl := allR_len v L
  have hd' : 0 ≤ degF L now v ∧ degF L now v ≤ 8192 := by unfold degF; omega
  rw [ho, sum4 hb hv, core_sum v L hb, wrapu hd'.1 (by omega), cnv_u64' c0 c1]
  by_cases h : degF L now v < c
  · rw [if_pos ⟨rfl, h⟩, if_pos h]
  · rw [if_neg (fun h' => h h'.2), if_neg h, if_neg (by decide)]
where
  cnv_u64' {c : Int} (c0 : 0 ≤ c) (c1 : c ≤ 4096) : cnv .u64 c = c := by unfold cnv; exact wrapu c0 (by omega)
theorem bits_it {n : Nat} {L : List (Int × Int)} {c : Int} (hb : InN n L) (hL : L.length ≤ 4096) (c0 : 0 ≤ c) (c1 : c ≤ 4096) : ∀ k, Bits01 n (itF n L 4 c k)
  | 0, v, hv => by
    show gt (firstF n 4 c) v = 0 ∨ gt (firstF n 4 c) v = 1
    unfold firstF
    rw [gt_map _ hv, if_neg (by decide), if_neg (by decide), if_neg (by decide), if_pos rfl]
    exact .inr rfl
  | k + 1, v, hv => by
    have ih := bits_it hb hL c0 c1 k
    show gt (nextF n L 4 c (itF n L 4 c k)) v = 0 ∨ gt (nextF n L 4 c (itF n L 4 c k)) v = 1
    rw [next4 hb hL c0 c1 ih hv]
    split
    · exact .inl rfl
    · exact ih v hv
/-! ## ranks -/
def rowU (L : List (Int × Int)) (now : List Int) (u : Nat) : List (Nat × Int) := (outR L u).map fun j => (j.toNat, quo .u64 (gt now u) (bgF L u))
theorem range_one (p : Nat × Int) (v a : Nat) (R : Nat → List (Nat × Int)) : ∀ m : Nat, smA ((List.range m).flatMap fun u => if u = a then p :: R u else R u) v = smA ((List.range m).flatMap R) v + (if a < m then (if p.1 = v then p.2 else 0) else 0)
  | 0 => by simp [smA]
  | m + 1 => by
    rw [List.range_succ, List.flatMap_append, List.flatMap_append, smA_append, smA_append, range_one p v a R m]
    simp only [List.flatMap_cons, List.flatMap_nil, List.append_nil]
    by_cases e : m = a
    · subst e
      rw [if_pos rfl, if_neg (Nat.lt_irrefl _), if_pos (Nat.lt_succ_self _)]
      show _ + ((if p.1 = v then p.2 else 0) + smA (R m) v) = _
      omega
    · rw [if_neg e]
      by_cases h : a < m
      · rw [if_pos h, if_pos (show a < m + 1 by omega)]; exact Int.add_right_comm _ _ _
      · rw [if_neg h, if_neg (show ¬ a < m + 1 by omega), Int.add_zero, Int.add_zero]
theorem rank_swap {n : Nat} (q : Nat → Int) (v : Nat) : ∀ L : List (Int × Int), InN n L → smA ((List.range n).flatMap fun u => (outR L u).map fun j => (j.toNat, q u)) v = smA (L.flatMap fun e => [(e.2.toNat, q e.1.toNat)]) v
  | [], _ => by
    have : (List.range n).flatMap (fun u => (outR [] u).map fun j => (j.toNat, q u)) = [] := by simp [outR]
    rw [this]; rfl
  | e :: L, hb => by
    obtain ⟨b0, b1, b2, b3⟩ := hb e (List.mem_cons_self ..)
    have ih := rank_swap q v L fun e he => hb e (List.mem_cons_of_mem _ he)
    have hf : (fun u => (outR (e :: L) u).map fun j => (j.toNat, q u)) = fun u => if u = e.1.toNat then (e.2.toNat, q e.1.toNat) :: ((outR L u).map fun j => (j.toNat, q u)) else (outR L u).map fun j => (j.toNat, q u) := by
      funext u
      unfold outR
      rw [List.filter_cons]
      by_cases h : u = e.1.toNat
      · rw [if_pos h, if_pos (by simp; omega)]; subst h; rfl
      · rw [if_neg h, if_neg (by simp; omega)]
    rw [hf, range_one, if_pos (by omega), ih, List.flatMap_cons, smA_append]
    show _ + _ = ((if e.2.toNat = v then q e.1.toNat else 0) + 0) + _
    omega
theorem rank_sum {n : Nat} {L : List (Int × Int)} {now : List Int} (hb : InN n L) (v : Nat) : smA ((List.range n).flatMap (rowU L now)) v = smA (L.flatMap (ups2 L now)) v := by
  have := rank_swap (n := n) (fun u => quo .u64 (gt now u) (bgF L u)) v L hb
  unfold rowU
  rw [this]
  congr 1
  have : ∀ M : List (Int × Int), InN n M → (M.flatMap fun e => [(e.2.toNat, quo .u64 (gt now e.1.toNat) (bgF L ((e.1.toNat : Nat) : Int)))]) = M.flatMap (ups2 L now) := by
    intro M
    induction M with
    | nil => intro _; rfl
    | cons e M ih =>
      intro hM
      obtain ⟨b0, b1, b2, b3⟩ := hM e (List.mem_cons_self ..)
      rw [List.flatMap_cons, List.flatMap_cons, ih fun e he => hM e (List.mem_cons_of_mem _ he)]
      unfold ups2
      rw [show ((e.1.toNat : Nat) : Int) = e.1 by omega]
  exact this L hb
theorem next2 {n : Nat} {L : List (Int × Int)} {c : Int} {now : List Int} (hb : InN n L) {v : Nat} (hv : v < n) :
    gt (nextF n L 2 c now) v = add .u64 644245094 (quo .u64 (mul .u64 (IntKind.u64.wrap (smA ((List.range n).flatMap (rowU L now)) v)) 850) 1000) := by
  unfold nextF
  rw [gt_map _ hv]
  unfold finF
  rw [if_neg (fun h => absurd h.1 (by decide)), if_pos rfl, sum2 hb hv, rank_sum hb]
end Go.Cz

namespace Go.Cz.S
set_option maxRecDepth 100000
set_option maxHeartbeats 1000000
set_option linter.unusedSimpArgs false
set_option linter.unusedVariables false
theorem greatestF_spec {r : Sl} {outL : List Int} {h : H} (A : Arr h r (eI .u64) outL) (hl : outL.length ≤ 256) (hv : DistV outL) {Q : Int → HProp}
    (hQ : ∀ g, 0 ≤ g → g ≤ 256 → (∀ v, v < outL.length → gt outL v ≠ FAR → gt outL v ≤ g) → (g = 0 ∨ ∃ v, v < outL.length ∧ gt outL v ≠ FAR ∧ gt outL v = g) → Q g h) : truth_greatest r Q h := by
  unfold truth_greatest
  simp only [A.len, ltI_eq, eqI_eq]
  refine loop_i (fun (p : Int × Int) h' => h' = h ∧ 0 ≤ p.1 ∧ p.1 ≤ 256 ∧ ∃ i : Nat, p.2 = i ∧ i ≤ outL.length ∧ (∀ v, v < i → gt outL v ≠ FAR → gt outL v ≤ p.1) ∧ (p.1 = 0 ∨ ∃ v, v < outL.length ∧ gt outL v ≠ FAR ∧ gt outL v = p.1)) (fun p => ((outL.length : Int) - p.2).toNat) ⟨rfl, by decide, by decide, 0, rfl, Nat.zero_le _, fun v hv => absurd hv (Nat.not_lt_zero _), .inl rfl⟩ ?_
  rintro ⟨g, i⟩ h' ⟨rfl, g0, g1, i, rfl, hi, hle, htop⟩ k hk
  simp only at *
  refine ite_i (fun hlt => ?_) fun hge => ?_
  · have hlt : i < outL.length := by simpa using hlt
    refine with_u (A.numg hlt ?_)
    refine ite_i (fun hx => ?_) fun hx => ?_
    · have hx : gt outL i ≠ FAR := by simpa using hx
      rcases hv (gt outL i) (by rw [gt_get hlt]; exact List.getElem_mem hlt) with h | ⟨a, b⟩
      · exact absurd h hx
      · rw [add_i64 (by omega) (by omega)]
        refine hk _ _ ⟨rfl, ?_, ?_, i + 1, by simp, by omega, fun v hv hf => ?_, ?_⟩ (by simp; omega)
        · simp only [maxI_eq]; split <;> omega
        · simp only [maxI_eq]; split <;> omega
        · simp only [maxI_eq]
          by_cases e : v = i
          · subst e; split <;> omega
          · have := hle v (by omega) hf
            split <;> omega
        · simp only [maxI_eq]
          split
          · exact .inr ⟨i, hlt, hx, rfl⟩
          · exact htop
    · have hx : gt outL i = FAR := by simpa using hx
      rw [add_i64 (by omega) (by omega)]
      refine hk _ _ ⟨rfl, g0, g1, i + 1, by simp, by omega, fun v hv hf => ?_, htop⟩ (by simp; omega)
      by_cases e : v = i
      · subst e; exact absurd hx hf
      · exact hle v (by omega) hf
  · have heq : i = outL.length := by have : ¬ (i < outL.length) := (by simpa using hge); omega
    obtain ⟨m, rfl⟩ : ∃ m : Nat, g = m := ⟨g.toNat, by omega⟩
    have := small_cnv ⟨m, by omega⟩
    simp only at this
    rw [this]
    rw [heq] at hle
    exact hQ _ g0 g1 hle htop
theorem _root_.Go.Cz.Bf.distV {n s : Nat} {f : Nat → List Int} {D : List Int} {P : Nat → Prop} (B : Bf n s f D P) (h2 : n ≤ 256) : DistV D := fun x hx => by
  rcases B.dist.val x hx with h | h
  · exact .inl h
  · exact .inr ⟨h.1, by omega⟩
structure LabI (n : Nat) (L : List (Int × Int)) (i : Nat) (C : List Int) (d : Nat → Int) (most : Int) : Prop where
  len : C.length = n
  m0 : 0 ≤ most
  m1 : most ≤ 256
  did : ∀ v, v < i → gt C v ≠ FAR
  own : ∀ v, v < n → gt C v ≠ FAR → 0 ≤ gt C v ∧ gt C v ≤ v ∧ 0 ≤ d v ∧ d v ≤ most ∧ (d v = 0 ↔ gt C v = v)
  par : ∀ v, v < n → gt C v ≠ FAR → 0 < d v → ∃ a, a < n ∧ gt C a ≠ FAR ∧ adj L a v ∧ gt C a = gt C v ∧ d v = d a + 1
  don : ∀ a v, a < n → v < n → gt C a ≠ FAR → adj L a v → gt C v = gt C a ∧ d v ≤ d a + 1
  top : most = 0 ∨ ∃ v, v < n ∧ gt C v ≠ FAR ∧ d v = most
theorem LabI.fresh {n i : Nat} {L : List (Int × Int)} {C : List Int} {d : Nat → Int} {most : Int} (I : LabI n L i C d most) {D : List Int} (hC : gt C i = FAR) (B : Bf n i (allR L) D (fun _ => False)) : ∀ (m u : Nat), gt D u ≠ FAR → gt D u = m → gt C u = FAR
  | m, u, hf, hd => by
    by_cases e : u = i
    · subst e; exact hC
    · obtain ⟨a, a1, a2, a3, a4⟩ := B.par u (B.val hf).1 hf e
      have a0 := (B.val a2).2.1
      obtain ⟨m', rfl⟩ : ∃ m', m = m' + 1 := ⟨m - 1, by omega⟩
      have ha := LabI.fresh I hC B m' a a2 (by omega)
      apply Classical.byContradiction
      intro hx
      have hadj : adj L u a := (mem_allR.1 a3).symm
      have := (I.don u a (B.val hf).1 a1 hx hadj).1
      rw [ha] at this
      exact hx this.symm
theorem LabI.next {n i : Nat} {L : List (Int × Int)} {C C' : List Int} {d : Nat → Int} {most g : Int} (I : LabI n L i C d most) (hi : i < n) (h2 : n ≤ 256) {D : List Int} (hC : gt C i = FAR) (B : Bf n i (allR L) D (fun _ => False))
    (g0 : 0 ≤ g) (g1 : g ≤ 256) (hg : ∀ v, v < n → gt D v ≠ FAR → gt D v ≤ g) (ht : g = 0 ∨ ∃ v, v < n ∧ gt D v ≠ FAR ∧ gt D v = g) (hl : C'.length = n) (hC' : ∀ v, v < n → gt C' v = if gt D v ≠ FAR then (i : Int) else gt C v) :
    LabI n L (i + 1) C' (fun v => if gt D v ≠ FAR then gt D v else d v) (maxI most g) := by
  have fr : ∀ u, gt D u ≠ FAR → gt C u = FAR := fun u hf => I.fresh hC B _ u hf (Int.toNat_of_nonneg (B.val hf).2.1).symm
  have m0 := I.m0
  have m1 := I.m1
  have hmx : most ≤ maxI most g ∧ g ≤ maxI most g ∧ (maxI most g = most ∨ maxI most g = g) := by rw [maxI_eq]; split <;> omega
  have hiF : (i : Int) ≠ FAR := by simp only [FAR]; omega
  have zero : ∀ u, gt D u ≠ FAR → (gt D u = 0 ↔ (i : Int) = u) := fun u hf => by
    constructor
    · intro h0
      by_cases e : u = i
      · omega
      · obtain ⟨a, a1, a2, a3, a4⟩ := B.par u (B.val hf).1 hf e
        have := (B.val a2).2.1
        omega
    · intro e
      have : u = i := by omega
      subst this; exact B.src
  refine ⟨hl, by omega, by omega, fun v hv => ?_, fun v hv hf => ?_, fun v hv hf hd => ?_, fun a v ha hv hf hadj => ?_, ?_⟩
  · rw [hC' v (by omega)]
    by_cases h : gt D v ≠ FAR
    · rw [if_pos h]; exact hiF
    · rw [if_neg h]
      by_cases e : v = i
      · subst e; exact absurd (by rw [B.src]; decide) h
      · exact I.did v (by omega)
  · rw [hC' v hv] at hf ⊢
    by_cases h : gt D v ≠ FAR
    · simp only [if_pos h] at hf ⊢
      have := hg v hv h
      have := (B.val h).2.1
      refine ⟨by omega, ?_, by omega, by omega, zero v h⟩
      have hfr := fr v h
      by_cases e : v < i
      · exact absurd hfr (I.did v e)
      · omega
    · simp only [if_neg h] at hf ⊢
      obtain ⟨o1, o2, o3, o4, o5⟩ := I.own v hv hf
      exact ⟨o1, o2, o3, by omega, o5⟩
  · rw [hC' v hv] at hf
    by_cases h : gt D v ≠ FAR
    · simp only [if_pos h] at hf hd
      have hvi : v ≠ i := fun e => by subst e; rw [B.src] at hd; omega
      obtain ⟨a, a1, a2, a3, a4⟩ := B.par v hv h hvi
      refine ⟨a, a1, ?_, mem_allR.1 a3, ?_, ?_⟩
      · rw [hC' a a1, if_pos a2]; exact hiF
      · rw [hC' a a1, hC' v hv, if_pos a2, if_pos h]
      · simp only [if_pos a2, if_pos h]; exact a4
    · simp only [if_neg h] at hf hd
      obtain ⟨a, a1, a2, a3, a4, a5⟩ := I.par v hv hf hd
      have ha : ¬ (gt D a ≠ FAR) := fun hx => a2 (fr a hx)
      refine ⟨a, a1, ?_, a3, ?_, ?_⟩
      · rw [hC' a a1, if_neg ha]; exact a2
      · rw [hC' a a1, hC' v hv, if_neg ha, if_neg h]; exact a4
      · simp only [if_neg ha, if_neg h]; exact a5
  · rw [hC' a ha] at hf
    by_cases h : gt D a ≠ FAR
    · rcases B.don a ha h with hx | hx
      · exact hx.elim
      · have hm : ((v : Nat) : Int) ∈ allR L a := mem_allR.2 hadj
        obtain ⟨x1, x2⟩ := hx _ hm
        rw [Int.toNat_natCast] at x1 x2
        rw [hC' a ha, hC' v hv]
        simp only [if_pos h, if_pos x1]
        exact ⟨trivial, x2⟩
    · simp only [if_neg h] at hf
      obtain ⟨x1, x2⟩ := I.don a v ha hv hf hadj
      have hv' : ¬ (gt D v ≠ FAR) := fun hx => by
        rw [fr v hx] at x1; exact hf x1.symm
      rw [hC' a ha, hC' v hv]
      simp only [if_neg h, if_neg hv']
      exact ⟨x1, x2⟩
  · rcases hmx.2.2 with e | e
    · rw [e]
      rcases I.top with h | ⟨v, v1, v2, v3⟩
      · exact .inl h
      · have hv' : ¬ (gt D v ≠ FAR) := fun hx => v2 (fr v hx)
        refine .inr ⟨v, v1, ?_, ?_⟩
        · rw [hC' v v1, if_neg hv']; exact v2
        · simp only [if_neg hv']; exact v3
    · rw [e]
      rcases ht with h | ⟨v, v1, v2, v3⟩
      · exact .inl h
      · refine .inr ⟨v, v1, ?_, ?_⟩
        · rw [hC' v v1, if_pos v2]; exact hiF
        · simp only [if_pos v2]; exact v3
theorem labelsF_spec {n : Nat} {vo va : Sl} {L : List (Int × Int)} {h : H} (h1 : 1 ≤ n) (h2 : n ≤ 256) (R : RowsF n h va (allR L)) (hb : InN n L) (hL : L.length ≤ 4096) {Q : Sl × Int → HProp}
    (hQ : ∀ r m h' outL, Vec h' r (eI .u64) outL → Says n L 3 0 outL (m + 1) → m ≤ 256 → New h r → Ext h h' → Q (r, (m : Int)) h') : truth_graph_labels ((n : Int), vo, va) Q h := by
  unfold truth_graph_labels
  simp only [ltI_eq, eqI_eq]
  have hok : OkRows n (allR L) := fun i hi => ⟨by have := allR_len i L; omega, allR_in hb i⟩
  refine fill_spec h1 h2 fun r ha V0 hra N0 E0 => ?_
  refine loop_i (fun (p : Int × Int) h' => ∃ (i : Nat) (outL : List Int) (d : Nat → Int), p.2 = i ∧ i ≤ n ∧ LabI n L i outL d p.1 ∧ Vec h' r (eI .u64) outL ∧ Ext h h') (fun p => ((n : Int) - p.2).toNat) ⟨0, _, fun _ => 0, rfl, Nat.zero_le _, ?_, V0, E0⟩ ?_
  · have rep : ∀ v, v < n → gt (List.replicate n FAR) v = FAR := fun v hv => gt_rep hv _
    exact ⟨by simp, by decide, by decide, fun v hv => absurd hv (Nat.not_lt_zero _), fun v hv hf => absurd (rep v hv) hf, fun v hv hf => absurd (rep v hv) hf, fun a v ha hv hf => absurd (rep a ha) hf, .inl rfl⟩
  rintro ⟨m, i⟩ h' ⟨i, outL, d, rfl, hi, I, V, E⟩ k hk
  simp only at *
  have hlen := I.len
  refine ite_i (fun hlt => ?_) fun hge => ?_
  · have hlt : i < n := by simpa using hlt
    refine with_u (V.arr.numg (by omega) ?_)
    rw [add_i64 (by omega) (by omega)]
    refine ite_i (fun hx => ?_) fun hx => ?_
    · have hx : gt outL i ≠ FAR := by simpa using hx
      refine hk _ _ ⟨i + 1, outL, d, by simp, by omega, ⟨I.len, I.m0, I.m1, fun v hv => ?_, I.own, I.par, I.don, I.top⟩, V, E⟩ (by simp; omega)
      by_cases e : v = i
      · subst e; exact hx
      · exact I.did v (by omega)
    · have hx : gt outL i = FAR := by simpa using hx
      refine farF_spec h1 h2 hlt (R.ext E) hok fun r1 h3 D V1 B N1 E1 => ?_
      have V3 := V.ext E1
      have hl1 := B.dist.len
      have hne : ∀ b, r1.on b → ¬ r.on b := fun b hb hr => by obtain ⟨o, ho⟩ := V.there hr; rw [N1 b hb] at ho; cases ho
      simp only [V1.len, hl1]
      refine loop_i (fun (j : Int) h4 => ∃ (jn : Nat) (outL' : List Int), j = jn ∧ jn ≤ n ∧ Vec h4 r (eI .u64) outL' ∧ outL'.length = n ∧ (∀ v, v < n → gt outL' v = if v < jn ∧ gt D v ≠ FAR then (i : Int) else gt outL v) ∧ Vec h4 r1 (eI .u64) D ∧ Ext h h4) (fun j => ((n : Int) - j).toNat)
        ⟨0, outL, rfl, Nat.zero_le _, V3, hlen, fun v hv => by rw [if_neg (fun h => absurd h.1 (Nat.not_lt_zero _))], V1, E.trans E1⟩ ?_
      rintro j h4 ⟨j, outL', rfl, hj, V4, hlen4, hC4, V14, E4⟩ k1 hk1
      refine ite_i (fun hjlt => ?_) fun hjge => ?_
      · have hjlt : j < n := by simpa using hjlt
        refine with_u (V14.arr.numg (by omega) ?_)
        rw [add_i64 (by omega) (by omega)]
        refine ite_i (fun hx => ?_) fun hx => ?_
        · have hx : gt D j ≠ FAR := by simpa using hx
          refine V4.put (by omega) fun h5 V5 F5 => ?_
          refine hk1 _ _ ⟨j + 1, _, by simp, by omega, V5, by simp [hlen4], fun v hv => ?_, V14.fr F5 (fun b hb hr => hne b hb hr), E4.of_new F5 N0⟩ (by omega)
          rw [gt_set _ _ (by omega)]
          by_cases e : j = v
          · subst e; rw [if_pos rfl, if_pos ⟨by omega, hx⟩, cnv_u64 (by omega) (by omega)]
          · rw [if_neg e, hC4 v hv]
            by_cases e2 : v < j ∧ gt D v ≠ FAR
            · rw [if_pos e2, if_pos ⟨by omega, e2.2⟩]
            · rw [if_neg e2, if_neg (fun h => e2 ⟨by omega, h.2⟩)]
        · have hx : gt D j = FAR := by simpa using hx
          refine hk1 _ _ ⟨j + 1, outL', by simp, by omega, V4, hlen4, fun v hv => ?_, V14, E4⟩ (by omega)
          rw [hC4 v hv]
          by_cases e2 : v < j ∧ gt D v ≠ FAR
          · rw [if_pos e2, if_pos ⟨by omega, e2.2⟩]
          · rw [if_neg e2, if_neg (fun h => e2 ⟨by
              by_cases e : v = j
              · subst e; exact absurd hx h.2
              · omega, h.2⟩)]
      · have hj : j = n := by have : ¬ (j < n) := (by simpa using hjge); omega
        subst hj
        refine greatestF_spec V14.arr (by omega) (B.distV h2) fun g g0 g1 hgl hgt => ?_
        rw [hl1] at hgl hgt
        refine hk _ _ ⟨i + 1, outL', _, by simp, by omega, I.next hlt h2 hx B g0 g1 hgl hgt hlen4 fun v hv => ?_, V4, E4⟩ (by simp; omega)
        rw [hC4 v hv]
        simp only [hv, true_and]
  · have : i = n := by have : ¬ (i < n) := (by simpa using hge); omega
    subst this
    obtain ⟨m, rfl⟩ : ∃ m' : Nat, m = m' := ⟨m.toNat, by have := I.m0; omega⟩
    have LL : Lab i L outL d m := ⟨I.len, fun v hv => I.own v hv (I.did v hv), fun v hv hd => by
      obtain ⟨a, a1, a2, a3, a4, a5⟩ := I.par v hv (I.did v hv) hd
      exact ⟨a, a1, a3, a4, a5⟩, fun a v ha hv hadj => I.don a v ha hv (I.did a ha) hadj, by
      rcases I.top with h | ⟨v, v1, v2, v3⟩
      · exact .inl h
      · exact .inr ⟨v, v1, v3⟩⟩
    have S := lab_says hb LL I.m0
    rw [Int.toNat_natCast] at S
    exact hQ r m h' outL V S (by have := I.m1; omega) N0 E
def goneF (L : List (Int × Int)) (c : Int) (outL : List Int) (i : Nat) : List Int := ((List.range i).filter fun v => decide (gt outL v = 1 ∧ degF L outL v < c)).map fun (v : Nat) => (v : Int)
theorem goneF_succ (L : List (Int × Int)) (c : Int) (outL : List Int) (i : Nat) : goneF L c outL (i + 1) = goneF L c outL i ++ if gt outL i = 1 ∧ degF L outL i < c then [(i : Int)] else [] := by
  unfold goneF
  rw [List.range_succ, List.filter_append, List.map_append]
  congr 1
  by_cases h : gt outL i = 1 ∧ degF L outL i < c
  · rw [if_pos h]; simp [h]
  · rw [if_neg h]; simp only [List.filter_cons, decide_eq_false h]; simp
theorem mem_goneF {L : List (Int × Int)} {c : Int} {outL : List Int} {i : Nat} {g : Int} : g ∈ goneF L c outL i ↔ ∃ v : Nat, g = v ∧ v < i ∧ gt outL v = 1 ∧ degF L outL v < c := by
  unfold goneF
  simp only [List.mem_map, List.mem_filter, List.mem_range, decide_eq_true_eq]
  constructor
  · rintro ⟨v, ⟨a, b, c⟩, rfl⟩; exact ⟨v, rfl, a, b, c⟩
  · rintro ⟨v, rfl, a, b, c⟩; exact ⟨v, ⟨a, b, c⟩, rfl⟩
theorem goneF_len (L : List (Int × Int)) (c : Int) (outL : List Int) (i : Nat) : (goneF L c outL i).length ≤ i := by
  unfold goneF
  rw [List.length_map]
  have := List.length_filter_le (fun v => decide (gt outL v = 1 ∧ degF L outL v < c)) (List.range i)
  rw [List.length_range] at this
  exact this
theorem coresF_spec {n : Nat} {c : Int} {vo va : Sl} {L : List (Int × Int)} {h : H} (h1 : 1 ≤ n) (h2 : n ≤ 256) (R : RowsF n h va (allR L)) (hb : InN n L) (hL : L.length ≤ 4096) (c0 : 0 ≤ c) (c1 : c ≤ 4096) {Q : Sl × Int → HProp}
    (hQ : ∀ r m h' outL, Vec h' r (eI .u64) outL → Says n L 4 c outL (m + 1) → m ≤ 256 → New h r → Ext h h' → Q (r, (m : Int)) h') : truth_graph_cores ((n : Int), vo, va, c) Q h := by
  unfold truth_graph_cores
  simp only [ltI_eq, eqI_eq]
  refine fill_spec h1 h2 fun r ha V0 hra N0 E0 => ?_
  have first : List.replicate n 1 = itF n L 4 c 0 := by
    refine listext (by simp) (itF_len ..) fun v hv => ?_
    rw [gt_rep hv]
    show 1 = gt (firstF n 4 c) v
    unfold firstF
    rw [gt_map _ hv, if_neg (by decide), if_neg (by decide), if_neg (by decide), if_pos rfl]
  rw [first] at V0
  refine loop_n (fun T (s : Int) h' => ∃ k : Nat, s = k ∧ Vec h' r (eI .u64) (itF n L 4 c k) ∧ Ext h h' ∧ T = (itF n L 4 c k).count 1 ∧ k + T ≤ n ∧ ∀ j, 1 ≤ j → j ≤ k → itF n L 4 c j ≠ itF n L 4 c (j - 1)) _ ⟨0, rfl, V0, E0, rfl, ?_, fun j a b => by omega⟩ ?_
  · rw [← first]; simp
  rintro T s h' ⟨k0, rfl, V, E, rfl, hT, hch⟩ k hk
  have hlen := itF_len n L 4 c k0
  have hB := bits_it hb hL c0 c1 k0
  have nx : ∀ v, v < n → gt (itF n L 4 c (k0 + 1)) v = if degF L (itF n L 4 c k0) v < c then 0 else gt (itF n L 4 c k0) v := fun v hv => next4 hb hL c0 c1 hB hv
  have hlen1 := itF_len n L 4 c (k0 + 1)
  generalize hO : itF n L 4 c k0 = outL at *
  refine loop_i (fun (p : Sl × Int) h3 => ∃ (i : Nat), p.2 = i ∧ i ≤ n ∧ Vec h3 r (eI .u64) outL ∧ Vec h3 p.1 (eI .i64) (goneF L c outL i) ∧ (∀ b, p.1.on b → h b = none ∧ ¬ r.on b) ∧ Ext h h3) (fun p => ((n : Int) - p.2).toNat)
    ⟨0, rfl, Nat.zero_le _, V, Vec.nil0, (fun b ⟨a, ha, _⟩ => by cases ha), E⟩ ?_
  rintro ⟨gs, i⟩ h3 ⟨i, rfl, hi, V3, W3, hgs, E3⟩ k1 hk1
  simp only at *
  refine ite_i (fun hlt => ?_) fun hge => ?_
  · have hlt : i < n := by simpa using hlt
    refine with_u (R.row E3 hlt fun x A => ?_)
    have hl8 := allR_len i L
    have hl := allR_in hb i
    have A3 := A.ext E3
    simp only [A.len]
    refine loop_i (fun (p : Int × Int) h4 => h4 = h3 ∧ ∃ jn : Nat, p.2 = jn ∧ jn ≤ (allR L i).length ∧ p.1 = smI (((allR L i).take jn).map fun u => gt outL u.toNat)) (fun p => (((allR L i).length : Int) - p.2).toNat) ⟨rfl, 0, rfl, Nat.zero_le _, rfl⟩ ?_
    rintro ⟨d, j⟩ h4 ⟨rfl, j, rfl, hj, hd⟩ k2 hk2
    simp only at *
    refine ite_i (fun hjlt => ?_) fun hjge => ?_
    · have hjlt : j < (allR L i).length := by simpa using hjlt
      refine A3.num hjlt ?_
      have hmem := List.getElem_mem hjlt
      obtain ⟨y0, y1⟩ := hl _ hmem
      have hs : smI (((allR L i).take (j + 1)).map fun u => gt outL u.toNat) = d + gt outL (((allR L i)[j]).toNat) := by
        rw [List.take_succ_eq_append_getElem hjlt, List.map_append, smI_append, hd]
        show _ + (gt outL (((allR L i)[j]).toNat) + 0) = _
        rw [Int.add_zero]
      have hbd := smI_bound hB ((allR L i).take j) fun u hu => hl u (List.mem_of_mem_take hu)
      have htl := List.length_take_le j (allR L i)
      obtain ⟨vv, hvv⟩ : ∃ vv : Nat, (allR L i)[j] = vv := ⟨((allR L i)[j]).toNat, by omega⟩
      rw [hvv] at y0 y1 hs ⊢
      rw [Int.toNat_natCast] at hs
      have hv01 := hB vv (by omega)
      refine V3.arr.numg (by omega) ?_
      rw [cnv_i64 (by omega) (by omega), add_i64 (by omega) (by omega), add_i64 (by omega) (by omega)]
      exact hk2 _ _ ⟨rfl, j + 1, by simp, by omega, hs.symm⟩ (by simp; omega)
    · have hj : j = (allR L i).length := by have : ¬ (j < (allR L i).length) := (by simpa using hjge); omega
      subst hj
      rw [List.take_length] at hd
      have hd : d = degF L outL i := hd
      subst hd
      have gl := goneF_len L c outL i
      rw [show add .i64 (i : Int) 1 = ((i + 1 : Nat) : Int) by rw [add_i64 (by omega) (by omega)]; simp]
      refine with_b (decide (gt outL i = 1 ∧ degF L outL i < c)) (fun k' hk' => ?_) ?_
      · refine V3.arr.numg (by omega) (ite_i (fun hx => ?_) fun hx => ?_)
        · have hx : gt outL i = 1 := by simpa using hx
          simpa only [hx, true_and] using hk'
        · have hx : ¬ gt outL i = 1 := by simpa using hx
          simpa only [hx, false_and, decide_false] using hk'
      · refine ite_i (fun hx => ?_) fun hx => ?_
        · have hx := of_decide_eq_true hx
          refine W3.append_new E3 (fun b hb => (hgs b hb).1) (m := [(i : Int)]) rfl (by simp [eI_all]) rfl (by omega) fun u h5 V5 E5 N5 F5 hu5 => ?_
          refine hk1 _ _ ⟨i + 1, rfl, by omega, V3.fr F5 (fun b hb hr => (hgs b hr).2 hb), ?_, ?_, E5⟩ (by simp; omega)
          · rw [goneF_succ, if_pos hx]; exact V5
          · intro b hb
            refine ⟨N5 b hb, fun hr => ?_⟩
            rcases hu5 b hb with h | h
            · exact (hgs b h).2 hr
            · obtain ⟨o, ho⟩ := V3.there hr; rw [h] at ho; cases ho
        · have hx := of_decide_eq_false hx
          refine hk1 _ _ ⟨i + 1, rfl, by omega, V3, ?_, hgs, E3⟩ (by simp; omega)
          rw [goneF_succ, if_neg hx, List.append_nil]; exact W3
  · have : i = n := by have : ¬ (i < n) := (by simpa using hge); omega
    subst this
    simp only [W3.len]
    have gl := goneF_len L c outL i
    refine ite_i (fun hz => ?_) fun hnz => ?_
    · have hz : (goneF L c outL i).length = 0 := by simpa using hz
      have hnil := List.length_eq_zero_iff.1 hz
      have hsame : itF i L 4 c (k0 + 1) = outL := listext hlen1 hlen fun v hv => by
        rw [nx v hv]
        split
        · rename_i hdc
          rcases hB v hv with h | h
          · exact h.symm
          · have : (v : Int) ∈ goneF L c outL i := mem_goneF.2 ⟨v, rfl, hv, h, hdc⟩
            rw [hnil] at this; cases this
        · rfl
      refine hQ r k0 h3 outL V3 ⟨by omega, hsame.symm, fun h => absurd h (by decide), fun _ => ⟨by rw [hsame]; exact hO.symm, fun j j1 j2 => hch j j1 (by omega)⟩⟩ (by omega) N0 E3
    · have hpos : 0 < (goneF L c outL i).length := by have : ¬ ((goneF L c outL i).length = 0) := (by simpa using hnz); omega
      refine loop_i (fun (j : Int) h4 => ∃ (jn : Nat) (outL' : List Int), j = jn ∧ jn ≤ (goneF L c outL i).length ∧ Vec h4 r (eI .u64) outL' ∧ outL'.length = i ∧ (∀ v, v < i → gt outL' v = if (v : Int) ∈ (goneF L c outL i).take jn then 0 else gt outL v) ∧ Vec h4 gs (eI .i64) (goneF L c outL i) ∧ Ext h h4) (fun j => (((goneF L c outL i).length : Int) - j).toNat)
        ⟨0, outL, rfl, Nat.zero_le _, V3, hlen, fun v hv => by rw [if_neg (by simp)], W3, E3⟩ ?_
      rintro j h4 ⟨j, outL', rfl, hj, V4, hlen4, hv4, W4, E4⟩ k2 hk2
      refine ite_i (fun hjlt => ?_) fun hjge => ?_
      · have hjlt : j < (goneF L c outL i).length := by simpa using hjlt
        refine W4.arr.num hjlt ?_
        obtain ⟨q, hq, hqn, hq1, hq2⟩ := mem_goneF.1 (List.getElem_mem hjlt)
        have ht := List.take_succ_eq_append_getElem hjlt
        rw [hq] at ht ⊢
        rw [add_i64 (by omega) (by omega)]
        refine V4.put (by omega) fun h5 V5 F5 => ?_
        refine hk2 _ _ ⟨j + 1, _, by simp, by omega, V5, by simp [hlen4], fun v hv => ?_, W4.fr F5 (fun b hb hr => (hgs b hb).2 hr), E4.of_new F5 N0⟩ (by omega)
        rw [gt_set _ _ (by omega), ht]
        by_cases e : q = v
        · subst e; rw [if_pos rfl, if_pos (by simp)]
        · rw [if_neg e, hv4 v hv]
          by_cases e2 : (v : Int) ∈ (goneF L c outL i).take j
          · rw [if_pos e2, if_pos (List.mem_append_left _ e2)]
          · rw [if_neg e2, if_neg (fun h => by
              rcases List.mem_append.1 h with h | h
              · exact e2 h
              · simp at h; omega)]
      · have hjj : j = (goneF L c outL i).length := by have : ¬ (j < (goneF L c outL i).length) := (by simpa using hjge); omega
        subst hjj
        rw [List.take_length] at hv4
        have hnext : outL' = itF i L 4 c (k0 + 1) := listext hlen4 hlen1 fun v hv => by
          rw [hv4 v hv, nx v hv]
          by_cases hm : (v : Int) ∈ goneF L c outL i
          · obtain ⟨q, hq, hqn, hq1, hq2⟩ := mem_goneF.1 hm
            have : q = v := by omega
            subst this
            rw [if_pos hm, if_pos hq2]
          · rw [if_neg hm]
            by_cases hdc : degF L outL v < c
            · rw [if_pos hdc]
              rcases hB v hv with h | h
              · exact h
              · exact absurd (mem_goneF.2 ⟨v, rfl, hv, h, hdc⟩) hm
            · rw [if_neg hdc]
        obtain ⟨q, hq, hqn, hq1, hq2⟩ := mem_goneF.1 (List.getElem_mem (l := goneF L c outL i) hpos)
        have hne : gt (itF i L 4 c (k0 + 1)) q = 0 := by rw [nx q hqn, if_pos hq2]
        have hcount : (itF i L 4 c (k0 + 1)).count 1 < outL.count 1 := count_less hlen1 hlen (fun v hv => by
          rw [nx v hv]; split
          · exact .inr (by decide)
          · exact .inl rfl) hqn hq1 (by rw [hne]; decide)
        rw [show add .i64 (k0 : Int) 1 = ((k0 + 1 : Nat) : Int) by rw [add_i64 (by omega) (by omega)]; simp]
        rw [hnext] at V4
        refine hk _ _ _ hcount ⟨k0 + 1, rfl, V4, E4, rfl, by omega, fun j j1 j2 => ?_⟩
        by_cases e : j = k0 + 1
        · subst e
          intro he
          rw [show k0 + 1 - 1 = k0 by omega, hO] at he
          rw [he, hq1] at hne
          cases hne
        · exact hch j j1 (by omega)
where
  count_less {n : Nat} {a b : List Int} (ha : a.length = n) (hb : b.length = n) (h : ∀ v, v < n → gt a v = gt b v ∨ gt a v ≠ 1) {q : Nat} (hq : q < n) (h1 : gt b q = 1) (h2 : gt a q ≠ 1) : a.count 1 < b.count 1 := by
    induction n generalizing a b q with
    | zero => omega
    | succ n ih =>
      cases a with
      | nil => simp at ha
      | cons x a =>
      cases b with
      | nil => simp at hb
      | cons y b =>
      have ha' : a.length = n := by simpa using ha
      have hb' : b.length = n := by simpa using hb
      have hs : ∀ v, v < n → gt a v = gt b v ∨ gt a v ≠ 1 := fun v hv => h (v + 1) (by omega)
      have h0 : x = y ∨ x ≠ 1 := h 0 (by omega)
      have hle := count_le ha' hb' hs
      rw [List.count_cons, List.count_cons]
      cases q with
      | zero =>
        have e1 : y = 1 := h1
        have e2 : x ≠ 1 := h2
        simp [e1, e2]; omega
      | succ q =>
        have := ih ha' hb' hs (q := q) (by omega) h1 h2
        rcases h0 with e | e
        · subst e; omega
        · simp [e]; omega
  count_le {n : Nat} {a b : List Int} (ha : a.length = n) (hb : b.length = n) (h : ∀ v, v < n → gt a v = gt b v ∨ gt a v ≠ 1) : a.count 1 ≤ b.count 1 := by
    induction n generalizing a b with
    | zero =>
      have := List.length_eq_zero_iff.1 ha
      subst this; simp
    | succ n ih =>
      cases a with
      | nil => simp at ha
      | cons x a =>
      cases b with
      | nil => simp at hb
      | cons y b =>
      have := ih (a := a) (b := b) (by simpa using ha) (by simpa using hb) fun v hv => h (v + 1) (by omega)
      have h0 : x = y ∨ x ≠ 1 := h 0 (by omega)
      rw [List.count_cons, List.count_cons]
      rcases h0 with e | e
      · subst e; omega
      · simp [e]; omega
end Go.Cz.S

namespace Go.Cz.S
set_option maxRecDepth 100000
set_option maxHeartbeats 1000000
set_option linter.unusedSimpArgs false
set_option linter.unusedVariables false
theorem smA_one (p : Nat × Int) (v : Nat) : smA [p] v = if p.1 = v then p.2 else 0 := by
  show (if p.1 = v then p.2 else 0) + 0 = _
  rw [Int.add_zero]
theorem rankF_spec {n : Nat} {c : Int} {vo va : Sl} {L : List (Int × Int)} {h : H} (h1 : 1 ≤ n) (h2 : n ≤ 256) (c0 : 0 ≤ c) (hc : c ≤ 1000) (R : RowsF n h vo (outR L)) (hb : InN n L) (hL : L.length ≤ 4096) {Q : Sl → HProp}
    (hQ : ∀ r h', Vec h' r (eI .u64) (itF n L 2 c c.toNat) → New h r → Ext h h' → Q r h') : truth_graph_rank ((n : Int), vo, va, c) Q h := by
  unfold truth_graph_rank
  simp only [ltI_eq, eqI_eq]
  refine fill_spec h1 h2 fun r ha V0 hra N0 E0 => ?_
  have first : List.replicate n 4294967296 = itF n L 2 c 0 := by
    refine listext (by simp) (itF_len ..) fun v hv => ?_
    rw [gt_rep hv]
    show 4294967296 = gt (firstF n 2 c) v
    unfold firstF
    rw [gt_map _ hv, if_neg (by decide), if_pos rfl]
  rw [first] at V0
  refine loop_i (fun (s : Int) h' => ∃ m : Nat, s = m ∧ (m : Int) ≤ c ∧ Vec h' r (eI .u64) (itF n L 2 c m) ∧ Ext h h') (fun s => (c - s).toNat) ⟨0, rfl, c0, V0, E0⟩ ?_
  rintro s h' ⟨m, rfl, hm, V, E⟩ k hk
  have hlen := itF_len n L 2 c m
  have hlen1 := itF_len n L 2 c (m + 1)
  have nx : ∀ v, v < n → gt (itF n L 2 c (m + 1)) v = _ := fun v hv => next2 hb hv
  refine ite_i (fun hlt => ?_) fun hge => ?_
  · have hlt : (m : Int) < c := by simpa using hlt
    generalize hO : itF n L 2 c m = outL at *
    refine fill_spec h1 h2 fun r1 hb1 V1 hra1 N1 E1 => ?_
    have hne : ∀ b, r1.on b → ¬ r.on b := fun b hb hr => by obtain ⟨o, ho⟩ := V.there hr; rw [N1 b hb] at ho; cases ho
    have N1' : New h r1 := fun b hb => E.none (N1 b hb)
    refine loop_i (fun (i : Int) h3 => ∃ (i' : Nat) (sumL : List Int), i = i' ∧ i' ≤ n ∧ Vec h3 r (eI .u64) outL ∧ Vec h3 r1 (eI .u64) sumL ∧ sumL.length = n ∧ (∀ v, v < n → gt sumL v = IntKind.u64.wrap (smA ((List.range i').flatMap (rowU L outL)) v)) ∧ Ext h h3) (fun i => ((n : Int) - i).toNat)
      ⟨0, _, rfl, Nat.zero_le _, V.ext E1, V1, by simp, fun v hv => by rw [gt_rep hv]; rfl, E.trans E1⟩ ?_
    rintro i h3 ⟨i, sumL, rfl, hi, V3, W3, hls, hsv, E3⟩ k1 hk1
    rw [R.len]
    refine ite_i (fun hilt => ?_) fun hige => ?_
    · have hilt : i < n := by simpa using hilt
      refine R.row E3 hilt fun x A => ?_
      have hl := outR_in hb i
      have hol := outR_len L i
      have hl8 : (outR L i).length ≤ 4096 := by
        unfold outR
        rw [List.length_map]
        exact Nat.le_trans (List.length_filter_le _ _) hL
      simp only [A.len]
      refine loop_i (fun (j : Int) h4 => ∃ (j' : Nat) (sumL : List Int), j = j' ∧ j' ≤ (outR L i).length ∧ Vec h4 r (eI .u64) outL ∧ Vec h4 r1 (eI .u64) sumL ∧ sumL.length = n ∧ (∀ v, v < n → gt sumL v = IntKind.u64.wrap (smA ((List.range i).flatMap (rowU L outL) ++ (rowU L outL i).take j') v)) ∧ Ext h h4) (fun j => (((outR L i).length : Int) - j).toNat)
        ⟨0, _, rfl, Nat.zero_le _, V3, W3, hls, fun v hv => by rw [List.take_zero, List.append_nil]; exact hsv v hv, E3⟩ ?_
      rintro j h4 ⟨j, sumL4, rfl, hj, V4, W4, hl4, hs4, E4⟩ k2 hk2
      refine ite_i (fun hjlt => ?_) fun hjge => ?_
      · have hjlt : j < (outR L i).length := by simpa using hjlt
        refine (A.ext E4).num hjlt ?_
        obtain ⟨y0, y1⟩ := hl _ (List.getElem_mem hjlt)
        have hrow : (rowU L outL i).take (j + 1) = (rowU L outL i).take j ++ [(((outR L i)[j]).toNat, quo .u64 (gt outL i) (bgF L i))] := by
          have hr : j < (rowU L outL i).length := by unfold rowU; rw [List.length_map]; exact hjlt
          rw [List.take_succ_eq_append_getElem hr]
          congr 2
          simp [rowU]
        obtain ⟨vv, hvv⟩ : ∃ vv : Nat, (outR L i)[j] = vv := ⟨((outR L i)[j]).toNat, by omega⟩
        rw [hvv] at y0 y1 hrow ⊢
        rw [Int.toNat_natCast] at hrow
        have hcn : cnv .u64 ((outR L i).length : Int) = bgF L i := by rw [cnv_u64 (by omega) (by omega), hol]
        refine W4.arr.numg (by omega) (V4.arr.numg (by omega) (must_i ?_ ?_))
        · rw [hcn]; omega
        · rw [hcn]
          refine W4.put (by omega) fun h5 W5 F5 => ?_
          rw [add_i64 (by omega) (by omega)]
          refine hk2 _ _ ⟨j + 1, _, by simp, by omega, V4.fr F5 (fun b hr hb => hne b hb hr), W5, by simp [hl4], fun v hv => ?_, E4.of_new F5 N1'⟩ (by omega)
          rw [gt_set _ _ (by omega), hrow, ← List.append_assoc, smA_append, smA_one]
          by_cases e : vv = v
          · subst e
            rw [if_pos rfl, if_pos rfl, hs4 vv hv]
            unfold add
            exact wrap_add _ _
          · rw [if_neg e, if_neg e, Int.add_zero, hs4 v hv]
      · have hj : j = (outR L i).length := by have : ¬ (j < (outR L i).length) := (by simpa using hjge); omega
        subst hj
        rw [add_i64 (by omega) (by omega)]
        refine hk1 _ _ ⟨i + 1, sumL4, by simp, by omega, V4, W4, hl4, fun v hv => ?_, E4⟩ (by omega)
        rw [hs4 v hv, List.range_succ, List.flatMap_append]
        have : (rowU L outL i).take (outR L i).length = rowU L outL i := List.take_of_length_le (by unfold rowU; rw [List.length_map]; exact Nat.le_refl _)
        rw [this]
        simp
    · have : i = n := by have : ¬ (i < n) := (by simpa using hige); omega
      subst this
      refine loop_i (fun (j : Int) h4 => ∃ (j' : Nat) (l : List Int), j = j' ∧ j' ≤ i ∧ Vec h4 r (eI .u64) l ∧ l.length = i ∧ (∀ v, v < i → gt l v = if v < j' then gt (itF i L 2 c (m + 1)) v else gt outL v) ∧ Vec h4 r1 (eI .u64) sumL ∧ Ext h h4) (fun j => ((i : Int) - j).toNat)
        ⟨0, outL, rfl, Nat.zero_le _, V3, hlen, fun v hv => by rw [if_neg (Nat.not_lt_zero _)], W3, E3⟩ ?_
      rintro j h4 ⟨j, outL4, rfl, hj, V4, hl4, hv4, W4, E4⟩ k2 hk2
      simp only [W4.len, hls]
      refine ite_i (fun hjlt => ?_) fun hjge => ?_
      · have hjlt : j < i := by simpa using hjlt
        refine W4.arr.numg (by omega) (must_i (by decide) ?_)
        refine V4.put (by omega) fun h5 V5 F5 => ?_
        rw [add_i64 (by omega) (by omega)]
        refine hk2 _ _ ⟨j + 1, _, by simp, by omega, V5, by simp [hl4], fun v hv => ?_, W4.fr F5 (fun b hb hr => hne b hb hr), E4.of_new F5 N0⟩ (by omega)
        rw [gt_set _ _ (by omega)]
        by_cases e : j = v
        · subst e
          rw [if_pos rfl, if_pos (by omega), nx j hjlt, hsv j hjlt]
        · rw [if_neg e, hv4 v hv]
          by_cases hvj : v < j
          · rw [if_pos hvj, if_pos (by omega)]
          · rw [if_neg hvj, if_neg (by omega)]
      · have hj : j = i := by have : ¬ (j < i) := (by simpa using hjge); omega
        subst hj
        have : outL4 = itF j L 2 c (m + 1) := listext hl4 hlen1 fun v hv => by rw [hv4 v hv, if_pos hv]
        subst this
        rw [show add .i64 (m : Int) 1 = ((m + 1 : Nat) : Int) by rw [add_i64 (by omega) (by omega)]; simp]
        exact hk _ _ ⟨m + 1, rfl, by omega, V4, E4⟩ (by omega)
  · have hge : m = c.toNat := by have : ¬ ((m : Int) < c) := (by simpa using hge); omega
    subst hge
    exact hQ r h' V N0 E
theorem runF_spec {n : Int} {v : Sl} {L : List (Int × Int)} {kind arg prio need : Int} {h : H} (A : Arr h v eP L) (hL : L.length ≤ 4096) {Q : Sl × Int × Int → HProp} (hv : Valid n L) (hok : okReq kind arg prio n = true)
    (hyes : ∀ r (m : Nat) h' outL, Vec h' r (eI .u64) outL → Says n.toNat L kind arg outL m → New h r → Ext h h' → m ≤ 300 → Q (r, (m : Int), 0) h') :
    truth_run (n, v, kind, arg, prio, need) Q h := by
  unfold truth_run
  simp only [eqI_eq]
  refine normal_spec A hL (fun hb h1 e1 => ?_) fun hb u M h1 A1 e1 hr1 hr2 => ?_
  · rw [hv.1] at hb; cases hb
  · refine with_u (with_u (ite_t rfl (equal_spec (A.ext e1) A1 (by omega) (ite_i (fun hne => ?_) fun heq => ?_))))
    · have hne : ¬ (L = M) := by
        rw [Bool.not_eq_true'] at hne
        exact of_decide_eq_false hne
      exact absurd (hr1 hv.2).symm hne
    · refine with_u (ite_t rfl (check_spec ?_))
      rw [if_pos hok]
      refine ite_f rfl ?_
      obtain ⟨n1, n2⟩ := hv.n
      have hin : InN n.toNat L := fun e he => by have := hv.e e he; omega
      obtain ⟨m, rfl⟩ : ∃ m : Nat, n = m := ⟨n.toNat, by omega⟩
      simp only [Int.toNat_natCast] at hin hyes
      refine ofF_spec (by omega) (by omega) (A.ext e1) hL hv.e fun vo va h2 Ro Ra e2 => ?_
      have E2 := e1.trans e2
      simp only [eqI_eq]
      unfold okReq at hok
      refine ite_i (fun k1 => ?_) fun k1 => ite_i (fun k2 => ?_) fun k2 => ite_i (fun k3 => ?_) fun k3 => ?_
      · have k1 : kind = 1 := by simpa using k1
        subst k1
        simp at hok
        obtain ⟨a, rfl⟩ : ∃ a : Nat, arg = a := ⟨arg.toNat, by omega⟩
        have hokr : OkRows m (outR L) := fun i hi => ⟨by
          unfold outR
          rw [List.length_map]
          have := List.length_filter_le (fun e => decide (e.1 = (i : Int))) L
          omega, outR_in hin i⟩
        refine farF_spec (by omega) (by omega) (by omega) Ro hokr fun r h3 D V3 B N3 E3 => ?_
        have hl3 := B.dist.len
        refine greatestF_spec V3.arr (by omega) (B.distV (by omega)) fun g g0 g1 hg ht => ?_
        rw [hl3] at hg ht
        rw [add_i64 (by omega) (by omega)]
        have S := bfs_says (by omega) (by omega) hin B g0 g1 hg ht
        rw [show g + 1 = ((g.toNat + 1 : Nat) : Int) by omega]
        exact hyes r _ h3 D V3 S (fun b hb => E2.none (N3 b hb)) (E2.trans E3) (by omega)
      · have k2 : kind = 2 := by simpa using k2
        subst k2
        simp at hok
        refine rankF_spec (by omega) (by omega) (by omega) (by omega) Ro hin hL fun r h3 V3 N3 E3 => ?_
        rw [show arg = ((arg.toNat : Nat) : Int) by omega] at V3 hyes ⊢
        rw [Int.toNat_natCast] at V3
        exact hyes r _ h3 _ V3 ⟨by omega, rfl, fun _ => rfl, fun h => absurd rfl h⟩ (fun b hb => E2.none (N3 b hb)) (E2.trans E3) (by omega)
      · have k3 : kind = 3 := by simpa using k3
        subst k3
        simp at hok
        obtain ⟨_, rfl⟩ := hok
        refine labelsF_spec (by omega) (by omega) Ra hin hL fun r g h3 outL V3 S g1 N3 E3 => ?_
        simp only []
        rw [add_i64 (by omega) (by omega)]
        exact hyes r (g + 1) h3 outL V3 S (fun b hb => E2.none (N3 b hb)) (E2.trans E3) (by omega)
      · have k1 : ¬ kind = 1 := by simpa using k1
        have k2 : ¬ kind = 2 := by simpa using k2
        have k3 : ¬ kind = 3 := by simpa using k3
        rw [if_neg k1, if_neg k2, if_neg k3] at hok
        have k4 : kind = 4 := by
          apply Classical.byContradiction
          intro h
          rw [if_neg h, Bool.and_false] at hok
          cases hok
        subst k4
        simp at hok
        refine coresF_spec (by omega) (by omega) Ra hin hL (by omega) (by omega) fun r g h3 outL V3 S g1 N3 E3 => ?_
        simp only []
        rw [add_i64 (by omega) (by omega)]
        exact hyes r (g + 1) h3 outL V3 S (fun b hb => E2.none (N3 b hb)) (E2.trans E3) (by omega)
theorem submitF_spec {h : H} {b : Nat} {lv av : Sl} {c : Cfg} {pos : Int} {all : List Ent} (T : Tab h b lv av c pos all) (hv : Valid c.n c.L) (hL : c.L.length ≤ 4096) (hl : all.length ≤ 900000) {kind arg prio need : Int} {Q : Int × Int → HProp}
    (hno : subErr c all kind arg prio need ≠ 0 → ∀ h', Ext h h' → Q (0, subErr c all kind arg prio need) h')
    (hyes : subErr c all kind arg prio need = 0 → ∀ out (m : Nat) h' av', Tab h' b lv av' c pos (all ++ [newE kind arg prio need m]) → Fr (own b av) h h' → (∀ x, av'.on x → av.on x ∨ h x = none) → Says c.n.toNat c.L kind arg out m → m ≤ 300 → Q ((all.length : Int) + 1, 0) h') :
    table_Table_Submit (some (at0 b), kind, arg, prio, need) Q h := by
  have hn := hv.n.1
  have hl' : all.length ≤ 1000000 := by omega
  unfold table_Table_Submit
  simp only [eqI_eq, ltI_eq, leI_eq]
  unfold subErr at hno hyes
  refine none_spec T hn (ite_f rfl (deref_i (loadI_i (T.ob.ld (j := 0) rfl) (check_spec ?_))))
  by_cases hok : okReq kind arg prio c.n = false
  · rw [if_pos hok] at hno
    rw [if_neg (by rw [hok]; decide)]
    exact ite_t rfl (hno (by decide) h (Ext.refl h))
  have hok' : okReq kind arg prio c.n = true := by simpa using hok
  rw [if_neg hok] at hno hyes
  rw [if_pos hok']
  refine ite_f rfl (ite_i (fun h1 => ?_) fun h1 => ?_)
  · rw [if_pos (by simpa using h1)] at hno
    exact hno (by decide) h (Ext.refl h)
  have h1 : ¬ need < 256 := by simpa using h1
  rw [if_neg h1] at hno hyes
  refine deref_i (loadI_i (T.ob.ld (j := 2) rfl) (ite_i (fun h2 => ?_) fun h2 => ?_))
  · rw [if_pos (by simpa using h2)] at hno
    exact hno (by decide) h (Ext.refl h)
  have h2 : ¬ c.tot < need := by simpa using h2
  rw [if_neg h2] at hno hyes
  have hav : av.len = all.length := T.va.len
  refine with_u (T.all_ld ?_)
  rw [hav]
  refine ite_f (by simp; omega) (those_spec T hl' does_queued fun r h3 V3 N3 E3 => ?_)
  rw [V3.len]
  have T3 := T.ext E3
  refine ite_i (fun hq => ?_) fun hq => ?_
  · have hq : (8 : Int) ≤ ((ids isQ all).length : Int) := by simpa using hq
    rw [if_pos (.inr (by omega))] at hno
    exact hno (by decide) h3 E3
  have hq : ¬ ((8 : Int) ≤ ((ids isQ all).length : Int)) := by simpa using hq
  rw [if_neg (by rintro (h | h) <;> omega)] at hyes
  refine deref_i (loadI_i (T3.ob.ld (j := 0) rfl) (deref_i (loadL_i (v := lv) (T3.ob.ld (j := 3) rfl) ?_)))
  unfold truth_Rounds
  refine runF_spec T3.al hL hv hok' fun r4 m h4 outL _ S _ E4 m1 => ?_
  have T4 := T3.ext E4
  refine ite_f rfl (deref_i (loadL_i (v := av) (T4.ob.ld (j := 5) rfl) (keeps1 (T4.ob.ld (j := 5) rfl) ?_)))
  refine T4.va.append (m := [newE kind arg prio need m]) rfl (by simp [Enc.all]; rfl) rfl (by omega) fun u h5 V5 F5 hu5 => ?_
  have ob5 := T4.ob.fr F5 T4.ab
  refine deref_i (ob5.st (j := 5) (by simp) fun h6 o6 F6 => ?_)
  have hub : ¬ u.on b := fun hu => by
    rcases hu5 b hu with h | h
    · exact T.ab h
    · have := T4.ob; unfold Obj at this; rw [h] at this; cases this
  have T6 : Tab h6 b lv u c pos (all ++ [newE kind arg prio need m]) := by
    refine ⟨o6, (T4.al.frn F5 fun hl x hx => (T4.lb hl x hx).2).frn F6 fun hl x hx => (T4.lb hl x hx).1, V5.fr F6 (fun x hx e => hub (e ▸ hx)), fun hl x hx => ⟨(T4.lb hl x hx).1, fun hu => ?_⟩, hub⟩
    rcases hu5 x hu with h | h
    · exact (T4.lb hl x hx).2 h
    · obtain ⟨o, ho⟩ := T4.al.there hl hx; rw [h] at ho; cases ho
  refine deref_i (loadL_i (v := u) (T6.ob.ld (j := 5) rfl) ?_)
  have hul : (u.len : Int) = (all.length : Int) + 1 := by rw [V5.len]; simp
  rw [hul]
  refine hyes rfl outL m h6 u T6 ?_ ?_ S m1
  · exact ((E3.trans E4).fr.trans (F5.mono fun x hx => .inr hx)).trans (F6.mono fun x hx => .inl hx)
  · intro x hx
    rcases hu5 x hx with h | h
    · exact .inl h
    · exact .inr ((E3.trans E4).none h)
/-- what a job tells -/
def resF (e : Ent) : Int := if e.state = 3 then 0 else if e.state = 1 ∨ e.state = 2 then 271 else 272
theorem resultF_spec {h : H} {b : Nat} {lv av : Sl} {c : Cfg} {pos : Int} {all : List Ent} (T : Tab h b lv av c pos all) (hv : Valid c.n c.L) (hL : c.L.length ≤ 4096) (hl : all.length ≤ 1000000) {id : Int} (hok : ∀ e ∈ all, okReq e.kind e.arg e.prio c.n = true)
    {Q : Sl × Int → HProp} (hno : getE all id = none → Q (Sl.mk none 0 0, 4) h) (hyes : ∀ e, getE all id = some e → ∀ x out h' m, Arr h' x (eI .u64) out → (e.state = 3 → Says c.n.toNat c.L e.kind e.arg out m) → (e.state ≠ 3 → out = []) → Ext h h' → Q (x, resF e) h') :
    table_Table_Result (some (at0 b), id) Q h := by
  unfold table_Table_Result
  simp only [eqI_eq]
  refine find_spec T hv.n.1 hl (fun hx => ite_t rfl (hno (getE_no hx))) fun i e a hid hi he ha => ?_
  have hge : getE all id = some e := by rw [hid]; exact getE_yes he
  have hy := hyes e hge
  unfold resF at hy
  have hoke := hok e (List.mem_of_getElem? he)
  have nil : Arr h (Sl.mk none 0 0) (eI .u64) [] := (Vec.nil0).arr
  refine ite_f rfl (deref_i (loadI_i (T.cell (j := 4) ha he rfl) (ite_i (fun h1 => ?_) fun h1 => ?_)))
  · have h1 : e.state = 3 := by simpa using h1
    rw [if_pos h1] at hy
    simp only [add0]
    refine deref_i (loadI_i (T.ob.ld (j := 0) rfl) (deref_i (loadL_i (v := lv) (T.ob.ld (j := 3) rfl) (deref_i ?_))))
    have c0 := T.cell (j := 0) ha he rfl
    rw [add0] at c0
    refine loadI_i c0 (loadI_i (T.cell (j := 1) ha he rfl) (loadI_i (T.cell (j := 2) ha he rfl) (loadI_i (T.cell (j := 3) ha he rfl) ?_)))
    unfold truth_Of
    refine runF_spec T.al hL hv hoke fun r m h4 outL V4 S _ E4 _ => ?_
    exact hy r outL h4 m V4.arr (fun _ => S) (fun h => absurd h1 h) E4
  · have h1 : ¬ e.state = 3 := by simpa using h1
    rw [if_neg h1] at hy
    refine with_u (ite_i (fun h2 => ite_t h2 ?_) fun h2 => ite_i (fun h4 => ?_) fun h4 => ?_)
    · have h2 : e.state = 1 := by simpa using h2
      rw [if_pos (.inl h2)] at hy
      exact hy _ [] h 0 nil (fun h => absurd h h1) (fun _ => rfl) (Ext.refl h)
    · have h4 : e.state = 2 := by simpa using h4
      rw [if_pos (.inr h4)] at hy
      exact hy _ [] h 0 nil (fun h => absurd h h1) (fun _ => rfl) (Ext.refl h)
    · have h2 : ¬ e.state = 1 := by simpa using h2
      have h4 : ¬ e.state = 2 := by simpa using h4
      rw [if_neg (by rintro (h | h) <;> contradiction)] at hy
      exact hy _ [] h 0 nil (fun h => absurd h h1) (fun _ => rfl) (Ext.refl h)
end Go.Cz.S
