/- Part of the proof of a law of 28: an engine that runs a function over an abstract heap, and what the functions compute; own work. -/
import Derived.Test.YtpmojjeehmadpaaGreatP28B
set_option linter.unusedVariables false
set_option linter.unusedSimpArgs false
set_option linter.unusedSectionVars false
namespace Go.Cz
set_option maxRecDepth 100000
set_option maxHeartbeats 1000000
set_option linter.unusedSimpArgs false
set_option linter.unusedVariables false
/-! ## the document's table -/
structure Job where
  kind : Int
  arg : Int
  prio : Int
  need : Int
  state : Int
  code : Int
  had : Int
  takes : Int
  ticks : Int
  waits : Bool
  res : Sl
def Job.cells (j : Job) : List Value := [.int .i64 j.kind, .int .i64 j.arg, .int .i64 j.prio, .int .i64 j.need, .int .i64 j.state, .int .i64 j.code, .int .i64 j.had, .int .i64 j.takes, .int .i64 j.ticks, .bool j.waits, .slice j.res.a j.res.len j.res.cap]
def eJ : Enc Job := ⟨11, Job.cells, fun _ => rfl, fun e v hv => by
  simp only [Job.cells, List.mem_cons, List.not_mem_nil, or_false] at hv
  rcases hv with rfl | rfl | rfl | rfl | rfl | rfl | rfl | rfl | rfl | rfl | rfl <;> trivial, by decide⟩
structure RT (h : H) (b : Nat) (lv av : Sl) (c : Cfg) (pos : Int) (all : List Job) : Prop where
  ob : Obj h b [.int .i64 c.n, .int .i64 c.k, .int .i64 c.tot, .slice lv.a lv.len lv.cap, .int .i64 pos, .slice av.a av.len av.cap]
  al : Arr h lv eP c.L
  va : Vec h av eJ all
  lb : c.L ≠ [] → ∀ x, lv.on x → x ≠ b ∧ ¬ av.on x
  ab : ¬ av.on b
section
variable {h h' : H} {b : Nat} {lv av : Sl} {c : Cfg} {pos : Int} {all : List Job}
theorem RT.ext (T : RT h b lv av c pos all) (e : Ext h h') : RT h' b lv av c pos all := ⟨T.ob.ext e, T.al.ext e, T.va.ext e, T.lb, T.ab⟩
theorem RT.fr {S : Nat → Prop} (T : RT h b lv av c pos all) (f : Fr S h h') (h1 : ¬ S b) (h2 : ∀ x, av.on x → ¬ S x) (h3 : c.L ≠ [] → ∀ x, lv.on x → ¬ S x) : RT h' b lv av c pos all := ⟨T.ob.fr f h1, T.al.frn f h3, T.va.fr f h2, T.lb, T.ab⟩
theorem RT.apart (T : RT h b lv av c pos all) {x : Nat} (hx : h x = none) : Apart b lv av c x :=
  ⟨fun e => (by subst e; have := T.ob; unfold Obj at this; rw [hx] at this; cases this), fun ho => (by obtain ⟨o, ho⟩ := T.va.there ho; rw [hx] at ho; cases ho), fun hl ho => by obtain ⟨o, ho⟩ := T.al.there hl ho; rw [hx] at ho; cases ho⟩
theorem RT.cell (T : RT h b lv av c pos all) {i j : Nat} {a : Addr} {e : Job} {y : Value} (hs : Slot av i 11 a) (hi : all[i]? = some e) (hy : e.cells[j]? = some y) : h.cell? (a.add j) = some y :=
  T.va.arr.cell (E := eJ) (i := i) (j := j) hs hi hy
theorem RT.st (T : RT h b lv av c pos all) {i j : Nat} {a : Addr} {e e' : Job} {y : Value} (hs : Slot av i 11 a) (hi : all[i]? = some e) (hj : j < 11) (he : e'.cells = e.cells.set j y) {K : HProp}
    (hK : ∀ h', RT h' b lv av c pos (all.set i e') → Fr (own b av) h h' → K h') : storeW (a.add j) y K h := by
  refine T.va.store (E := eJ) (i := i) (j := j) (x := e) (x' := e') hs hi hj he fun h1 V1 F1 => hK h1 ?_ (F1.mono fun k hk => .inr hk)
  exact ⟨T.ob.fr F1 T.ab, T.al.frn F1 (fun hl x hx => (T.lb hl x hx).2), V1, T.lb, T.ab⟩
theorem RT.all_ld (T : RT h b lv av c pos all) {K : Sl → HProp} (hK : K av h) : derefW (some (at0 b)) (fun a => loadL (a.add 5) K) h := deref_i (loadL_i (T.ob.ld (j := 5) rfl) hK)
theorem RT.index (T : RT h b lv av c pos all) {i : Nat} (hi : i < all.length) {K : Addr → HProp} (hK : ∀ a, Slot av i 11 a → K a h) : indexW (i : Int) av 11 K h :=
  T.va.arr.index (by omega) (by omega) fun a ha => hK a (by simpa [eJ] using ha)
end
/-- an entry, and the document's job -/
structure SimE (c : Cfg) (r : Nat) (e : Ent) (j : Job) : Prop where
  ok : S.okReq e.kind e.arg e.prio c.n = true
  kind : j.kind = e.kind
  arg : j.arg = e.arg
  prio : j.prio = e.prio
  need : j.need = e.need
  state : j.state = e.state
  code : j.code = e.code
  ticks : j.ticks = e.ticks
  tk : 0 ≤ e.ticks ∧ e.ticks ≤ r
  pr : 0 ≤ e.prio ∧ e.prio ≤ 7
  st : 1 ≤ e.state ∧ e.state ≤ 5
  c0 : e.state ≤ 4 → e.code = 0
  tks : 1 ≤ e.takes ∧ e.takes ≤ 300
  takes : j.takes = e.takes * c.k
  rd : 0 ≤ e.round ∧ e.round < e.takes ∧ 0 ≤ e.had ∧ e.had < c.k
  had : j.had = if e.state = 3 then e.takes * c.k else e.round * c.k + e.had
  top : e.state = 3 → e.round + 1 = e.takes
  att : e.att = true ↔ e.state = 2
  exp : e.exp = true ↔ (e.state = 2 ∧ j.waits = true)
  new : e.state = 1 → j.waits = false
structure SimL (c : Cfg) (r : Nat) (all : List Ent) (js : List Job) : Prop where
  len : all.length = js.length
  at_ : ∀ (i : Nat) (e : Ent) (j : Job), all[i]? = some e → js[i]? = some j → SimE c r e j
theorem SimL.get {c : Cfg} {r : Nat} {all : List Ent} {js : List Job} (S : SimL c r all js) {i : Nat} (hi : i < js.length) : ∃ e j, all[i]? = some e ∧ js[i]? = some j ∧ SimE c r e j := by
  have h1 := List.getElem?_eq_getElem (show i < all.length by rw [S.len]; exact hi)
  have h2 := List.getElem?_eq_getElem hi
  exact ⟨_, _, h1, h2, S.at_ i _ _ h1 h2⟩
theorem SimL.set {c : Cfg} {r : Nat} {all : List Ent} {js : List Job} (S : SimL c r all js) {i : Nat} {e : Ent} {j : Job} (E : SimE c r e j) : SimL c r (all.set i e) (js.set i j) := by
  refine ⟨by simp [S.len], fun q e' j' he hj => ?_⟩
  by_cases hq : i = q
  · subst hq
    have hi := (List.getElem?_eq_some_iff.1 he).1
    rw [List.length_set] at hi
    rw [List.getElem?_set_self hi] at he
    rw [List.getElem?_set_self (by rw [← S.len]; exact hi)] at hj
    cases he; cases hj; exact E
  · rw [List.getElem?_set_ne hq] at he hj
    exact S.at_ q _ _ he hj
theorem SimE.mono {c : Cfg} {r s : Nat} {e : Ent} {j : Job} (S : SimE c r e j) (h : r ≤ s) : SimE c s e j := { S with tk := ⟨S.tk.1, by have := S.tk.2; omega⟩ }
theorem SimL.mono {c : Cfg} {r s : Nat} {all : List Ent} {js : List Job} (S : SimL c r all js) (h : r ≤ s) : SimL c s all js := ⟨S.len, fun i e j he hj => (S.at_ i e j he hj).mono h⟩
theorem SimL.snoc {c : Cfg} {r : Nat} {all : List Ent} {js : List Job} (S : SimL c r all js) {e : Ent} {j : Job} (E : SimE c r e j) : SimL c r (all ++ [e]) (js ++ [j]) := by
  refine ⟨by simp [S.len], fun q e' j' he hj => ?_⟩
  by_cases hq : q < all.length
  · rw [List.getElem?_append_left hq] at he
    rw [List.getElem?_append_left (by rw [← S.len]; exact hq)] at hj
    exact S.at_ q _ _ he hj
  · rw [List.getElem?_append_right (by omega)] at he
    rw [List.getElem?_append_right (by rw [← S.len]; omega)] at hj
    have h0 : q - all.length = 0 := by
      have := (List.getElem?_eq_some_iff.1 he).1
      simp at this; omega
    rw [← S.len] at hj
    rw [h0] at he hj
    simp at he hj
    subst he; subst hj; exact E
end Go.Cz
namespace Go.Cz.S
set_option maxRecDepth 100000
set_option maxHeartbeats 1000000
set_option linter.unusedSimpArgs false
set_option linter.unusedVariables false
section
variable {h h' : H} {b : Nat} {lv av : Sl} {c : Cfg} {pos : Int} {all : List Ent} {js : List Job} {r : Nat}
theorem hit_at {p : Ent → Bool} {i : Nat} {e : Ent} (he : all[i]? = some e) : hit p all i = p e := by unfold hit; rw [he]
theorem many_spec (T : RT h b lv av c pos js) (S : SimL c r all js) (hl : js.length ≤ 1000000) {s : Int} {p : Ent → Bool} (hp : ∀ e j, SimE c r e j → (j.state = s ↔ p e = true)) {Q : Int → HProp} (hQ : Q ((ids p all).length : Int) h) : ref28_Table_many (some (at0 b), s) Q h := by
  unfold ref28_Table_many
  simp only [ltI_eq, eqI_eq]
  refine loop_i (fun (q : Int × Int) h' => h' = h ∧ ∃ i : Nat, q.2 = i ∧ i ≤ js.length ∧ q.1 = ((idsT p all i).length : Int)) (fun q => ((js.length : Int) - q.2).toNat) ⟨rfl, 0, rfl, Nat.zero_le _, rfl⟩ ?_
  rintro ⟨g, i⟩ h' ⟨rfl, i, rfl, hi, rfl⟩ k hk
  simp only at *
  refine T.all_ld ?_
  rw [T.va.len]
  refine ite_i (fun hlt => ?_) fun hge => ?_
  · have hlt : i < js.length := by simpa using hlt
    obtain ⟨e, j, he, hj, E⟩ := S.get hlt
    refine with_u (T.all_ld (T.index hlt fun a ha => loadI_i (T.cell (j := 4) ha hj rfl) ?_))
    have hs := idsT_succ p all i
    rw [hit_at he] at hs
    have hle := idsT_len p all i
    rw [show add .i64 (i : Int) 1 = ((i + 1 : Nat) : Int) by rw [add_i64 (by omega) (by omega)]; simp]
    refine ite_i (fun hx => ?_) fun hx => ?_
    · have hx := (hp e j E).1 (of_decide_eq_true hx)
      rw [hx] at hs
      refine hk _ _ ⟨rfl, i + 1, rfl, by omega, ?_⟩ (by simp; omega)
      rw [hs, add_i64 (by omega) (by omega)]; simp
    · have hx : ¬ p e = true := fun hy => of_decide_eq_false hx ((hp e j E).2 hy)
      refine hk _ _ ⟨rfl, i + 1, rfl, by omega, ?_⟩ (by simp; omega)
      rw [hs]; simp [hx]
  · have : i = js.length := by have : ¬ (i < js.length) := (by simpa using hge); omega
    subst this
    rw [← S.len]
    exact hQ
theorem many1 (T : RT h b lv av c pos js) (S : SimL c r all js) (hl : js.length ≤ 1000000) {Q : Int → HProp} (hQ : Q ((ids isQ all).length : Int) h) : ref28_Table_many (some (at0 b), 1) Q h :=
  many_spec T S hl (fun e j E => by rw [E.state]; unfold isQ; simp) hQ
theorem many2 (T : RT h b lv av c pos js) (S : SimL c r all js) (hl : js.length ≤ 1000000) {Q : Int → HProp} (hQ : Q ((ids isA all).length : Int) h) : ref28_Table_many (some (at0 b), 2) Q h :=
  many_spec T S hl (fun e j E => by rw [E.state]; exact E.att.symm) hQ
theorem rused_spec (T : RT h b lv av c pos js) (S : SimL c r all js) (hl : js.length ≤ 1000000) {Q : Int → HProp} (hQ : Q (usedF all) h) : ref28_Table_Used (some (at0 b)) Q h := by
  unfold ref28_Table_Used
  simp only [ltI_eq, eqI_eq]
  refine loop_i (fun (q : Int × Int) h' => h' = h ∧ ∃ i : Nat, q.2 = i ∧ i ≤ js.length ∧ q.1 = (idsT isA all i).foldl (fun n id => add .i64 n (needAt all id)) 0) (fun q => ((js.length : Int) - q.2).toNat) ⟨rfl, 0, rfl, Nat.zero_le _, rfl⟩ ?_
  rintro ⟨g, i⟩ h' ⟨rfl, i, rfl, hi, rfl⟩ k hk
  simp only at *
  refine T.all_ld ?_
  rw [T.va.len]
  refine ite_i (fun hlt => ?_) fun hge => ?_
  · have hlt : i < js.length := by simpa using hlt
    obtain ⟨e, j, he, hj, E⟩ := S.get hlt
    refine with_u (T.all_ld (T.index hlt fun a ha => loadI_i (T.cell (j := 4) ha hj rfl) ?_))
    have hs := idsT_succ isA all i
    rw [hit_at he] at hs
    rw [show add .i64 (i : Int) 1 = ((i + 1 : Nat) : Int) by rw [add_i64 (by omega) (by omega)]; simp]
    refine ite_i (fun hx => ?_) fun hx => ?_
    · have hx := of_decide_eq_true hx
      have hx : isA e = true := E.att.2 (by rw [← E.state]; exact hx)
      rw [hx] at hs
      refine T.all_ld (T.index hlt fun a ha => ?_)
      simp only [add0]
      refine loadI_i (T.cell (j := 3) ha hj rfl) ?_
      refine hk _ _ ⟨rfl, i + 1, rfl, by omega, ?_⟩ (by simp; omega)
      rw [hs, if_pos rfl, List.foldl_append]
      show _ = add .i64 _ (needAt all ((i : Int) + 1))
      unfold needAt
      rw [show ((i : Int) + 1 - 1).toNat = i by omega, he, E.need]
    · have hx : ¬ isA e = true := fun hy => of_decide_eq_false hx (by rw [E.state]; exact E.att.1 hy)
      refine hk _ _ ⟨rfl, i + 1, rfl, by omega, ?_⟩ (by simp; omega)
      rw [hs]; simp [hx]
  · have : i = js.length := by have : ¬ (i < js.length) := (by simpa using hge); omega
    subst this
    rw [← S.len]
    exact hQ
theorem rwait_spec (T : RT h b lv av c pos js) (S : SimL c r all js) (hl : js.length ≤ 1000000) {Q : Sl → HProp} (hQ : ∀ u h', Vec h' u (eI .i64) (ids isX all) → New h u → Ext h h' → Q u h') : ref28_Table_Waiting (some (at0 b)) Q h := by
  unfold ref28_Table_Waiting
  simp only [ltI_eq, eqI_eq]
  refine loop_i (fun (q : Sl × Int) h' => ∃ i : Nat, q.2 = i ∧ i ≤ js.length ∧ Vec h' q.1 (eI .i64) (idsT isX all i) ∧ New h q.1 ∧ Ext h h') (fun q => ((js.length : Int) - q.2).toNat) ⟨0, rfl, Nat.zero_le _, Vec.nil0, New.nil0, Ext.refl h⟩ ?_
  rintro ⟨g, i⟩ h' ⟨i, rfl, hi, V, N, X⟩ k hk
  simp only at *
  have T' := T.ext X
  refine T'.all_ld ?_
  rw [T.va.len]
  refine ite_i (fun hlt => ?_) fun hge => ?_
  · have hlt : i < js.length := by simpa using hlt
    obtain ⟨e, j, he, hj, E⟩ := S.get hlt
    have hs := idsT_succ isX all i
    rw [hit_at he] at hs
    have hle := idsT_len isX all i
    rw [show add .i64 (i : Int) 1 = ((i + 1 : Nat) : Int) by rw [add_i64 (by omega) (by omega)]; simp]
    refine with_u (with_b (isX e) (fun k' hk' => ?_) ?_)
    · refine T'.all_ld (T'.index hlt fun a ha => loadI_i (T'.cell (j := 4) ha hj rfl) (ite_i (fun hx => ?_) fun hx => ?_))
      · have hx := of_decide_eq_true hx
        refine T'.all_ld (T'.index hlt fun a ha => loadB_i (T'.cell (j := 9) ha hj rfl) ?_)
        have : isX e = j.waits := by
          rw [Bool.eq_iff_iff]
          exact ⟨fun hy => (E.exp.1 hy).2, fun hy => E.exp.2 ⟨by rw [← E.state]; exact hx, hy⟩⟩
        rw [this] at hk'
        exact hk'
      · have hx := of_decide_eq_false hx
        have : isX e = false := by
          rw [Bool.eq_false_iff]
          exact fun hy => hx (by rw [E.state]; exact (E.exp.1 hy).1)
        rw [this] at hk'
        exact hk'
    · refine ite_i (fun hx => ?_) fun hx => ?_
      · rw [hx] at hs
        refine V.append_new X N (m := [((i + 1 : Nat) : Int)]) rfl (by simp [eI_all]) rfl (by omega) fun u h5 V5 E5 N5 F5 hu5 => ?_
        refine hk _ _ ⟨i + 1, rfl, by omega, ?_, N5, E5⟩ (by simp; omega)
        rw [hs, if_pos rfl]
        simpa using V5
      · rw [hx] at hs
        refine hk _ _ ⟨i + 1, rfl, by omega, ?_, N, X⟩ (by simp; omega)
        rw [hs]; simpa using V
  · have : i = js.length := by have : ¬ (i < js.length) := (by simpa using hge); omega
    subst this
    rw [← S.len] at V
    exact hQ g h' V N X
theorem fails_spec (T : RT h b lv av c pos js) {i : Nat} {j : Job} (hj : js[i]? = some j) {cd : Int} {Q : Unit → HProp}
    (hQ : ∀ h', RT h' b lv av c pos (js.set i { j with state := 5, code := cd }) → Fr (own b av) h h' → Q () h') : ref28_Table_fails (some (at0 b), (i : Int), cd) Q h := by
  unfold ref28_Table_fails
  have hi := (List.getElem?_eq_some_iff.1 hj).1
  refine T.all_ld (T.all_ld (T.index hi fun a ha => T.st (e' := { j with state := 5 }) ha hj (by decide) rfl fun h1 T1 F1 => ?_))
  have hj1 : (js.set i { j with state := 5 })[i]? = some { j with state := 5 } := by rw [List.getElem?_set_self hi]
  refine T1.index (by simpa using hi) fun a ha => T1.st (e' := { j with state := 5, code := cd }) ha hj1 (by decide) rfl fun h2 T2 F2 => ?_
  rw [List.set_set] at T2
  exact hQ h2 T2 (F1.trans F2)
/-- whose turn it is -/
theorem key_eq {e : Ent} {j : Job} (E : SimE c r e j) (hr : r ≤ 100000) : keyE e = e.prio + e.ticks / 4 ∧ 0 ≤ keyE e := by
  have := E.tk
  have := E.pr
  unfold keyE
  rw [quo_i64 (by omega) (by omega) (by omega), add_i64 (by omega) (by omega)]
  exact ⟨rfl, by omega⟩
theorem rturn_spec (T : RT h b lv av c pos js) (S : SimL c r all js) (hl : js.length ≤ 1000000) (hr : r ≤ 100000) {Q : Int → HProp}
    (hQ : Q (if (ids isQ all).length = 0 then -1 else minF (aheadC all) (ids isQ all) - 1) h) : ref28_Table_turn (some (at0 b)) Q h := by
  unfold ref28_Table_turn
  simp only [ltI_eq, eqI_eq]
  refine loop_i (fun (q : Int × Int × Int) h' => h' = h ∧ ∃ i : Nat, q.2.2 = i ∧ i ≤ js.length ∧ (idsT isQ all i = [] → q.1 = -1 ∧ q.2.1 = -1) ∧ (idsT isQ all i ≠ [] → ∃ (m : Nat) (em : Ent), q.1 = m ∧ m < i ∧ all[m]? = some em ∧ minF (aheadC all) (idsT isQ all i) = ((m + 1 : Nat) : Int) ∧ q.2.1 = keyE em)) (fun q => ((js.length : Int) - q.2.2).toNat)
    ⟨rfl, 0, rfl, Nat.zero_le _, fun _ => ⟨rfl, rfl⟩, fun h => absurd rfl h⟩ ?_
  rintro ⟨at_, most, i⟩ h' ⟨rfl, i, rfl, hi, h0, h1⟩ k hk
  simp only at *
  refine T.all_ld ?_
  rw [T.va.len]
  refine ite_i (fun hlt => ?_) fun hge => ?_
  · have hlt : i < js.length := by simpa using hlt
    obtain ⟨e, j, he, hj, E⟩ := S.get hlt
    have hs := idsT_succ isQ all i
    rw [hit_at he] at hs
    obtain ⟨hk1, hk2⟩ := key_eq E hr
    rw [show add .i64 (i : Int) 1 = ((i + 1 : Nat) : Int) by rw [add_i64 (by omega) (by omega)]; simp]
    refine with_u ?_
    refine T.all_ld (T.index hlt fun a ha => ?_)
    simp only [add0]
    refine loadI_i (T.cell (j := 2) ha hj rfl) (T.all_ld (T.index hlt fun a ha => loadI_i (T.cell (j := 8) ha hj rfl) (must_i (by decide) ?_)))
    rw [E.prio, E.ticks]
    change withK _ _ _
    have hkey : add .i64 e.prio (quo .i64 e.ticks 4) = keyE e := rfl
    rw [hkey]
    refine with_b (isQ e && decide (most < keyE e)) (fun k' hk' => ?_) ?_
    · refine T.all_ld (T.index hlt fun a ha => loadI_i (T.cell (j := 4) ha hj rfl) (ite_i (fun hx => ?_) fun hx => ?_))
      · have hx : isQ e = true := by unfold isQ; rw [← E.state]; exact hx
        rw [hx, Bool.true_and] at hk'
        exact hk'
      · have hx : isQ e = false := by unfold isQ; rw [← E.state]; exact hx
        rw [hx, Bool.false_and] at hk'
        exact hk'
    · refine ite_i (fun hx => ?_) fun hx => ?_
      · rw [Bool.and_eq_true] at hx
        obtain ⟨hx1, hx2⟩ := hx
        have hx2 := of_decide_eq_true hx2
        rw [hx1, if_pos rfl] at hs
        refine hk _ _ ⟨rfl, i + 1, rfl, by omega, fun hn => ?_, fun _ => ⟨i, e, rfl, by omega, he, ?_, rfl⟩⟩ (by simp; omega)
        · rw [hs] at hn; simp at hn
        · rw [hs]
          by_cases hz : idsT isQ all i = []
          · rw [hz]; show (i : Int) + 1 = _; simp
          · obtain ⟨m, em, rfl, hm, hem, hmin, rfl⟩ := h1 hz
            rw [minF_snoc _ _ hz, hmin, if_pos]
            · simp
            · rw [show (i : Int) + 1 = ((i + 1 : Nat) : Int) by simp]
              unfold aheadC
              rw [getE_yes he, getE_yes hem]
              simp only []
              have hlt2 : cf1 (keyE em) (keyE e) < 0 := cf1_neg.2 hx2
              rw [if_pos (by omega)]; exact hlt2
      · refine hk _ _ ⟨rfl, i + 1, rfl, by omega, fun hn => ?_, fun hn => ?_⟩ (by simp; omega)
        · rw [hs] at hn
          have := List.append_eq_nil_iff.1 hn
          exact h0 this.1
        · by_cases hq : isQ e = true
          · rw [hq, if_pos rfl] at hs
            have hx : ¬ (most < keyE e) := by
              rw [hq, Bool.true_and] at hx; exact of_decide_eq_false hx
            have hz : idsT isQ all i ≠ [] := fun hz => by
              have := (h0 hz).2
              omega
            obtain ⟨m, em, rfl, hm, hem, hmin, rfl⟩ := h1 hz
            refine ⟨m, em, rfl, by omega, hem, ?_, rfl⟩
            rw [hs, minF_snoc _ _ hz, hmin, if_neg]
            rw [show (i : Int) + 1 = ((i + 1 : Nat) : Int) by simp]
            unfold aheadC
            rw [getE_yes he, getE_yes hem]
            simp only []
            split
            · rename_i hne
              intro hlt2
              exact hx (cf1_neg.1 hlt2)
            · intro hlt2
              have := cf1_neg.1 hlt2
              omega
          · have hq : isQ e = false := by simpa using hq
            rw [hq] at hs
            have hs : idsT isQ all (i + 1) = idsT isQ all i := by simpa using hs
            rw [hs] at hn ⊢
            obtain ⟨m, em, rfl, hm, hem, hmin, rfl⟩ := h1 hn
            exact ⟨m, em, rfl, by omega, hem, hmin, rfl⟩
  · have : i = js.length := by have : ¬ (i < js.length) := (by simpa using hge); omega
    subst this
    have hids : idsT isQ all js.length = ids isQ all := by unfold ids; rw [S.len]
    rw [hids] at h0 h1
    by_cases hz : ids isQ all = []
    · rw [if_pos (by rw [hz]; rfl)] at hQ
      rw [(h0 hz).1]; exact hQ
    · rw [if_neg (fun h => hz (List.length_eq_zero_iff.1 h))] at hQ
      obtain ⟨m, em, rfl, hm, hem, hmin, rfl⟩ := h1 hz
      rw [hmin] at hQ
      rw [show (((m + 1 : Nat) : Int) - 1) = (m : Int) by omega] at hQ
      exact hQ
end
end Go.Cz.S

namespace Go.Cz
set_option maxRecDepth 100000
set_option maxHeartbeats 1000000
set_option linter.unusedSimpArgs false
set_option linter.unusedVariables false
def Job.key (j : Job) : Int × Int × Sl := (j.kind, j.arg, j.res)
def keysJ (js : List Job) : List (Int × Int × Sl) := js.map Job.key
theorem keys_set {js : List Job} {i : Nat} {j j' : Job} (hj : js[i]? = some j) (hk : j'.key = j.key) : keysJ (js.set i j') = keysJ js := by
  unfold keysJ
  apply List.ext_getElem?
  intro q
  rw [List.getElem?_map, List.getElem?_map]
  by_cases h : i = q
  · subst h
    rw [List.getElem?_set_self (List.getElem?_eq_some_iff.1 hj).1, hj]
    simp only [Option.map_some, hk]
  · rw [List.getElem?_set_ne h]
theorem fold_get {p : Ent → Bool} {f : Ent → Ent} {all : List Ent} : ∀ i : Nat, i ≤ all.length → ∀ (q : Nat) (e : Ent), all[q]? = some e → ((idsT p all i).foldl (upd f) all)[q]? = some (if q < i ∧ p e = true then f e else e)
  | 0, _, q, e, he => by
    rw [if_neg (fun h => absurd h.1 (Nat.not_lt_zero _))]
    exact he
  | i + 1, hi, q, e, he => by
    have ih := fold_get (p := p) (f := f) (all := all) i (by omega)
    have hiv := List.getElem?_eq_getElem (show i < all.length by omega)
    rw [idsT_succ]
    have hh : hit p all i = p all[i] := by unfold hit; rw [hiv]
    rw [hh]
    by_cases hp : p all[i] = true
    · rw [if_pos hp, List.foldl_append]
      show (upd f _ ((i : Int) + 1))[q]? = _
      have h1 := ih i _ hiv
      rw [if_neg (fun h => absurd h.1 (Nat.lt_irrefl _))] at h1
      rw [show (i : Int) + 1 = ((i + 1 : Nat) : Int) by simp, upd_at f h1]
      by_cases hq : i = q
      · subst hq
        rw [hiv] at he
        cases he
        rw [List.getElem?_set_self (by rw [foldl_len]; omega), if_pos ⟨by omega, hp⟩]
      · rw [List.getElem?_set_ne hq, ih q e he]
        by_cases hc : q < i ∧ p e = true
        · rw [if_pos hc, if_pos ⟨by omega, hc.2⟩]
        · rw [if_neg hc, if_neg (fun h => hc ⟨by omega, h.2⟩)]
    · rw [if_neg hp, List.append_nil, ih q e he]
      by_cases hc : q < i ∧ p e = true
      · rw [if_pos hc, if_pos ⟨by omega, hc.2⟩]
      · rw [if_neg hc, if_neg (fun h => by
          by_cases hq : q = i
          · subst hq; rw [hiv] at he; cases he; exact hp h.2
          · exact hc ⟨by omega, h.2⟩)]
/-! ## what an act does to an entry and a job -/
section
variable {c : Cfg} {r : Nat} {e : Ent} {j : Job}
theorem sim_inc (E : SimE c r e j) (hr : r ≤ 100000) : SimE c (r + 1) (S.incE e) { j with ticks := add .i64 j.ticks 1 } := by
  have := E.tk
  have ht : add .i64 e.ticks 1 = e.ticks + 1 := add_i64 (by omega) (by omega)
  exact { E.mono (Nat.le_succ r) with
    ticks := by show add .i64 j.ticks 1 = add .i64 e.ticks 1; rw [E.ticks]
    tk := by show 0 ≤ add .i64 e.ticks 1 ∧ add .i64 e.ticks 1 ≤ ((r + 1 : Nat) : Int); rw [ht]; omega }
theorem sim_run (E : SimE c r e j) (h1 : e.state = 1) : SimE c r (S.runE e) { j with state := 2 } := by
  have hw := E.new h1
  exact { E with
    state := rfl
    st := ⟨by show (1 : Int) ≤ 2; decide, by show (2 : Int) ≤ 5; decide⟩
    c0 := fun _ => E.c0 (by omega)
    had := by
      have := E.had
      rw [if_neg (by omega)] at this
      show j.had = if (2 : Int) = 3 then _ else e.round * c.k + e.had
      rw [if_neg (by decide)]; exact this
    top := fun h => absurd h (show ¬ ((2 : Int) = 3) by decide)
    att := ⟨fun _ => rfl, fun _ => rfl⟩
    exp := ⟨fun h => by have := (E.exp.1 h).1; omega, fun h => by have : j.waits = true := h.2; rw [hw] at this; cases this⟩
    new := fun h => absurd h (show ¬ ((2 : Int) = 1) by decide) }
theorem sim_exp (E : SimE c r e j) (h1 : e.state = 2) : SimE c r (S.expE e) { j with waits := true } := by
  exact { E with
    exp := ⟨fun _ => ⟨h1, rfl⟩, fun _ => rfl⟩
    new := fun h => by have : e.state = 1 := h; omega }
theorem sim_end {s cd : Int} {w : Bool} (E : SimE c r e j) (h1 : e.state = 1 ∨ e.state = 2) (hs : s = 4 ∨ s = 5) (hc : s = 4 → cd = 0) : SimE c r (S.endE s cd e) { j with waits := w, state := s, code := cd } := by
  exact { E with
    state := rfl
    code := rfl
    st := ⟨by show (1 : Int) ≤ s; omega, by show s ≤ 5; omega⟩
    c0 := fun h => hc (by have : s ≤ 4 := h; omega)
    had := by
      have := E.had
      rw [if_neg (by omega)] at this
      show j.had = if s = 3 then _ else e.round * c.k + e.had
      rw [if_neg (by omega)]; exact this
    top := fun h => by have : s = 3 := h; omega
    att := ⟨fun h => (by cases h), fun h => by have : s = 2 := h; omega⟩
    exp := ⟨fun h => (by cases h), fun h => by have : s = 2 := h.1; omega⟩
    new := fun h => by have : s = 1 := h; omega }
def servedJ (fault : Int) (j : Job) : Job :=
  if fault ≠ 0 then { j with waits := false, state := 5, code := fault }
  else if add .i64 j.had 1 = j.takes then { j with waits := false, had := add .i64 j.had 1, state := 3 }
  else { j with waits := false, had := add .i64 j.had 1 }
theorem mulmono {a b k : Int} (h : a ≤ b) (hk : 0 ≤ k) : a * k ≤ b * k := Int.mul_le_mul_of_nonneg_right h hk
theorem sim_serve {fault : Int} (E : SimE c r e j) (hk : 1 ≤ c.k ∧ c.k ≤ 16) (h1 : e.state = 2) : SimE c r (S.serveE c.k fault e) (servedJ fault j) := by
  unfold S.serveE servedJ
  by_cases hf : fault ≠ 0
  · rw [if_pos hf, if_pos hf]
    exact sim_end E (.inr h1) (.inr rfl) (fun h => by cases h)
  rw [if_neg hf, if_neg hf]
  obtain ⟨r0, r1, r2, r3⟩ := E.rd
  obtain ⟨t0, t1⟩ := E.tks
  have hh := E.had
  rw [if_neg (by omega)] at hh
  have b1 := mulmono (a := e.round) (b := e.takes - 1) (k := c.k) (by omega) (by omega)
  have b2 := mulmono (a := e.takes) (b := 300) (k := c.k) (by omega) (by omega)
  have b3 := mulmono (a := 0) (b := e.round) (k := c.k) (by omega) (by omega)
  have e1 : (e.takes - 1) * c.k = e.takes * c.k - c.k := by rw [Int.sub_mul, Int.one_mul]
  have hadd : add .i64 j.had 1 = j.had + 1 := add_i64 (by omega) (by omega)
  have hadd2 : add .i64 e.had 1 = e.had + 1 := add_i64 (by omega) (by omega)
  have hadd3 : add .i64 e.round 1 = e.round + 1 := add_i64 (by omega) (by omega)
  have e2 : (e.round + 1) * c.k = e.round * c.k + c.k := by rw [Int.add_mul, Int.one_mul]
  have hjt := E.takes
  rw [hadd2, hadd3]
  by_cases c1 : e.had + 1 < c.k
  · rw [if_pos c1, if_neg (by omega)]
    exact { E with
      rd := ⟨r0, r1, by show 0 ≤ e.had + 1; omega, c1⟩
      had := by
        show add .i64 j.had 1 = if e.state = 3 then _ else e.round * c.k + (e.had + 1)
        rw [if_neg (by omega)]; omega
      exp := ⟨fun h => (by cases h), fun h => by cases h.2⟩
      new := fun h => rfl }
  · rw [if_neg c1]
    by_cases c2 : e.round + 1 = e.takes
    · have e3 : e.takes * c.k = (e.round + 1) * c.k := by rw [c2]
      rw [if_pos c2, if_pos (show add .i64 j.had 1 = j.takes by omega)]
      exact { E with
        state := rfl
        code := by show j.code = 0; rw [E.code]; exact E.c0 (by omega)
        st := ⟨by show (1 : Int) ≤ 3; decide, by show (3 : Int) ≤ 5; decide⟩
        c0 := fun _ => rfl
        rd := ⟨r0, r1, Int.le_refl _, by show 0 < c.k; omega⟩
        had := by
          show add .i64 j.had 1 = if (3 : Int) = 3 then e.takes * c.k else _
          rw [if_pos rfl]; omega
        top := fun _ => c2
        att := ⟨fun h => (by cases h), fun h => absurd h (show ¬ ((3 : Int) = 2) by decide)⟩
        exp := ⟨fun h => (by cases h), fun h => absurd h.1 (show ¬ ((3 : Int) = 2) by decide)⟩
        new := fun h => rfl }
    · have b4 := mulmono (a := e.round + 1) (b := e.takes - 1) (k := c.k) (by omega) (by omega)
      rw [if_neg c2, if_neg (show ¬ (add .i64 j.had 1 = j.takes) by omega)]
      exact { E with
        rd := ⟨by show 0 ≤ e.round + 1; omega, by show e.round + 1 < e.takes; omega, Int.le_refl _, by show 0 < c.k; omega⟩
        had := by
          show add .i64 j.had 1 = if e.state = 3 then _ else (e.round + 1) * c.k + 0
          rw [if_neg (by omega)]; omega
        top := fun h => by have : e.state = 3 := h; omega
        exp := ⟨fun h => (by cases h), fun h => by cases h.2⟩
        new := fun h => rfl }
theorem sim_new {kind arg prio need m : Int} {res : Sl} (hok : S.okReq kind arg prio c.n = true) (hp : 0 ≤ prio ∧ prio ≤ 7) (hm : 1 ≤ m ∧ m ≤ 300) (hk : 1 ≤ c.k ∧ c.k ≤ 16) :
    SimE c r (S.newE kind arg prio need m) ⟨kind, arg, prio, need, 1, 0, 0, mul .i64 m c.k, 0, false, res⟩ := by
  have b2 := mulmono (a := m) (b := 300) (k := c.k) (by omega) (by omega)
  have b3 := mulmono (a := 0) (b := m) (k := c.k) (by omega) (by omega)
  exact {
    ok := hok, kind := rfl, arg := rfl, prio := rfl, need := rfl, state := rfl, code := rfl, ticks := rfl
    tk := ⟨Int.le_refl _, by show (0 : Int) ≤ r; omega⟩
    pr := hp
    st := ⟨by show (1 : Int) ≤ 1; decide, by show (1 : Int) ≤ 5; decide⟩
    c0 := fun _ => rfl
    tks := hm
    takes := by show mul .i64 m c.k = m * c.k; exact mul_i64 (by omega) (by omega)
    rd := ⟨Int.le_refl _, by show 0 < m; omega, Int.le_refl _, by show 0 < c.k; omega⟩
    had := by
      show (0 : Int) = if (1 : Int) = 3 then _ else 0 * c.k + 0
      rw [if_neg (by decide)]; simp
    top := fun h => absurd h (show ¬ ((1 : Int) = 3) by decide)
    att := ⟨fun h => (by cases h), fun h => absurd h (show ¬ ((1 : Int) = 2) by decide)⟩
    exp := ⟨fun h => (by cases h), fun h => by cases h.2⟩
    new := fun h => rfl }
end
end Go.Cz
namespace Go.Cz.S
set_option maxRecDepth 100000
set_option maxHeartbeats 1000000
set_option linter.unusedSimpArgs false
set_option linter.unusedVariables false
section
variable {h h' : H} {b : Nat} {lv av : Sl} {c : Cfg} {pos : Int} {all : List Ent} {js : List Job} {r : Nat}
theorem rloop {r' : Nat} {p : Ent → Bool} {f : Ent → Ent} {fj : Job → Job} (T : RT h b lv av c pos js) (S : SimL c r all js) (hl : js.length ≤ 1000000) (hr : r ≤ r') (hf : ∀ e j, SimE c r e j → p e = true → SimE c r' (f e) (fj j)) (hkey : ∀ j, (fj j).key = j.key)
    {step : Int → (Int → HProp) → HProp} {Q : HProp}
    (hstep : ∀ (i : Nat) (h' : H) (js' : List Job) (e : Ent) (j : Job) (k : Int → HProp), i < js'.length → js'.length = js.length → js'[i]? = some j → SimE c r e j → RT h' b lv av c pos js' →
      (p e = true → ∀ h'', RT h'' b lv av c pos (js'.set i (fj j)) → Fr (own b av) h' h'' → k ((i : Int) + 1) h'') → (p e = false → k ((i : Int) + 1) h') → step (i : Int) k h')
    (hQ : ∀ h' js', RT h' b lv av c pos js' → SimL c r' ((ids p all).foldl (upd f) all) js' → keysJ js' = keysJ js → Fr (own b av) h h' → Q h') :
    loopW (0 : Int) (fun (s : Int) (k : Int → HProp) => derefW (some (at0 b)) fun (a : Addr) => loadL (a.add 5) fun (x : Sl) => iteW (decide (s < (x.len : Int))) (step s k) Q) h := by
  have hlen := S.len
  refine loop_i (fun (s : Int) h' => ∃ (i : Nat) (js' : List Job), s = i ∧ i ≤ js.length ∧ RT h' b lv av c pos js' ∧ js'.length = js.length ∧ (∀ q e j, all[q]? = some e → js'[q]? = some j → if q < i then SimE c r' (if p e = true then f e else e) j else SimE c r e j) ∧ keysJ js' = keysJ js ∧ Fr (own b av) h h') (fun s => ((js.length : Int) - s).toNat)
    ⟨0, js, rfl, Nat.zero_le _, T, rfl, fun q e j he hj => by rw [if_neg (Nat.not_lt_zero _)]; exact S.at_ q e j he hj, rfl, Fr.refl _ _⟩ ?_
  rintro s h' ⟨i, js', rfl, hi, T', hl', hp, hkk, F'⟩ k hk
  refine T'.all_ld ?_
  rw [T'.va.len, hl']
  refine ite_i (fun hlt => ?_) fun hge => ?_
  · have hlt : i < js.length := by simpa using hlt
    have he := List.getElem?_eq_getElem (show i < all.length by omega)
    have hj := List.getElem?_eq_getElem (show i < js'.length by omega)
    have E := hp i _ _ he hj
    rw [if_neg (Nat.lt_irrefl _)] at E
    refine hstep i h' js' _ _ k (by omega) hl' hj E T' (fun hpe h2 T2 F2 => ?_) (fun hpe => ?_)
    · refine hk _ _ ⟨i + 1, _, by simp, by omega, T2, by simp [hl'], fun q e j he2 hj2 => ?_, by rw [keys_set hj (hkey _), hkk], F'.trans F2⟩ (by omega)
      by_cases hq : i = q
      · subst hq
        rw [he] at he2; cases he2
        rw [List.getElem?_set_self (by omega)] at hj2; cases hj2
        rw [if_pos (by omega), if_pos hpe]
        exact hf _ _ E hpe
      · rw [List.getElem?_set_ne hq] at hj2
        have := hp q e j he2 hj2
        by_cases hqi : q < i
        · rw [if_pos hqi] at this; rw [if_pos (by omega)]; exact this
        · rw [if_neg hqi] at this; rw [if_neg (by omega)]; exact this
    · refine hk _ _ ⟨i + 1, js', by simp, by omega, T', hl', fun q e j he2 hj2 => ?_, hkk, F'⟩ (by omega)
      have := hp q e j he2 hj2
      by_cases hqi : q < i
      · rw [if_pos hqi] at this; rw [if_pos (by omega)]; exact this
      · rw [if_neg hqi] at this
        by_cases hq : q = i
        · subst hq
          rw [he] at he2; cases he2
          rw [if_pos (by omega), hpe, if_neg (by decide)]
          exact this.mono hr
        · rw [if_neg (by omega)]; exact this
  · have : i = js.length := by have : ¬ (i < js.length) := (by simpa using hge); omega
    subst this
    refine hQ h' js' T' ⟨by rw [foldl_len, hlen, hl'], fun q e j he hj => ?_⟩ hkk F'
    have hq : q < all.length := by
      have := (List.getElem?_eq_some_iff.1 hj).1
      omega
    have heq := List.getElem?_eq_getElem hq
    have hg := fold_get (p := p) (f := f) (all := all) all.length (Nat.le_refl _) q _ heq
    have := hp q _ j heq hj
    rw [if_pos (by omega)] at this
    unfold ids at he
    rw [hg] at he
    cases he
    by_cases hpe : p all[q] = true
    · rw [if_pos hpe] at this; rw [if_pos ⟨hq, hpe⟩]; exact this
    · rw [if_neg hpe] at this; rw [if_neg (fun h => hpe h.2)]; exact this
theorem admit_none {tot : Int} {all : List Ent} (h : admit1 tot all = none) : ∀ g, admitN tot g all = all
  | 0 => rfl
  | g + 1 => by unfold admitN; rw [h]
theorem tickF_len (c : Cfg) (tot : Int) : ∀ (g : Nat) (all : List Ent), (admitN tot g all).length = all.length
  | 0, _ => rfl
  | g + 1, all => by
    unfold admitN
    split
    · rfl
    · rename_i all' h
      rw [tickF_len c tot g all', (admit1_less h).2]
theorem rtick_spec (T : RT h b lv av c pos js) (S : SimL c r all js) (hl : js.length ≤ 900000) (hr : r ≤ 90000) (hk : 1 ≤ c.k ∧ c.k ≤ 16) {fault : Int} {Q : Int × Int × Int × Int → HProp}
    (hQ : ∀ h' js', RT h' b lv av c (tickF c pos all fault).pos js' → SimL c (r + 1) (tickF c pos all fault).all js' → keysJ js' = keysJ js → Fr (own b av) h h' → Q (tickF c pos all fault).ev h') : ref28_Table_tick (some (at0 b), fault) Q h := by
  unfold ref28_Table_tick
  simp only [ltI_eq, eqI_eq]
  refine rloop (r' := r + 1) (p := isQ) (f := incE) (fj := fun j => { j with ticks := add .i64 j.ticks 1 }) T S (by omega) (by omega) (fun e j E _ => sim_inc E (by omega)) (fun j => rfl)
    (step := fun s k => withK (fun (t : PUnit) => k (add IntKind.i64 s 1)) fun (k : PUnit → HProp) =>
            derefW (some (at0 b)) fun (a : Addr) =>
              loadL (a.add 5) fun (x : Sl) =>
                indexW s x 11 fun (a : Addr) =>
                  loadI IntKind.i64 (a.add 4) fun (x : Int) =>
                    iteW (decide (x = 1))
                      (derefW (some (at0 b)) fun (a : Addr) =>
                        loadL (a.add 5) fun (x : Sl) =>
                          indexW s x 11 fun (a : Addr) =>
                            loadI IntKind.i64 (a.add 8) fun (x_1 : Int) =>
                              indexW s x 11 fun (a : Addr) =>
                                storeW (a.add 8) (Value.int IntKind.i64 (add IntKind.i64 x_1 1)) (k ()))
                      (k ())) ?_ ?_
  · intro i h' js' e j k hi hl' hj E T' hy hn
    rw [add_i64 (by omega) (by omega)]
    refine with_u (T'.all_ld (T'.index hi fun a ha => loadI_i (T'.cell (j := 4) ha hj rfl) (ite_i (fun hx => ?_) fun hx => ?_)))
    · have hx : isQ e = true := by unfold isQ; rw [← E.state]; exact hx
      refine T'.all_ld (T'.index hi fun a ha => loadI_i (T'.cell (j := 8) ha hj rfl) (T'.index hi fun a ha => T'.st (e' := { j with ticks := add .i64 j.ticks 1 }) ha hj (by decide) rfl fun h2 T2 F2 => ?_))
      exact hy hx h2 T2 F2
    · have hx : isQ e = false := by unfold isQ; rw [← E.state]; exact hx
      exact hn hx
  · intro h1 js1 T1 S1 K1 F1
    have S1 : SimL c (r + 1) (tick1 all) js1 := S1
    have hl1 : js1.length = js.length := by rw [← S1.len, ← S.len]; unfold tick1; exact foldl_len _ _ _
    unfold tickF at hQ
    have hl2 : js1.length ≤ 1000000 := by omega
    generalize tick1 all = all1 at hQ S1
    refine with_i (fun (_ : PUnit) h' => ∃ js2, RT h' b lv av c pos js2 ∧ SimL c (r + 1) (admitF c.tot all1) js2 ∧ keysJ js2 = keysJ js1 ∧ Fr (own b av) h1 h') (fun k hkk => ?_) ?_
    · refine loop_n (fun m (_ : PUnit) h' => ∃ js2 all2, RT h' b lv av c pos js2 ∧ SimL c (r + 1) all2 js2 ∧ m = (ids isQ all2).length ∧ admitN c.tot m all2 = admitF c.tot all1 ∧ js2.length = js1.length ∧ keysJ js2 = keysJ js1 ∧ Fr (own b av) h1 h') _ ⟨js1, all1, T1, S1, rfl, rfl, rfl, rfl, Fr.refl _ _⟩ ?_
      rintro m _ h2 ⟨js2, all2, T2, S2, rfl, hadm, hl3, K2, F2⟩ k1 hk1
      have done : admit1 c.tot all2 = none → k ⟨⟩ h2 := fun hn => by
        rw [admit_none hn] at hadm
        exact hkk _ _ ⟨js2, T2, by rw [← hadm]; exact S2, K2, F2⟩
      refine many2 T2 S2 (by omega) (ite_i (fun h4 => ?_) fun h4 => ?_)
      · have h4 : (ids isA all2).length < 4 := by have := of_decide_eq_true h4; omega
        refine rturn_spec T2 S2 (by omega) (by omega) ?_
        refine with_b (decide (admit1 c.tot all2 = none)) (fun k2 hk2 => ?_) ?_
        · by_cases hz : (ids isQ all2).length = 0
          · rw [if_pos hz]
            refine ite_t (by decide) ?_
            rw [decide_eq_true (by unfold admit1; rw [if_pos h4, if_pos hz])] at hk2
            exact hk2
          · rw [if_neg hz]
            obtain ⟨q, e, hx, hq, he, hp⟩ := mem_ids (minF_mem (aheadC all2) _ (fun e => hz (by rw [e]; rfl)))
            have hq' : q < js2.length := by rw [← S2.len]; exact hq
            obtain ⟨e', j, he', hj, E⟩ := S2.get hq'
            rw [he] at he'; cases he'
            have hadm1 : admit1 c.tot all2 = if sub .i64 c.tot (usedF all2) < e.need then none else some (upd runE all2 ((q + 1 : Nat) : Int)) := by
              unfold admit1
              rw [if_pos h4, if_neg hz, hx]
              have : needAt all2 ((q + 1 : Nat) : Int) = e.need := by
                unfold needAt
                rw [show (((q + 1 : Nat) : Int) - 1).toNat = q by omega, he]
              rw [this]
            rw [hx, show (((q + 1 : Nat) : Int) - 1) = (q : Int) by omega]
            refine ite_f (by simp) (deref_i (loadL_i (v := av) (T2.ob.ld (j := 5) rfl) (T2.index hq' fun a ha => ?_)))
            have c3 := T2.cell (j := 3) ha hj rfl
            simp only [add0]
            refine loadI_i c3 (deref_i (loadI_i (T2.ob.ld (j := 2) rfl) (rused_spec T2 S2 (by omega) ?_)))
            refine keeps1 (T2.ob.ld (j := 5) rfl) (keeps1 c3 (keeps1 (T2.ob.ld (j := 2) rfl) ?_))
            rw [E.need]
            have : decide (admit1 c.tot all2 = none) = decide (sub .i64 c.tot (usedF all2) < e.need) := by
              rw [hadm1]
              refine decide_eq_decide.2 ⟨fun h => ?_, fun h => by rw [if_pos h]⟩
              apply Classical.byContradiction
              intro hx
              rw [if_neg hx] at h; cases h
            rw [this] at hk2
            exact hk2
        · refine ite_i (fun hx => done (of_decide_eq_true hx)) fun hx => ?_
          have hx := of_decide_eq_false hx
          have hz : (ids isQ all2).length ≠ 0 := fun hz => hx (by unfold admit1; rw [if_pos h4, if_pos hz])
          rw [if_neg hz]
          obtain ⟨q, e, hxx, hq, he, hp⟩ := mem_ids (minF_mem (aheadC all2) _ (fun e => hz (by rw [e]; rfl)))
          have hq' : q < js2.length := by rw [← S2.len]; exact hq
          obtain ⟨e', j, he', hj, E⟩ := S2.get hq'
          rw [he] at he'; cases he'
          have hadm1 : admit1 c.tot all2 = some (all2.set q (runE e)) := by
            have : admit1 c.tot all2 = if sub .i64 c.tot (usedF all2) < needAt all2 (minF (aheadC all2) (ids isQ all2)) then none else some (upd runE all2 (minF (aheadC all2) (ids isQ all2))) := by
              unfold admit1
              rw [if_pos h4, if_neg hz]
            rw [this] at hx ⊢
            by_cases hc : sub .i64 c.tot (usedF all2) < needAt all2 (minF (aheadC all2) (ids isQ all2))
            · rw [if_pos hc] at hx; exact absurd rfl hx
            · rw [if_neg hc, hxx, upd_at _ he]
          rw [hxx, show (((q + 1 : Nat) : Int) - 1) = (q : Int) by omega]
          have hst : e.state = 1 := of_decide_eq_true hp
          refine T2.all_ld (T2.index hq' fun a ha => T2.st (e' := { j with state := 2 }) ha hj (by decide) rfl fun h3 T3 F3 => ?_)
          have hless := admit1_less hadm1
          refine hk1 (ids isQ (all2.set q (runE e))).length _ _ (by omega) ⟨_, _, T3, S2.set (sim_run E hst), rfl, ?_, by simp [hl3], by rw [keys_set (j' := { j with state := 2 }) hj rfl, K2], F2.trans F3⟩
          rw [← hless.1] at hadm
          unfold admitN at hadm
          rw [hadm1] at hadm
          exact hadm
      · have h4 : ¬ ((ids isA all2).length < 4) := by have := of_decide_eq_false h4; omega
        exact done (by unfold admit1; rw [if_neg h4])
    · rintro _ h2 ⟨js2, T2, S2, K2, F2⟩
      have hl3 : js2.length = js1.length := by rw [← S2.len, ← S1.len]; unfold admitF; exact tickF_len c _ _ _
      refine many2 T2 S2 (by omega) ?_
      generalize admitF c.tot all1 = all2 at hQ S2
      refine ite_i (fun hz => ?_) fun hz => ?_
      · have hz : (ids isA all2).length = 0 := by have := of_decide_eq_true hz; omega
        simp only [hz, if_true] at hQ
        exact hQ h2 js2 T2 S2 (by rw [K2, K1]) (F1.trans F2)
      · have hz : ¬ ((ids isA all2).length = 0) := by have := of_decide_eq_false hz; omega
        simp only [hz, if_false] at hQ
        refine deref_i (loadI_i (T2.ob.ld (j := 4) rfl) (deref_i (loadI_i (T2.ob.ld (j := 1) rfl) (must_i (by omega) (deref_i (T2.ob.st (j := 4) (by simp) fun h3 o3 F3 => ?_))))))
        have T3 : RT h3 b lv av c (rem (add .i64 pos 1) c.k) js2 := ⟨o3, T2.al.frn F3 (fun hl x hx => (T2.lb hl x hx).1), T2.va.fr F3 (fun x hx e => T2.ab (e ▸ hx)), T2.lb, T2.ab⟩
        have F3' : Fr (own b av) h h3 := (F1.trans F2).trans (F3.mono fun x hx => .inl hx)
        by_cases hf : fault ≠ 0
        · rw [if_pos hf] at hQ
          refine rloop (r' := r + 1) (p := isA) (f := endE 5 fault) (fj := fun j => { j with waits := true, state := 5, code := fault }) T3 S2 (by omega) (Nat.le_refl _) (fun e j E hp => sim_end E (.inr (E.att.1 hp)) (.inr rfl) (fun h => by cases h)) (fun j => rfl)
            (step := fun s k => withK (fun (t : PUnit) => k (add IntKind.i64 s 1)) fun (k : PUnit → HProp) =>
                derefW (some (at0 b)) fun (a : Addr) => loadL (a.add 5) fun (x : Sl) => indexW s x 11 fun (a : Addr) => loadI IntKind.i64 (a.add 4) fun (x : Int) =>
                  iteW (!decide (x = 2)) (k ()) (derefW (some (at0 b)) fun (a : Addr) => loadL (a.add 5) fun (x : Sl) => indexW s x 11 fun (a : Addr) => storeW (a.add 9) (Value.bool true)
                    (iteW (!decide (fault = 0)) (ref28_Table_fails (some (at0 b), s, fault) fun (r : PUnit) => k ()) (k ())))) ?_ ?_
          · intro i h' js' e j k hi hl' hj E T' hy hn
            rw [add_i64 (by omega) (by omega)]
            refine with_u (T'.all_ld (T'.index hi fun a ha => loadI_i (T'.cell (j := 4) ha hj rfl) (ite_i (fun hx => ?_) fun hx => ?_)))
            · have hx : ¬ j.state = 2 := by simpa using hx
              exact hn (by
                show e.att = false
                rw [Bool.eq_false_iff]
                exact fun ht => hx (by rw [E.state]; exact E.att.1 ht))
            · have hx : j.state = 2 := by simpa using hx
              refine T'.all_ld (T'.index hi fun a ha => T'.st (e' := { j with waits := true }) ha hj (by decide) rfl fun h4 T4 F4 => ?_)
              refine ite_t (by simp [hf]) (fails_spec T4 (j := { j with waits := true }) (by rw [List.getElem?_set_self hi]) fun h5 T5 F5 => ?_)
              rw [List.set_set] at T5
              exact hy (E.att.2 (by rw [← E.state]; exact hx)) h5 T5 (F4.trans F5)
          · intro h4 js4 T4 S4 K4 F4
            refine ite_t (by simp [hf]) (deref_i (loadI_i (T4.ob.ld (j := 4) rfl) ?_))
            exact hQ h4 js4 T4 S4 (by rw [K4, K2, K1]) (F3'.trans F4)
        · rw [if_neg hf] at hQ
          have hf : fault = 0 := Classical.byContradiction hf
          refine rloop (r' := r + 1) (p := isA) (f := expE) (fj := fun j => { j with waits := true }) T3 S2 (by omega) (Nat.le_refl _) (fun e j E hp => sim_exp E (E.att.1 hp)) (fun j => rfl)
            (step := fun s k => withK (fun (t : PUnit) => k (add IntKind.i64 s 1)) fun (k : PUnit → HProp) =>
                derefW (some (at0 b)) fun (a : Addr) => loadL (a.add 5) fun (x : Sl) => indexW s x 11 fun (a : Addr) => loadI IntKind.i64 (a.add 4) fun (x : Int) =>
                  iteW (!decide (x = 2)) (k ()) (derefW (some (at0 b)) fun (a : Addr) => loadL (a.add 5) fun (x : Sl) => indexW s x 11 fun (a : Addr) => storeW (a.add 9) (Value.bool true)
                    (iteW (!decide (fault = 0)) (ref28_Table_fails (some (at0 b), s, fault) fun (r : PUnit) => k ()) (k ())))) ?_ ?_
          · intro i h' js' e j k hi hl' hj E T' hy hn
            rw [add_i64 (by omega) (by omega)]
            refine with_u (T'.all_ld (T'.index hi fun a ha => loadI_i (T'.cell (j := 4) ha hj rfl) (ite_i (fun hx => ?_) fun hx => ?_)))
            · have hx : ¬ j.state = 2 := by simpa using hx
              exact hn (by
                show e.att = false
                rw [Bool.eq_false_iff]
                exact fun ht => hx (by rw [E.state]; exact E.att.1 ht))
            · have hx : j.state = 2 := by simpa using hx
              refine T'.all_ld (T'.index hi fun a ha => T'.st (e' := { j with waits := true }) ha hj (by decide) rfl fun h4 T4 F4 => ?_)
              exact ite_f (by simp [hf]) (hy (E.att.2 (by rw [← E.state]; exact hx)) h4 T4 F4)
          · intro h4 js4 T4 S4 K4 F4
            refine ite_f (by simp [hf]) (deref_i (loadI_i (T4.ob.ld (j := 4) rfl) ?_))
            exact hQ h4 js4 T4 S4 (by rw [K4, K2, K1]) (F3'.trans F4)
end
end Go.Cz.S

namespace Go.Cz.S
set_option maxRecDepth 100000
set_option maxHeartbeats 1000000
set_option linter.unusedSimpArgs false
set_option linter.unusedVariables false
section
variable {h h' : H} {b : Nat} {lv av : Sl} {c : Cfg} {pos : Int} {all : List Ent} {js : List Job} {r : Nat}
theorem rstep_spec (T : RT h b lv av c pos js) (S : SimL c r all js) (hl : js.length ≤ 900000) (hr : r ≤ 90000) (hk : 1 ≤ c.k ∧ c.k ≤ 16) {pk fault : Int} {Q : Int × Int × Int × Int × Int → HProp}
    (hQ : ∀ h' js', RT h' b lv av c (stepF c pos all pk fault).pos js' → SimL c (r + 1) (stepF c pos all pk fault).all js' → keysJ js' = keysJ js → Fr (own b av) h h' → Q (stepF c pos all pk fault).ev h') : ref28_Table_Step (some (at0 b), pk, fault) Q h := by
  unfold ref28_Table_Step
  simp only [ltI_eq, eqI_eq, leI_eq]
  unfold stepF at hQ
  have hlen := S.len
  refine rwait_spec T S (by omega) fun u h1 V1 N1 E1 => ?_
  have T1 := T.ext E1
  rw [V1.len]
  refine ite_i (fun hz => ?_) fun hnz => ?_
  · rw [if_pos (by simpa using hz)] at hQ
    exact rtick_spec T1 S hl hr hk fun h2 js2 T2 S2 K2 F2 => hQ h2 js2 T2 S2 K2 (E1.fr.trans F2)
  · rw [if_neg (by simpa using hnz)] at hQ
    have Sm := S.mono (Nat.le_succ r)
    refine with_b (decide (pk < 0 ∨ ((ids isX all).length : Int) ≤ pk)) (fun k' hk' => ?_) ?_
    · refine ite_i (fun h1 => ?_) fun h1 => ?_
      · rw [decide_eq_true (.inl (of_decide_eq_true h1))] at hk'; exact hk'
      · have h1 := of_decide_eq_false h1
        simpa only [h1, false_or] using hk'
    · refine ite_i (fun h2 => ?_) fun h2 => ?_
      · rw [if_pos (of_decide_eq_true h2)] at hQ
        exact hQ h1 js T1 Sm rfl E1.fr
      · have h2 := of_decide_eq_false h2
        rw [if_neg h2] at hQ
        obtain ⟨q, rfl⟩ : ∃ q : Nat, pk = q := ⟨pk.toNat, by omega⟩
        have hq : q < (ids isX all).length := by omega
        rw [Int.toNat_natCast, List.getElem?_eq_getElem hq] at hQ
        simp only [] at hQ
        refine V1.arr.num hq ?_
        obtain ⟨i, e, hx, hi, he, hp⟩ := mem_ids (List.getElem_mem hq)
        rw [hx, upd_at _ he] at hQ
        rw [hx, sub1 (by omega)]
        have hi' : i < js.length := by omega
        obtain ⟨e', j, he', hj, E⟩ := S.get hi'
        rw [he] at he'; cases he'
        have hst := (E.exp.1 hp).1
        have hadd : add .i64 (i : Int) 1 = ((i + 1 : Nat) : Int) := by rw [add_i64 (by omega) (by omega)]; simp
        refine T1.all_ld (T1.index hi' fun a ha => T1.st (e' := { j with waits := false }) ha hj (by decide) rfl fun h3 T3 F3 => ?_)
        have up : ∀ x : Job, (js.set i x)[i]? = some x := fun x => List.getElem?_set_self hi'
        have hi3 : ∀ x : Job, i < (js.set i x).length := fun x => by simpa using hi'
        have fin : ∀ h4 j4, RT h4 b lv av c pos (js.set i j4) → Fr (own b av) h1 h4 → j4 = servedJ fault j → derefW (some (at0 b)) (fun (a : Addr) => loadI IntKind.i64 (a.add 4) fun (x_2 : Int) => Q (3, x_2, add IntKind.i64 (i : Int) 1, fault, 0)) h4 := fun h4 j4 T4 F4 hj4 => by
          refine deref_i (loadI_i (T4.ob.ld (j := 4) rfl) ?_)
          rw [hadd]
          subst hj4
          refine hQ h4 _ T4 ((S.set (sim_serve E hk hst)).mono (Nat.le_succ r)) ?_ (E1.fr.trans F4)
          exact keys_set hj (by unfold servedJ; split; · rfl
                                split <;> rfl)
        refine with_u (ite_i (fun hf => ?_) fun hf => ?_)
        · have hf : ¬ fault = 0 := by simpa using hf
          refine fails_spec T3 (up _) fun h4 T4 F4 => ?_
          rw [List.set_set] at T4
          exact fin h4 _ T4 (F3.trans F4) (by unfold servedJ; rw [if_pos hf])
        · have hf : fault = 0 := by simpa using hf
          refine T3.all_ld (T3.index (hi3 _) fun a ha => loadI_i (T3.cell (j := 6) ha (up _) rfl) (T3.index (hi3 _) fun a ha => T3.st (e' := { j with waits := false, had := add .i64 j.had 1 }) ha (up _) (by decide) rfl fun h4 T4 F4 => ?_))
          rw [List.set_set] at T4
          refine T4.all_ld (T4.index (hi3 _) fun a ha => loadI_i (T4.cell (j := 6) ha (up _) rfl) (T4.all_ld (T4.index (hi3 _) fun a ha => loadI_i (T4.cell (j := 7) ha (up _) rfl) (ite_i (fun ht => ?_) fun ht => ?_))))
          · have ht := of_decide_eq_true ht
            refine T4.all_ld (T4.index (hi3 _) fun a ha => T4.st (e' := { j with waits := false, had := add .i64 j.had 1, state := 3 }) ha (up _) (by decide) rfl fun h5 T5 F5 => ?_)
            rw [List.set_set] at T5
            refine fin h5 _ T5 ((F3.trans F4).trans F5) ?_
            unfold servedJ
            rw [if_neg (fun h => h hf), if_pos ht]
          · have ht := of_decide_eq_false ht
            refine fin h4 _ T4 (F3.trans F4) ?_
            unfold servedJ
            rw [if_neg (fun h => h hf), if_neg ht]
theorem bound_with {n : Nat} {id : Int} (T : RT h b lv av c pos js) (hn : js.length = n) {k : Bool → HProp} (hk : k (decide (id < 1 ∨ (n : Int) < id)) h) :
    iteW (decide (id < 1)) (k true) (derefW (some (at0 b)) fun (a : Addr) => loadL (a.add 5) fun (x : Sl) => k (decide ((x.len : Int) < id))) h := by
  refine ite_i (fun h1 => ?_) fun h1 => ?_
  · rw [decide_eq_true (.inl (of_decide_eq_true h1))] at hk; exact hk
  · have h1 := of_decide_eq_false h1
    refine T.all_ld ?_
    rw [T.va.len, hn]
    simpa only [h1, false_or] using hk
theorem rcancel_spec (T : RT h b lv av c pos js) (S : SimL c r all js) (hl : js.length ≤ 900000) {id : Int} {Q : Int → HProp}
    (hQ : ∀ h' js', RT h' b lv av c pos js' → SimL c r (cancelF all id).2 js' → keysJ js' = keysJ js → Fr (own b av) h h' → Q (cancelF all id).1 h') : ref28_Table_Cancel (some (at0 b), id) Q h := by
  unfold ref28_Table_Cancel
  simp only [ltI_eq, eqI_eq]
  unfold cancelF at hQ
  refine with_b (decide (id < 1 ∨ (all.length : Int) < id)) (fun k hk => bound_with T S.len.symm hk) (ite_i (fun hx => ?_) fun hx => ?_)
  · rw [getE_no (of_decide_eq_true hx)] at hQ
    exact hQ h js T S rfl (Fr.refl _ _)
  · have hx := of_decide_eq_false hx
    have hlen := S.len
    obtain ⟨i, rfl⟩ : ∃ i : Nat, id = ((i + 1 : Nat) : Int) := ⟨(id - 1).toNat, by omega⟩
    have hi : i < js.length := by omega
    obtain ⟨e, j, he, hj, E⟩ := S.get hi
    rw [getE_yes he] at hQ
    simp only [] at hQ
    rw [sub1 (by omega)]
    refine T.all_ld (T.index hi fun a ha => loadI_i (T.cell (j := 4) ha hj rfl) ?_)
    rw [E.state]
    refine with_b (decide (e.state ≠ 1 ∧ e.state ≠ 2)) (fun k hk => ite_i (fun h1 => ?_) fun h1 => ?_) (ite_i (fun h1 => ?_) fun h1 => ?_)
    · have h1 : ¬ e.state = 1 := by simpa using h1
      have : decide (e.state ≠ 1 ∧ e.state ≠ 2) = !decide (e.state = 2) := by
        rw [← decide_not]; exact decide_eq_decide.2 ⟨fun h => h.2, fun h => ⟨h1, h⟩⟩
      rw [this] at hk; exact hk
    · have h1 : e.state = 1 := by simpa using h1
      rw [decide_eq_false (fun h => h.1 h1)] at hk; exact hk
    · rw [if_pos (of_decide_eq_true h1)] at hQ
      exact hQ h js T S rfl (Fr.refl _ _)
    · have h1 := of_decide_eq_false h1
      rw [if_neg h1, show (((i + 1 : Nat) : Int) - 1).toNat = i by omega] at hQ
      have h12 : e.state = 1 ∨ e.state = 2 := by
        by_cases h : e.state = 1
        · exact .inl h
        · exact .inr (Classical.byContradiction fun h2 => h1 ⟨h, h2⟩)
      refine T.all_ld (T.index hi fun a ha => T.st (e' := { j with state := 4 }) ha hj (by decide) rfl fun h2 T2 F2 => ?_)
      have hc : j.code = 0 := by rw [E.code]; exact E.c0 (by omega)
      have E' := sim_end (s := 4) (cd := 0) (w := j.waits) E h12 (.inl rfl) (fun _ => rfl)
      rw [show ({ j with waits := j.waits, state := 4, code := 0 } : Job) = { j with state := 4 } by rw [← hc]] at E'
      exact hQ h2 _ T2 (S.set E') (keys_set (j' := { j with state := 4 }) hj rfl) F2
theorem rpoll_spec (T : RT h b lv av c pos js) (S : SimL c r all js) (hl : js.length ≤ 900000) (hk : 1 ≤ c.k ∧ c.k ≤ 16) {id : Int} {Q : Int × Int × Int × Int → HProp}
    (hQ : Q (pollF all id) h) : ref28_Table_Poll (some (at0 b), id) Q h := by
  unfold ref28_Table_Poll
  simp only [ltI_eq, eqI_eq]
  unfold pollF at hQ
  refine with_b (decide (id < 1 ∨ (all.length : Int) < id)) (fun k hk => bound_with T S.len.symm hk) (ite_i (fun hx => ?_) fun hx => ?_)
  · rw [getE_no (of_decide_eq_true hx)] at hQ
    exact hQ
  · have hx := of_decide_eq_false hx
    have hlen := S.len
    obtain ⟨i, rfl⟩ : ∃ i : Nat, id = ((i + 1 : Nat) : Int) := ⟨(id - 1).toNat, by omega⟩
    have hi : i < js.length := by omega
    obtain ⟨e, j, he, hj, E⟩ := S.get hi
    rw [getE_yes he] at hQ
    simp only [] at hQ
    rw [sub1 (by omega)]
    refine T.all_ld (T.index hi fun a ha => ?_)
    have cc : ∀ (q : Nat) (y : Value), j.cells[q]? = some y → h.cell? (a.add q) = some y := fun q y hy => T.cell ha hj hy
    refine loadI_i (cc 0 _ rfl) (loadI_i (cc 1 _ rfl) (loadI_i (cc 2 _ rfl) (loadI_i (cc 3 _ rfl) (loadI_i (cc 4 _ rfl) (loadI_i (cc 5 _ rfl) (loadI_i (cc 6 _ rfl) (loadI_i (cc 7 _ rfl) (loadI_i (cc 8 _ rfl) (loadB_i (cc 9 _ rfl) (loadL_i (v := j.res) (cc 10 _ rfl) ?_))))))))))
    refine deref_i (loadI_i (T.ob.ld (j := 1) rfl) (must_i (by omega) ?_))
    obtain ⟨r0, r1, r2, r3⟩ := E.rd
    obtain ⟨t0, t1⟩ := E.tks
    have b3 := mulmono (a := 0) (b := e.round) (k := c.k) (by omega) (by omega)
    have b2 := mulmono (a := e.takes) (b := 300) (k := c.k) (by omega) (by omega)
    have b4 := mulmono (a := e.round) (b := e.takes) (k := c.k) (by omega) (by omega)
    have b5 := mulmono (a := 0) (b := e.takes) (k := c.k) (by omega) (by omega)
    have hh := E.had
    refine with_b e.round (fun k hk => ?_) ?_
    · rw [E.state]
      refine ite_i (fun h3 => ?_) fun h3 => ?_
      · have h3 := of_decide_eq_true h3
        rw [if_pos h3] at hh
        have := E.top h3
        have hq : quo .i64 j.had c.k = e.takes := by
          rw [quo_i64 (by omega) (by omega) (by omega), hh]
          exact Int.mul_ediv_cancel _ (by omega)
        rw [hq, sub_i64 (by omega) (by omega), show e.takes - 1 = e.round by omega]
        exact hk
      · have h3 := of_decide_eq_false h3
        rw [if_neg h3] at hh
        have hq : quo .i64 j.had c.k = e.round := by
          rw [quo_i64 (by omega) (by omega) (by omega), hh, Int.add_comm, Int.add_mul_ediv_right _ _ (by omega), Int.ediv_eq_zero_of_lt r2 r3, Int.zero_add]
        rw [hq]
        exact hk
    · rw [E.state, E.code]
      exact hQ
/-- what the jobs came to -/
def Outs (h : H) (c : Cfg) (S : Nat → Prop) (ks : List (Int × Int × Sl)) : Prop := ∀ t ∈ ks, ∃ out m, Says c.n.toNat c.L t.1 t.2.1 out m ∧ Arr h t.2.2 (eI .u64) out ∧ ∀ x, t.2.2.on x → ¬ S x
theorem Outs.fr {S P : Nat → Prop} {ks : List (Int × Int × Sl)} (O : Outs h c S ks) (F : Fr P h h') (hp : ∀ x, P x → S x) : Outs h' c S ks := fun t ht => by
  obtain ⟨out, m, a, b, d⟩ := O t ht
  exact ⟨out, m, a, b.fr F fun x hx hpx => d x hx (hp x hpx), d⟩
theorem rtold_spec {P : Nat → Prop} (T : RT h b lv av c pos js) (S : SimL c r all js) (O : Outs h c P (keysJ js)) (hn : 1 ≤ c.n) (hn2 : c.n ≤ 256) (hl : js.length ≤ 900000) {id : Int} {Q : Sl × Int → HProp}
    (hno : getE all id = none → Q (Sl.mk none 0 0, 4) h) (hyes : ∀ e, getE all id = some e → ∀ x out h' m, Arr h' x (eI .u64) out → (e.state = 3 → Says c.n.toNat c.L e.kind e.arg out m) → (e.state ≠ 3 → out = []) → Ext h h' → Q (x, resF e) h') :
    ref28_Table_Told (some (at0 b), id) Q h := by
  unfold ref28_Table_Told
  simp only [ltI_eq, eqI_eq]
  refine with_b (decide (id < 1 ∨ (all.length : Int) < id)) (fun k hk => bound_with T S.len.symm hk) (ite_i (fun hx => ?_) fun hx => ?_)
  · exact hno (getE_no (of_decide_eq_true hx))
  · have hx := of_decide_eq_false hx
    have hlen := S.len
    obtain ⟨i, rfl⟩ : ∃ i : Nat, id = ((i + 1 : Nat) : Int) := ⟨(id - 1).toNat, by omega⟩
    have hi : i < js.length := by omega
    obtain ⟨e, j, he, hj, E⟩ := S.get hi
    have hy := hyes e (getE_yes he)
    rw [sub1 (by omega)]
    refine T.all_ld (T.index hi fun a ha => loadI_i (T.cell (j := 4) ha hj rfl) ?_)
    rw [E.state]
    have nil : Arr h (Sl.mk none 0 0) (eI .u64) [] := (Vec.nil0).arr
    unfold resF at hy
    refine ite_i (fun h3 => ?_) fun h3 => ?_
    · have h3 := of_decide_eq_true h3
      rw [if_pos h3] at hy
      refine Obj.new fun b0 h1 o1 n1 e1 => ?_
      have T1 := T.ext e1
      refine T1.all_ld (T1.index hi fun a ha => loadL_i (v := j.res) (T1.cell (j := 10) ha hj rfl) ?_)
      obtain ⟨out, m, hs, hA, _⟩ := O j.key (List.mem_map.2 ⟨j, List.mem_of_getElem? hj, rfl⟩)
      have hA : Arr h j.res (eI .u64) out := hA
      have hs : Says c.n.toNat c.L e.kind e.arg out m := by
        have : Says c.n.toNat c.L j.kind j.arg out m := hs
        rw [E.kind, E.arg] at this; exact this
      have hol : out.length = c.n.toNat := by rw [hs.2.1, itF_len]
      refine (hA.ext e1).row (w := 1) rfl ?_
      have V0 : Vec h1 ⟨some ⟨b0, 0, none⟩, 0, 0⟩ (eI .u64) [] := ⟨rfl, Nat.le_refl _, (fun e => by cases e), fun a ha => by
        cases ha
        exact ⟨rfl, [], o1, by simp, by simp [Enc.all]⟩⟩
      have hrl : j.res.len = out.length := hA.len
      rw [hrl]
      refine V0.append_new e1 (fun x hx => by obtain ⟨a, ha, rfl⟩ := hx; cases ha; exact n1) (m := out) rfl rfl rfl (by simp; omega) fun u h2 V2 E2 _ _ _ => ?_
      exact hy u out h2 m (by simpa using V2.arr) (fun _ => hs) (fun h => absurd h3 h) E2
    · have h1 : ¬ e.state = 3 := of_decide_eq_false h3
      rw [if_neg h1] at hy
      refine with_u (ite_i (fun h2 => ite_t h2 ?_) fun h2 => ite_i (fun h4 => ?_) fun h4 => ?_)
      · have h2 : e.state = 1 := by simpa using h2
        rw [if_pos (.inl h2)] at hy
        exact hy _ [] h 0 nil (fun h => absurd h h1) (fun _ => rfl) (Ext.refl h)
      · have h4 : e.state = 2 := by simpa using h4
        rw [if_pos (.inr h4)] at hy
        exact hy _ [] h 0 nil (fun h => absurd h h1) (fun _ => rfl) (Ext.refl h)
      · have h2 : ¬ e.state = 1 := by simpa using h2
        have h4 : ¬ e.state = 2 := by simpa using h4
        rw [if_neg (by rintro (h | h) <;> contradiction)] at hy
        exact hy _ [] h 0 nil (fun h => absurd h h1) (fun _ => rfl) (Ext.refl h)
theorem rsubmit_spec (T : RT h b lv av c pos js) (S : SimL c r all js) (hv : Valid c.n c.L) (hL : c.L.length ≤ 900) (hl : js.length ≤ 900000) {kind arg prio need : Int} {out : List Int} {m : Nat} {Q : Int × Int → HProp}
    (hno : subErr c all kind arg prio need ≠ 0 → Q (0, subErr c all kind arg prio need) h)
    (hs : subErr c all kind arg prio need = 0 → Says c.n.toNat c.L kind arg out m ∧ m ≤ 300)
    (hyes : subErr c all kind arg prio need = 0 → ∀ h' av' res, RT h' b lv av' c pos (js ++ [⟨kind, arg, prio, need, 1, 0, 0, mul .i64 m c.k, 0, false, res⟩]) → Fr (own b av) h h' → (∀ x, av'.on x → av.on x ∨ h x = none) → Arr h' res (eI .u64) out → (∀ x, res.on x → h x = none ∧ ¬ own b av' x) → Q ((all.length : Int) + 1, 0) h') :
    ref28_Table_Submit (some (at0 b), kind, arg, prio, need) Q h := by
  have hn := hv.n
  have hlen := S.len
  unfold ref28_Table_Submit
  simp only [eqI_eq, ltI_eq, leI_eq]
  refine deref_i (loadI_i (T.ob.ld (j := 0) rfl) (refcheck_spec hn.1 hn.2 ?_))
  refine with_b (subErr c all kind arg prio need) (fun k hk => ?_) ?_
  · unfold subErr at hk
    by_cases hok : okReq kind arg prio c.n = false
    · rw [if_pos hok] at hk
      rw [if_neg (by rw [hok]; decide)]
      exact with_b false (fun k' hk' => ite_f rfl hk') (ite_f rfl (with_b false (fun k' hk' => ite_f rfl hk') (ite_f rfl (with_b false (fun k' hk' => ite_f rfl hk') (ite_f rfl hk)))))
    have hok' : okReq kind arg prio c.n = true := by simpa using hok
    rw [if_neg hok] at hk
    rw [if_pos hok']
    refine with_b (decide (need < 256)) (fun k' hk' => ite_t rfl hk') (ite_i (fun h1 => ?_) fun h1 => ?_)
    · rw [if_pos (of_decide_eq_true h1)] at hk; exact hk
    rw [if_neg (of_decide_eq_false h1)] at hk
    refine with_b (decide (c.tot < need)) (fun k' hk' => ite_t rfl (deref_i (loadI_i (T.ob.ld (j := 2) rfl) hk'))) (ite_i (fun h2 => ?_) fun h2 => ?_)
    · rw [if_pos (of_decide_eq_true h2)] at hk; exact hk
    rw [if_neg (of_decide_eq_false h2)] at hk
    refine with_b (decide (999999 ≤ all.length ∨ 8 ≤ (ids isQ all).length)) (fun k' hk' => ite_t rfl (many1 T S (by omega) (ite_i (fun h3 => ?_) fun h3 => ?_))) (ite_i (fun h3 => ?_) fun h3 => ?_)
    · have h3 := of_decide_eq_true h3
      rw [decide_eq_true (.inr (by omega))] at hk'; exact hk'
    · have h3 := of_decide_eq_false h3
      refine T.all_ld ?_
      rw [T.va.len]
      have : decide (999999 ≤ all.length ∨ 8 ≤ (ids isQ all).length) = decide ((999999 : Int) ≤ (js.length : Int)) := decide_eq_decide.2 (by omega)
      rw [this] at hk'; exact hk'
    · rw [if_pos (of_decide_eq_true h3)] at hk; exact hk
    · rw [if_neg (of_decide_eq_false h3)] at hk; exact hk
  · refine ite_i (fun he => ?_) fun he => ?_
    · exact hno (by simpa using he)
    have he : subErr c all kind arg prio need = 0 := by simpa using he
    have hok : okReq kind arg prio c.n = true := by
      unfold subErr at he
      split at he
      · cases he
      · rename_i hx; simpa using hx
    obtain ⟨hs1, hs2⟩ := hs he
    refine deref_i (loadI_i (T.ob.ld (j := 0) rfl) (deref_i (loadL_i (v := lv) (T.ob.ld (j := 3) rfl) ?_)))
    refine refrun_spec T.al hL hv hok hs1 (by omega) fun res h2 A2 N2 E2 => ?_
    have T2 := T.ext E2
    refine ite_f rfl (deref_i (loadL_i (v := av) (T2.ob.ld (j := 5) rfl) (deref_i (loadI_i (T2.ob.ld (j := 1) rfl) (keeps1 (T2.ob.ld (j := 5) rfl) ?_)))))
    refine T2.va.append (m := [⟨kind, arg, prio, need, 1, 0, 0, mul .i64 m c.k, 0, false, res⟩]) rfl (by simp [Enc.all]; rfl) rfl (by omega) fun u h5 V5 F5 hu5 => ?_
    have ob5 := T2.ob.fr F5 T2.ab
    refine deref_i (ob5.st (j := 5) (by simp) fun h6 o6 F6 => ?_)
    have hub : ¬ u.on b := fun hu => by
      rcases hu5 b hu with h | h
      · exact T.ab h
      · have := T2.ob; unfold Obj at this; rw [h] at this; cases this
    have T6 : RT h6 b lv u c pos (js ++ [⟨kind, arg, prio, need, 1, 0, 0, mul .i64 m c.k, 0, false, res⟩]) := by
      refine ⟨o6, (T2.al.frn F5 fun hl x hx => (T2.lb hl x hx).2).frn F6 fun hl x hx => (T2.lb hl x hx).1, V5.fr F6 (fun x hx e => hub (e ▸ hx)), fun hl x hx => ⟨(T2.lb hl x hx).1, fun hu => ?_⟩, hub⟩
      rcases hu5 x hu with h | h
      · exact (T2.lb hl x hx).2 h
      · obtain ⟨o, ho⟩ := T2.al.there hl hx; rw [h] at ho; cases ho
    have hol : out.length = c.n.toNat := by rw [hs1.2.1, itF_len]
    have hne : out ≠ [] := fun e => by rw [e] at hol; simp at hol; omega
    have hrn : ∀ x, res.on x → h x = none ∧ ¬ own b u x := fun x hx => by
      refine ⟨N2 x hx, fun ho => ?_⟩
      rcases ho with rfl | ho
      · have := T.ob; unfold Obj at this; rw [N2 _ hx] at this; cases this
      · rcases hu5 x ho with h | h
        · obtain ⟨o, ho⟩ := T.va.there h
          rw [N2 x hx] at ho; cases ho
        · obtain ⟨o, ho⟩ := A2.there hne hx
          rw [h] at ho; cases ho
    have A5 := A2.fr F5 fun x hx ha => by
      obtain ⟨o, ho⟩ := T.va.there ha
      rw [N2 x hx] at ho; cases ho
    have A6 := A5.fr F6 fun x hx e => by
      subst e
      have := T.ob; unfold Obj at this; rw [N2 _ hx] at this; cases this
    refine deref_i (loadL_i (v := u) (T6.ob.ld (j := 5) rfl) ?_)
    have hul : (u.len : Int) = (all.length : Int) + 1 := by rw [V5.len]; simp; omega
    rw [hul]
    refine hyes he h6 u res T6 ?_ ?_ A6 hrn
    · exact (E2.fr.trans (F5.mono fun x hx => .inr hx)).trans (F6.mono fun x hx => .inl hx)
    · intro x hx
      rcases hu5 x hx with h | h
      · exact .inl h
      · exact .inr (E2.none h)
end
theorem refnewF_spec {n : Int} {v : Sl} {L : List (Int × Int)} {k tot : Int} {h : H} (A : Arr h v eP L) (hL : L.length ≤ 900) {Q : Option Addr × Int → HProp} (hok : newOk n L k tot)
    (hyes : ∀ b lv h', RT h' b lv ⟨none, 0, 0⟩ ⟨n, k, tot, L⟩ (-1) [] → Ext h h' → h b = none → (∀ x, lv.on x → h x = none) → Q (some (at0 b), 0) h') : ref28_New (n, v, k, tot) Q h := by
  unfold ref28_New
  simp only [eqI_eq, ltI_eq]
  refine refuses_spec A hL (fun hx h1 E1 => absurd hok.1 hx) fun hv h1 E1 => ?_
  refine ite_f rfl (refcut_spec (fun hc => by rw [hok.2.1] at hc; cases hc) fun hc u h2 E2 => ?_)
  refine ite_f rfl ?_
  have E12 := E1.trans E2
  obtain ⟨t1, t2⟩ := hok.2.2
  refine with_b false (fun k hk => ite_f (by simp; omega) ?_) ?_
  · have : decide (1099511627776 < tot) = false := decide_eq_false (by omega)
    rw [this]; exact hk
  · refine ite_f rfl (Obj.new fun b0 h3 o3 n3 e3 => ?_)
    refine ((A.ext E12).ext e3).row (w := 2) rfl ?_
    simp only [A.len]
    have V0 : Vec h3 ⟨some ⟨b0, 0, none⟩, 0, 0⟩ eP [] := ⟨rfl, Nat.le_refl _, (fun e => by cases e), fun a ha => by
      cases ha
      exact ⟨rfl, [], o3, by simp, by simp [Enc.all]⟩⟩
    refine V0.append_new e3 (fun x hx => by obtain ⟨a, ha, rfl⟩ := hx; cases ha; exact n3) (m := L) rfl rfl rfl (by simp; omega) fun u h4 V4 E4 N4 _ _ => ?_
    simp only [List.nil_append] at V4
    refine Obj.new fun b5 h5 o5 n5 e5 => hyes b5 u h5 ?_ ((E12.trans E4).trans e5) (E12.none (E4.none n5)) (fun x hx => E12.none (N4 x hx))
    refine ⟨o5, V4.arr.ext e5, Vec.nil0, fun _ x hx => ⟨fun e => ?_, fun ⟨a, ha, _⟩ => by cases ha⟩, fun ⟨a, ha, _⟩ => by cases ha⟩
    subst e
    obtain ⟨o, ho⟩ := V4.there hx
    rw [n5] at ho; cases ho
theorem numbers_spec {a b : Sl} {L M : List Int} {h : H} (A : Arr h a (eI .u64) L) (B : Arr h b (eI .u64) M) (hL : L.length ≤ 1000000) (he : L = M) {Q : Bool → HProp} (hQ : Q true h) : law16_Numbers (a, b) Q h := by
  subst he
  unfold law16_Numbers
  simp only [A.len, B.len, ltI_eq, eqI_eq]
  refine ite_f (by simp) ?_
  refine loop_i (fun (s : Int) h' => h' = h ∧ ∃ i : Nat, s = i ∧ i ≤ L.length) (fun s => ((L.length : Int) - s).toNat) ⟨rfl, 0, rfl, Nat.zero_le _⟩ ?_
  rintro s h' ⟨rfl, i, rfl, hi⟩ k hk
  refine ite_i (fun hlt => ?_) fun hge => hQ
  have hlt : i < L.length := by simpa using hlt
  refine A.num hlt (B.num hlt (ite_f (by simp) ?_))
  rw [add_i64 (by omega) (by omega)]
  exact hk _ _ ⟨rfl, i + 1, by simp, by omega⟩ (by omega)
def faultF (x : Int) : Int := if x = 3 then 60 else if x = 4 then 50 else 0
theorem faultF_spec {x : Int} {h : H} {Q : Int → HProp} (hQ : Q (faultF x) h) : law28_fault x Q h := by
  unfold law28_fault
  simp only [eqI_eq]
  unfold faultF at hQ
  refine ite_i (fun h1 => ?_) fun h1 => ite_i (fun h2 => ?_) fun h2 => ?_
  · rw [if_pos (of_decide_eq_true h1)] at hQ; exact hQ
  · rw [if_neg (of_decide_eq_false h1), if_pos (of_decide_eq_true h2)] at hQ; exact hQ
  · rw [if_neg (of_decide_eq_false h1), if_neg (of_decide_eq_false h2)] at hQ; exact hQ
end Go.Cz.S

namespace Go.Cz.S
set_option maxRecDepth 100000
set_option maxHeartbeats 2000000
set_option linter.unusedSimpArgs false
set_option linter.unusedVariables false
/-- both tables -/
structure Pair (h0 h : H) (b : Nat) (lv av : Sl) (b' : Nat) (lv' jv : Sl) (c : Cfg) (pos : Int) (all : List Ent) (js : List Job) (r : Nat) : Prop where
  m : Mine h0 h b lv av c pos all
  t : RT h b' lv' jv c pos js
  nb : h0 b' = none
  na : ∀ x, jv.on x → h0 x = none
  s : SimL c r all js
  ap1 : ∀ x, own b av x → ¬ own b' jv x
  ap2 : c.L ≠ [] → ∀ x, lv'.on x → ¬ own b av x
  ap3 : c.L ≠ [] → ∀ x, lv.on x → ¬ own b' jv x
  o : Outs h c (fun x => own b av x ∨ own b' jv x) (keysJ js)
section
variable {h0 h h1 h2 : H} {b b' : Nat} {lv av lv' jv : Sl} {c : Cfg} {pos pos' : Int} {all all' : List Ent} {js js' : List Job} {r r' : Nat}
theorem tab_there (T : Tab h b lv av c pos all) {x : Nat} (hx : own b av x) : ∃ o, h x = some o := by
  rcases hx with rfl | hx
  · exact ⟨_, T.ob⟩
  · exact T.va.there hx
theorem rt_there (T : RT h b lv av c pos js) {x : Nat} (hx : own b av x) : ∃ o, h x = some o := by
  rcases hx with rfl | hx
  · exact ⟨_, T.ob⟩
  · exact T.va.there hx
theorem Pair.rt1 (P : Pair h0 h b lv av b' lv' jv c pos all js r) (F : Fr (own b av) h h1) : RT h1 b' lv' jv c pos js :=
  P.t.fr F (fun hx => P.ap1 _ hx (.inl rfl)) (fun x hx ho => P.ap1 x ho (.inr hx)) P.ap2
theorem Pair.both (P : Pair h0 h b lv av b' lv' jv c pos all js r) (T : Tab h1 b lv av c pos' all') (F1 : Fr (own b av) h h1) (R : RT h2 b' lv' jv c pos' js') (F2 : Fr (own b' jv) h1 h2) (S : SimL c r' all' js') (K : keysJ js' = keysJ js) :
    Pair h0 h2 b lv av b' lv' jv c pos' all' js' r' := by
  have T2 : Tab h2 b lv av c pos' all' := T.fr F2 (fun hx => P.ap1 _ (.inl rfl) hx) (fun x hx ho => P.ap1 x (.inr hx) ho) P.ap3
  have M1 := P.m.next T F1
  refine ⟨⟨T2, M1.e.of_new F2 fun x hx => ?_, M1.nb, M1.na⟩, R, P.nb, P.na, S, P.ap1, P.ap2, P.ap3, ?_⟩
  · rcases hx with rfl | hx
    · exact P.nb
    · exact P.na x hx
  · rw [K]
    exact (P.o.fr F1 fun x hx => .inl hx).fr F2 fun x hx => .inr hx
theorem Pair.ext (P : Pair h0 h b lv av b' lv' jv c pos all js r) (E : Ext h h1) (hr : r ≤ r') : Pair h0 h1 b lv av b' lv' jv c pos all js r' :=
  P.both (P.m.t.ext E) E.fr (P.t.ext E) (Fr.refl _ _) (P.s.mono hr) rfl
theorem Pair.len (P : Pair h0 h b lv av b' lv' jv c pos all js r) : js.length = all.length := P.s.len.symm
/-- a step, and the block that its event lies in -/
theorem ev_i {S X : Nat → Prop} {Y : H → Prop} {step : Int → ((Int × Int × Int × Int × Int) → HProp) → HProp} {ev : Int × Int × Int × Int × Int} {h : H} {k : Option Addr × Int → HProp} {x : Int}
    (hown : ∀ x, S x → ∃ o, h x = some o)
    (hstep : ∀ h1, Ext h h1 → ∀ Q : (Int × Int × Int × Int × Int) → HProp, (∀ h2, Y h2 → Fr S h1 h2 → Q ev h2) → step (faultF x) Q h1)
    (hY : ∀ h1 h2 b, Y h1 → h b = none → Fr (fun k => k = b) h1 h2 → Y h2) (hown2 : ∀ h1 x, Y h1 → S x → ∃ o, h1 x = some o)
    (hk : ∀ h' b, Obj h' b [.int .i64 ev.1, .int .i64 ev.2.1, .int .i64 ev.2.2.1, .int .i64 ev.2.2.2.1] → h b = none → Y h' → Fr S h h' → k (some (at0 b), ev.2.2.2.2) h') :
    bothW (law28_fault x fun r => bothW (step r fun r => newW [Value.int IntKind.i64 0, Value.int IntKind.i64 0, Value.int IntKind.i64 0, Value.int IntKind.i64 0] fun b => storesW (Addr.mk b 0 none) [Value.int IntKind.i64 r.fst, Value.int IntKind.i64 r.snd.fst, Value.int IntKind.i64 r.snd.snd.fst, Value.int IntKind.i64 r.snd.snd.snd.fst] (k (some (Addr.mk b 0 none), r.snd.snd.snd.snd)))
        (newW [Value.int IntKind.i64 0, Value.int IntKind.i64 0, Value.int IntKind.i64 0, Value.int IntKind.i64 0] fun b => step r fun r => storesW (Addr.mk b 0 none) [Value.int IntKind.i64 r.fst, Value.int IntKind.i64 r.snd.fst, Value.int IntKind.i64 r.snd.snd.fst, Value.int IntKind.i64 r.snd.snd.snd.fst] (k (some (Addr.mk b 0 none), r.snd.snd.snd.snd))))
      (newW [Value.int IntKind.i64 0, Value.int IntKind.i64 0, Value.int IntKind.i64 0, Value.int IntKind.i64 0] fun b => law28_fault x fun r => step r fun r => storesW (Addr.mk b 0 none) [Value.int IntKind.i64 r.fst, Value.int IntKind.i64 r.snd.fst, Value.int IntKind.i64 r.snd.snd.fst, Value.int IntKind.i64 r.snd.snd.snd.fst] (k (some (Addr.mk b 0 none), r.snd.snd.snd.snd))) h := by
  have late : ∀ (bv : Nat) (h1 : H), Obj h1 bv [Value.int IntKind.i64 0, Value.int IntKind.i64 0, Value.int IntKind.i64 0, Value.int IntKind.i64 0] → h bv = none → Ext h h1 →
      step (faultF x) (fun r => storesW (Addr.mk bv 0 none) [Value.int IntKind.i64 r.fst, Value.int IntKind.i64 r.snd.fst, Value.int IntKind.i64 r.snd.snd.fst, Value.int IntKind.i64 r.snd.snd.snd.fst] (k (some (Addr.mk bv 0 none), r.snd.snd.snd.snd))) h1 := fun bv h1 o1 n1 e1 => by
    refine hstep h1 e1 _ fun h2 y2 F2 => ?_
    have hns : ¬ S bv := fun hs => by obtain ⟨o, ho⟩ := hown bv hs; rw [n1] at ho; cases ho
    refine (o1.fr F2 hns).sts rfl fun h3 o3 F3 => hk h3 bv o3 n1 (hY h2 h3 bv y2 n1 F3) ?_
    intro q o hq hs
    refine F3 q o (F2 q o (e1 q o hq fun h => h) hs) fun e => ?_
    subst e; rw [n1] at hq; cases hq
  refine both_i (faultF_spec (both_i ?_ ?_)) ?_
  · refine hstep h (Ext.refl h) _ fun h1 y1 F1 => Obj.new fun bv h2 o2 n2 e2 => ?_
    have hbn : h bv = none := by
      cases hb : h bv with
      | none => rfl
      | some o =>
        by_cases hs : S bv
        · obtain ⟨o', ho'⟩ := hown2 h1 bv y1 hs
          rw [n2] at ho'; cases ho'
        · have := F1 bv o hb hs
          rw [n2] at this; cases this
    have y2 : Y h2 := hY h1 h2 bv y1 hbn (e2.mono fun _ h => h.elim)
    refine o2.sts rfl fun h3 o3 F3 => hk h3 bv o3 hbn (hY h2 h3 bv y2 hbn F3) ?_
    intro q o hq hs
    refine F3 q o (e2 q o (F1 q o hq hs) fun h => h) fun e => ?_
    subst e; rw [hbn] at hq; cases hq
  · exact Obj.new fun bv h1 o1 n1 e1 => late bv h1 o1 n1 e1
  · exact Obj.new fun bv h1 o1 n1 e1 => faultF_spec (late bv h1 o1 n1 e1)
theorem Pair.grow {kind arg prio need : Int} {m : Nat} {out : List Int} {av2 jv2 res : Sl} (P : Pair h0 h b lv av b' lv' jv c pos all js r) (hn : 1 ≤ c.n) (hk : 1 ≤ c.k ∧ c.k ≤ 16) (hok : okReq kind arg prio c.n = true) (hS : Says c.n.toNat c.L kind arg out m) (hm : m ≤ 300)
    (T1 : Tab h1 b lv av2 c pos (all ++ [newE kind arg prio need m])) (F1 : Fr (own b av) h h1) (u1 : ∀ x, av2.on x → av.on x ∨ h x = none)
    (R2 : RT h2 b' lv' jv2 c pos (js ++ [⟨kind, arg, prio, need, 1, 0, 0, mul .i64 m c.k, 0, false, res⟩])) (F2 : Fr (own b' jv) h1 h2) (u2 : ∀ x, jv2.on x → jv.on x ∨ h1 x = none)
    (A2 : Arr h2 res (eI .u64) out) (n2 : ∀ x, res.on x → h1 x = none ∧ ¬ own b' jv2 x) :
    Pair h0 h2 b lv av2 b' lv' jv2 c pos (all ++ [newE kind arg prio need m]) (js ++ [⟨kind, arg, prio, need, 1, 0, 0, mul .i64 m c.k, 0, false, res⟩]) r := by
  have pr : 0 ≤ prio ∧ prio ≤ 7 := by
    unfold okReq at hok
    simp only [Bool.and_eq_true, decide_eq_true_eq] at hok
    omega
  have R1 := P.rt1 F1
  have M1 := P.m.grow T1 F1 u1
  -- blocks of the new lists
  have hx1 : ∀ x, own b av2 x → (∃ o, h1 x = some o) ∧ ¬ own b' jv x := fun x hx => by
    refine ⟨tab_there T1 hx, fun ho => ?_⟩
    rcases hx with rfl | hx
    · exact P.ap1 _ (.inl rfl) ho
    · rcases u1 x hx with h | h
      · exact P.ap1 x (.inr h) ho
      · obtain ⟨o, ho⟩ := rt_there P.t ho
        rw [h] at ho; cases ho
  have hx2 : ∀ x, own b' jv2 x → own b' jv x ∨ h1 x = none := fun x hx => by
    rcases hx with rfl | hx
    · exact .inl (.inl rfl)
    · rcases u2 x hx with h | h
      · exact .inl (.inr h)
      · exact .inr h
  have ap1 : ∀ x, own b av2 x → ¬ own b' jv2 x := fun x hx ho => by
    obtain ⟨⟨o, h5⟩, h6⟩ := hx1 x hx
    rcases hx2 x ho with h | h
    · exact h6 h
    · rw [h5] at h; cases h
  have ap3 : c.L ≠ [] → ∀ x, lv.on x → ¬ own b' jv2 x := fun hl x hx ho => by
    rcases hx2 x ho with h | h
    · exact P.ap3 hl x hx h
    · obtain ⟨o, ho⟩ := T1.al.there hl hx
      rw [h] at ho; cases ho
  have ap2 : c.L ≠ [] → ∀ x, lv'.on x → ¬ own b av2 x := fun hl x hx ho => by
    rcases ho with rfl | ho
    · exact P.ap2 hl _ hx (.inl rfl)
    · rcases u1 x ho with h | h
      · exact P.ap2 hl x hx (.inr h)
      · obtain ⟨o, ho⟩ := P.t.al.there hl hx
        rw [h] at ho; cases ho
  have T2 : Tab h2 b lv av2 c pos (all ++ [newE kind arg prio need m]) := T1.fr F2 (fun hx => (hx1 b (.inl rfl)).2 hx) (fun x hx ho => (hx1 x (.inr hx)).2 ho) P.ap3
  refine ⟨⟨T2, M1.e.of_new F2 fun x hx => ?_, M1.nb, M1.na⟩, R2, P.nb, fun x hx => ?_, P.s.snoc (sim_new hok pr ⟨by have := hS.1; omega, by omega⟩ hk), ap1, ap2, ap3, ?_⟩
  · rcases hx with rfl | hx
    · exact P.nb
    · exact P.na x hx
  · rcases u2 x hx with h | h
    · exact P.na x h
    · exact M1.e.none h
  · intro t ht
    unfold keysJ at ht
    rw [List.map_append, List.mem_append] at ht
    rcases ht with ht | ht
    · obtain ⟨out', m', s1, a1, d1⟩ := P.o t ht
      have hne : out' ≠ [] := fun e => by
        have hol : out'.length = c.n.toNat := by rw [s1.2.1, itF_len]
        rw [e] at hol; simp at hol; omega
      have a2 := a1.fr F1 fun x hx ho => d1 x hx (.inl ho)
      refine ⟨out', m', s1, a2.fr F2 fun x hx ho => d1 x hx (.inr ho), fun x hx ho => ?_⟩
      obtain ⟨o, ho1⟩ := a1.there hne hx
      obtain ⟨o', ho2⟩ := a2.there hne hx
      rcases ho with ho | ho
      · rcases ho with rfl | ho
        · exact d1 _ hx (.inl (.inl rfl))
        · rcases u1 x ho with h | h
          · exact d1 x hx (.inl (.inr h))
          · rw [h] at ho1; cases ho1
      · rcases hx2 x ho with h | h
        · exact d1 x hx (.inr h)
        · rw [h] at ho2; cases ho2
    · simp only [List.map_cons, List.map_nil, List.mem_singleton] at ht
      subst ht
      refine ⟨out, m, hS, A2, fun x hx ho => ?_⟩
      obtain ⟨h5, h6⟩ := n2 x hx
      rcases ho with ho | ho
      · obtain ⟨⟨o, h7⟩, _⟩ := hx1 x ho
        rw [h5] at h7; cases h7
      · exact h6 ho
end
theorem stepF_len (c : Cfg) (pos : Int) (all : List Ent) (pk fault : Int) : (stepF c pos all pk fault).all.length = all.length := by
  have h1 : (tickF c pos all fault).all.length = all.length := by
    have h2 : (admitF c.tot (tick1 all)).length = all.length := by unfold admitF; rw [tickF_len c]; exact foldl_len _ _ _
    unfold tickF
    simp only []
    split
    · exact h2
    · split
      · exact (foldl_len _ _ _).trans h2
      · exact (foldl_len _ _ _).trans h2
  unfold stepF
  split
  · exact h1
  · split
    · rfl
    · split
      · exact upd_len _ _ _
      · rfl
theorem tablePlay_spec {N many pages tot : Int} {gv acts : Sl} {L : List (Int × Int)} {D : List Deed} {h : H} (A : Arr h gv eU2 L) (B : Arr h acts eD D) (N0 : 0 ≤ N) (N1 : N ≤ 255) (m0 : 0 ≤ many) (m1 : many ≤ 255) (t0 : 0 ≤ tot) (t1 : tot ≤ 65535)
    (hb : ∀ x ∈ L, 0 ≤ x.1 ∧ x.1 ≤ 255 ∧ 0 ≤ x.2 ∧ x.2 ≤ 255) {Q : Bool → HProp} (hQ : ∀ h', Ext h h' → Q true h') : law28_TablePlay (N, gv, many, pages, tot, acts) Q h := by
  unfold law28_TablePlay law25_Place_Great law27_Total
  simp only [eqI_eq, ltI_eq, A.len, B.len]
  refine with_b (decide ((200 : Int) < (L.length : Int)) || decide ((250 : Int) < (D.length : Int))) (fun k hk => ite_i (fun h1 => ?_) fun h1 => ?_) (ite_i (fun _ => keeps_spec hQ) fun hs => ?_)
  · rw [h1] at hk; exact hk
  · rw [h1] at hk; exact hk
  rw [Bool.or_eq_false_iff] at hs
  have hL : L.length ≤ 200 := by have := of_decide_eq_false hs.1; omega
  have hD : D.length ≤ 250 := by have := of_decide_eq_false hs.2; omega
  refine made_spec A hL N0 N1 hb fun n u M h1 n0 n1 U e1 hv hM => ?_
  simp only []
  obtain ⟨mn, hmn⟩ : ∃ mn : Int, minI n 16 = mn := ⟨_, rfl⟩
  have hmn' : 1 ≤ mn ∧ mn ≤ 16 ∧ mn ≤ n := by
    rw [minI_eq] at hmn
    split at hmn <;> omega
  rw [hmn]
  refine must_i (by omega) (must_i (by decide) ?_)
  rw [cnv_rem m0 (by omega) (by omega), cnv_rem t0 (by omega) (by decide)]
  have hq1 := Int.emod_nonneg many (show mn ≠ 0 by omega)
  have hq2 := Int.emod_lt_of_pos many (show 0 < mn by omega)
  rw [add_i64 (a := 1) (by omega) (by omega), add_i64 (a := 256) (by omega) (by omega)]
  have hok : newOk n M (1 + many % mn) (256 + tot % 4000) := by
    refine ⟨hv, ?_, by omega, by omega⟩
    unfold cutOk
    simp only [Bool.and_eq_true, decide_eq_true_eq]
    omega
  refine new_spec U (by omega) (fun hx => absurd hok hx) fun _ b lv h2 T2 e2 nb => must_i (by decide) ?_
  refine refnewF_spec (U.ext e2) (by omega) hok fun b' lv' h3 R3 e3 nb' nl' => ?_
  obtain ⟨c, hc⟩ : ∃ c : Cfg, (⟨n, 1 + many % mn, 256 + tot % 4000, M⟩ : Cfg) = c := ⟨_, rfl⟩
  have hcn : c.n = n := by rw [← hc]
  have hck : 1 ≤ c.k ∧ c.k ≤ 16 := by rw [← hc]; show 1 ≤ 1 + many % mn ∧ 1 + many % mn ≤ 16; omega
  have hcL : c.L = M := by rw [← hc]
  have hvc : Valid c.n c.L := by rw [hcn, hcL]; exact hv
  have hLc : c.L.length ≤ 900 := by rw [hcL]; omega
  have hn1 : 1 ≤ c.n := by omega
  rw [hc] at T2 R3
  rw [← hcn]
  refine with_b false (fun k hk => ite_f rfl hk) (ite_f rfl ?_)
  have E12 := e1.trans e2
  have E13 := E12.trans e3
  have P3 : Pair h h3 b lv ⟨none, 0, 0⟩ b' lv' ⟨none, 0, 0⟩ c (-1) [] [] 0 := by
    refine ⟨⟨T2.ext e3, E13, e1.none nb, fun x ⟨a, ha, _⟩ => by cases ha⟩, R3, E12.none nb', fun x ⟨a, ha, _⟩ => (by cases ha), ⟨rfl, fun i e j he => by simp at he⟩, fun x hx ho => ?_, fun hl x hx ho => ?_, fun hl x hx ho => ?_, fun t ht => by simp [keysJ] at ht⟩
    · rcases hx with rfl | ⟨a, ha, _⟩
      · rcases ho with rfl | ⟨a, ha, _⟩
        · have := T2.ob; unfold Obj at this; rw [nb'] at this; cases this
        · cases ha
      · cases ha
    · rcases ho with rfl | ⟨a, ha, _⟩
      · have := T2.ob; unfold Obj at this; rw [nl' _ hx] at this; cases this
      · cases ha
    · rcases ho with rfl | ⟨a, ha, _⟩
      · obtain ⟨o, ho⟩ := T2.al.there hl hx
        rw [nb'] at ho; cases ho
      · cases ha
  refine loop_i (fun (s : Int) h' => ∃ (i : Nat) (av jv : Sl) (pos : Int) (all : List Ent) (js : List Job), s = i ∧ i ≤ D.length ∧ all.length ≤ i ∧ Pair h h' b lv av b' lv' jv c pos all js i) (fun s => ((D.length : Int) - s).toNat)
    ⟨0, _, _, _, _, _, rfl, Nat.zero_le _, Nat.le_refl _, P3⟩ ?_
  rintro s h4 ⟨i, av, jv, pos, all, js, rfl, hi, hal, P⟩ k hk
  have hjl := P.len
  refine ite_i (fun hlt => ?_) fun _ => keeps_spec fun h' e => hQ h' (P.m.e.trans e)
  have hlt : i < D.length := by simpa using hlt
  have B4 := B.ext P.m.e
  have hd : D[i]? = some D[i] := List.getElem?_eq_getElem hlt
  obtain ⟨d, hdd⟩ : ∃ d, D[i] = d := ⟨_, rfl⟩
  rw [hdd] at hd
  refine B4.index (by omega) (by omega) fun a ha => ?_
  have ca : ∀ (j : Nat) (y : Value), d.cells[j]? = some y → h4.cell? (a.add j) = some y := fun j y hy => B4.cell (E := eD) (i := i) (j := j) (x := d) (by simpa [eD] using ha) hd hy
  refine loadI_i (ca 0 _ rfl) (loadI_i (ca 1 _ rfl) (loadI_i (ca 2 _ rfl) (loadI_i (ca 3 _ rfl) (loadI_i (ca 4 _ rfl) (loadI_i (ca 5 _ rfl) (loadI_i (ca 6 _ rfl) (loadI_i (ca 7 _ rfl) (loadI_i (ca 8 _ rfl) (loadI_i (ca 9 _ rfl) (loadB_i (ca 10 _ rfl) ?_))))))))))
  have ei : add .i64 (i : Int) 1 = ((i + 1 : Nat) : Int) := by rw [add_i64 (by omega) (by omega)]; omega
  simp only [ei]
  refine ask_spec hn1 fun a1 a2 a3 a4 => ?_
  refine with_i (fun (_ : Int × Int × Int × Int) h' => h4 = h') (fun k hk => ite_i (fun _ => hk _ _ rfl) fun _ => hk _ _ rfl) ?_
  rintro ⟨q1, q2, q3, q4⟩ _ rfl
  refine must_i (by decide) ?_
  simp only []
  refine with_i (fun (t : Int × Int × Bool) h' => t.1 = t.2.1 ∧ t.2.2 = true ∧ ∃ (av jv : Sl) (pos : Int) (all : List Ent) (js : List Job), all.length ≤ i + 1 ∧ Pair h h' b lv av b' lv' jv c pos all js (i + 1)) (fun kk hkk => ?_) ?_
  · have hLc' : c.L.length ≤ 4096 := by omega
    refine with_i (fun (_ : Bool) h' => h4 = h') (fun k hk => ite_i (fun _ => hk _ _ rfl) fun _ => hk _ _ rfl) ?_
    rintro t _ rfl
    refine ite_i (fun _ => ?_) fun _ => ite_i (fun _ => ?_) fun _ => ite_i (fun _ => ?_) fun _ => ite_i (fun _ => ?_) fun _ => ?_
    · -- asked for
      refine submitF_spec P.m.t hvc hLc' (by omega) (fun hne h5 e5 => ?_) fun heq out m h5 av5 T5 F5 u5 S5 hm5 => ?_
      · have P5 := P.ext e5 (Nat.le_refl i)
        refine rsubmit_spec (out := []) (m := 0) P5.t P5.s hvc hLc (by omega) (fun _ => ?_) (fun h => absurd h hne) (fun h => absurd h hne)
        exact hkk _ _ ⟨rfl, by simp, _, _, _, _, _, by omega, P5.ext (Ext.refl _) (by omega)⟩
      · have hok4 : okReq q1 q2 q3 c.n = true := by
          unfold subErr at heq
          split at heq
          · cases heq
          · rename_i hx; simpa using hx
        refine rsubmit_spec (P.rt1 F5) P.s hvc hLc (by omega) (fun h => absurd heq h) (fun _ => ⟨S5, hm5⟩) fun _ h6 jv6 res R6 F6 u6 A6 n6 => ?_
        have P6 := P.grow hn1 hck hok4 S5 hm5 T5 F5 u5 R6 F6 u6 A6 n6
        have hal6 : (all ++ [newE q1 q2 q3 q4 (m : Int)]).length ≤ i + 1 := by simp; omega
        exact hkk _ _ ⟨rfl, by simp, _, _, _, _, _, hal6, P6.ext (Ext.refl _) (by omega)⟩
    · -- taken back
      refine cancel_spec P.m.t hn1 (by omega) fun h5 T5 F5 => ?_
      refine rcancel_spec (P.rt1 F5) P.s (by omega) fun h6 js6 R6 S6 K6 F6 => ?_
      have hlc : (cancelF all d.n).2.length = all.length := by
        unfold cancelF
        split
        · split <;> simp
        · rfl
      exact hkk _ _ ⟨rfl, rfl, _, _, _, _, _, by omega, P.both T5 F5 R6 F6 (S6.mono (Nat.le_succ i)) K6⟩
    · -- told of
      refine poll_spec P.m.t hn1 (by omega) (rpoll_spec P.t P.s (by omega) hck ?_)
      exact hkk _ _ ⟨rfl, keq (by simp), _, _, _, _, _, by omega, P.ext (Ext.refl _) (by omega)⟩
    · -- what it came to
      have hoks : ∀ e ∈ all, okReq e.kind e.arg e.prio c.n = true := fun e he => by
        obtain ⟨q, hq, rfl⟩ := List.getElem_of_mem he
        obtain ⟨e', j, he', hj, E⟩ := P.s.get (show q < js.length by omega)
        rw [List.getElem?_eq_getElem hq] at he'
        cases he'
        exact E.ok
      refine resultF_spec P.m.t hvc hLc' (by omega) hoks (fun hno => ?_) fun e he x out h5 m A5 s5 z5 e5 => ?_
      · refine rtold_spec P.t P.s P.o hn1 hvc.n.2 (by omega) (fun _ => ?_) (fun e he => by rw [hno] at he; cases he)
        have nil : Arr h4 (Sl.mk none 0 0) (eI .u64) [] := (Vec.nil0).arr
        exact numbers_spec nil nil (by simp) rfl (hkk _ _ ⟨rfl, rfl, _, _, _, _, _, by omega, P.ext (Ext.refl _) (by omega)⟩)
      · have P5 := P.ext e5 (Nat.le_refl i)
        refine rtold_spec P5.t P5.s P5.o hn1 hvc.n.2 (by omega) (fun hno => by rw [hno] at he; cases he) fun e2 he2 x2 out2 h6 m2 A6 s6 z6 e6 => ?_
        rw [he] at he2; cases he2
        have hout : out = out2 := by
          by_cases h3 : e.state = 3
          · exact ((s5 h3).uniq (s6 h3)).1
          · rw [z5 h3, z6 h3]
        have hol : out.length ≤ 1000000 := by
          by_cases h3 : e.state = 3
          · rw [(s5 h3).2.1, itF_len]; have := hvc.n.2; omega
          · rw [z5 h3]; simp
        exact numbers_spec (A5.ext e6) A6 hol hout (hkk _ _ ⟨rfl, rfl, _, _, _, _, _, by omega, P5.ext e6 (by omega)⟩)
    · -- a step
      have hk0 : c.k ≠ 0 := by omega
      have hsl : (stepF c pos all d.n (faultF d.n)).all.length = all.length := stepF_len _ _ _ _ _
      refine with_i (fun (t : Option Addr × Int) h' => ∃ bv, t = (some (at0 bv), (stepF c pos all d.n (faultF d.n)).ev.2.2.2.2) ∧ Obj h' bv [.int .i64 (stepF c pos all d.n (faultF d.n)).ev.1, .int .i64 (stepF c pos all d.n (faultF d.n)).ev.2.1, .int .i64 (stepF c pos all d.n (faultF d.n)).ev.2.2.1, .int .i64 (stepF c pos all d.n (faultF d.n)).ev.2.2.2.1] ∧ h4 bv = none ∧
        Tab h' b lv av c (stepF c pos all d.n (faultF d.n)).pos (stepF c pos all d.n (faultF d.n)).all ∧ Fr (own b av) h4 h') (fun k5 hk5 => ?_) ?_
      · refine ev_i (S := own b av) (Y := fun h' => Tab h' b lv av c (stepF c pos all d.n (faultF d.n)).pos (stepF c pos all d.n (faultF d.n)).all) (ev := (stepF c pos all d.n (faultF d.n)).ev) (step := fun r Q => table_Table_Step (some (at0 b), d.n, r) Q) (X := fun _ => True)
          (fun x hx => tab_there P.m.t hx) (fun h5 e5 Q hQ' => step_spec (P.m.t.ext e5) hn1 hk0 (by omega) fun h6 T6 F6 => hQ' h6 T6 F6) (fun h5 h6 bv T5 nbv F5 => T5.frb (P.m.t.apart nbv) F5) (fun h5 x T5 hx => tab_there T5 hx) fun h5 bv o5 n5 T5 F5 => ?_
        exact hk5 _ _ ⟨bv, rfl, o5, n5, T5, F5⟩
      · rintro _ h5 ⟨bv, rfl, o5, n5, T5, F5⟩
        have R5 := P.rt1 F5
        refine with_i (fun (t : Option Addr × Int) h' => ∃ bw, t = (some (at0 bw), (stepF c pos all d.n (faultF d.n)).ev.2.2.2.2) ∧ Obj h' bw [.int .i64 (stepF c pos all d.n (faultF d.n)).ev.1, .int .i64 (stepF c pos all d.n (faultF d.n)).ev.2.1, .int .i64 (stepF c pos all d.n (faultF d.n)).ev.2.2.1, .int .i64 (stepF c pos all d.n (faultF d.n)).ev.2.2.2.1] ∧ h5 bw = none ∧
          (∃ js', RT h' b' lv' jv c (stepF c pos all d.n (faultF d.n)).pos js' ∧ SimL c (i + 1) (stepF c pos all d.n (faultF d.n)).all js' ∧ keysJ js' = keysJ js) ∧ Fr (own b' jv) h5 h') (fun k5 hk5 => ?_) ?_
        · refine ev_i (S := own b' jv) (Y := fun h' => ∃ js', RT h' b' lv' jv c (stepF c pos all d.n (faultF d.n)).pos js' ∧ SimL c (i + 1) (stepF c pos all d.n (faultF d.n)).all js' ∧ keysJ js' = keysJ js) (ev := (stepF c pos all d.n (faultF d.n)).ev) (step := fun r Q => ref28_Table_Step (some (at0 b'), d.n, r) Q) (X := fun _ => True)
            (fun x hx => rt_there R5 hx) (fun h6 e6 Q hQ' => rstep_spec (R5.ext e6) P.s (by omega) (by omega) hck fun h7 js7 R7 S7 K7 F7 => hQ' h7 ⟨js7, R7, S7, K7⟩ F7) (fun h6 h7 bw ⟨js6, R6, S6, K6⟩ nbw F6 => ?_) (fun h6 x ⟨js6, R6, _⟩ hx => rt_there R6 hx) fun h6 bw o6 n6 y6 F6 => ?_
          · have ap := R5.apart nbw
            exact ⟨js6, R6.fr F6 (fun e => ap.1 e.symm) (fun x hx e => ap.2.1 (e ▸ hx)) (fun hl x hx e => ap.2.2 hl (e ▸ hx)), S6, K6⟩
          · exact hk5 _ _ ⟨bw, rfl, o6, n6, y6, F6⟩
        · rintro _ h6 ⟨bw, rfl, o6, n6, ⟨js6, R6, S6, K6⟩, F6⟩
          have o5' : Obj h6 bv _ := o5.fr F6 fun ho => by
            obtain ⟨o, ho⟩ := rt_there P.t ho
            rw [n5] at ho; cases ho
          have l1 : ∀ (j : Nat) (v : Value), [Value.int .i64 (stepF c pos all d.n (faultF d.n)).ev.1, .int .i64 (stepF c pos all d.n (faultF d.n)).ev.2.1, .int .i64 (stepF c pos all d.n (faultF d.n)).ev.2.2.1, .int .i64 (stepF c pos all d.n (faultF d.n)).ev.2.2.2.1][j]? = some v → h6.cell? ((at0 bv).add j) = some v := fun j v hv => o5'.ld hv
          have l2 : ∀ (j : Nat) (v : Value), [Value.int .i64 (stepF c pos all d.n (faultF d.n)).ev.1, .int .i64 (stepF c pos all d.n (faultF d.n)).ev.2.1, .int .i64 (stepF c pos all d.n (faultF d.n)).ev.2.2.1, .int .i64 (stepF c pos all d.n (faultF d.n)).ev.2.2.2.1][j]? = some v → h6.cell? ((at0 bw).add j) = some v := fun j v hv => o6.ld hv
          refine deref_i (loadI_i (l1 0 _ rfl) (loadI_i (l1 1 _ rfl) (loadI_i (l1 2 _ rfl) (loadI_i (l1 3 _ rfl) (deref_i (loadI_i (l2 0 _ rfl) (loadI_i (l2 1 _ rfl) (loadI_i (l2 2 _ rfl) (loadI_i (l2 3 _ rfl) ?_)))))))))
          exact hkk _ _ ⟨rfl, keq (by simp), _, _, _, _, _, by omega, P.both T5 F5 R6 F6 S6 K6⟩
  · rintro ⟨x1, x2, x3⟩ h5 ⟨hx1, hx2, av5, jv5, pos5, all5, js5, hal5, P5⟩
    simp only at hx1 hx2
    subst hx1; subst hx2
    simp only at *
    have hjl5 := P5.len
    refine with_i (fun (t : Bool) h' => t = false ∧ ∃ (av jv : Sl) (pos : Int) (all : List Ent) (js : List Job), all.length ≤ i + 1 ∧ Pair h h' b lv av b' lv' jv c pos all js (i + 1)) (fun kk hkk => ?_) ?_
    · refine ite_f (by simp) (ite_f rfl ?_)
      refine waiting_spec P5.m.t hn1 (by omega) fun w1 h6 V6 N6 e6 => ?_
      have P6 := P5.ext e6 (Nat.le_refl _)
      refine rwait_spec P6.t P6.s (by omega) fun w2 h7 V7 N7 e7 => ?_
      have P7 := P6.ext e7 (Nat.le_refl _)
      refine ints_spec (V6.ext e7).arr V7.arr (Nat.le_trans (ids_len _ _) (by omega)) (ite_f (by simp) ?_)
      refine used_spec P7.m.t hn1 (by omega) fun h8 e8 => ?_
      have P8 := P7.ext e8 (Nat.le_refl _)
      refine rused_spec P8.t P8.s (by omega) ?_
      exact hkk _ _ ⟨by simp, _, _, _, _, _, hal5, P8⟩
    · rintro t h6 ⟨rfl, av6, jv6, pos6, all6, js6, hal6, P6⟩
      refine ite_f rfl ?_
      exact hk _ _ ⟨i + 1, av6, jv6, pos6, all6, js6, rfl, by omega, hal6, P6⟩ (by simp; omega)
end Go.Cz.S
