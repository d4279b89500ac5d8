/- Part of the proof of a law of 28: an engine that runs a function over an abstract heap, and what the functions compute; own work. -/
import Derived.Test.YtpmojjeehmadpaaP28i
import Derived.Test.YtpmojjeehmadpaaO28
set_option linter.unusedVariables false
set_option linter.unusedSimpArgs false
set_option linter.unusedSectionVars false
namespace Go.Cz
set_option linter.unusedVariables false
theorem Obj.sts {h : H} {b : Nat} {cs vs : List Value} {K : HProp} (o : Obj h b cs) (hl : vs.length = cs.length) (hK : ∀ h', Obj h' b vs → Fr (fun k => k = b) h h' → K h') : storesW (Addr.mk b 0 none) vs K h := by
  unfold storesW
  unfold Obj at o
  simp only [o]
  refine ⟨trivial, by omega, hK _ ?_ Fr.set⟩
  have : cs.take 0 ++ vs ++ cs.drop (0 + vs.length) = vs := by simp [hl]
  rw [this]
  exact set_same ..
end Go.Cz
namespace Go.Cz.S
set_option maxRecDepth 100000
set_option maxHeartbeats 1000000
set_option linter.unusedSimpArgs false
set_option linter.unusedVariables false
section
variable {h : H} {b : Nat} {lv av : Sl} {c : Cfg} {pos : Int} {all : List Ent}
def getE (all : List Ent) (id : Int) : Option Ent := if id < 1 then none else all[(id - 1).toNat]?
theorem getE_no {id : Int} (h : id < 1 ∨ (all.length : Int) < id) : getE all id = none := by
  unfold getE
  split
  · rfl
  · exact List.getElem?_eq_none (by omega)
theorem getE_yes {i : Nat} {e : Ent} (he : all[i]? = some e) : getE all ((i + 1 : Nat) : Int) = some e := by
  unfold getE
  rw [if_neg (by omega), show (((i + 1 : Nat) : Int) - 1).toNat = i by omega, he]
def pollF (all : List Ent) (id : Int) : Int × Int × Int × Int := match getE all id with | some e => (e.state, e.round, e.code, 0) | none => (0, 0, 0, 4)
theorem poll_spec (T : Tab h b lv av c pos all) (hn : 1 ≤ c.n) (hl : all.length ≤ 1000000) {id : Int} {Q : Int × Int × Int × Int → HProp} (hQ : Q (pollF all id) h) : table_Table_Poll (some (at0 b), id) Q h := by
  unfold table_Table_Poll
  simp only [eqI_eq]
  unfold pollF at hQ
  refine find_spec T hn hl (fun hx => ?_) fun i e a hid hi he ha => ?_
  · rw [getE_no hx] at hQ
    exact ite_t rfl hQ
  · subst hid
    rw [getE_yes he] at hQ
    exact ite_f rfl (deref_i (loadI_i (T.cell (j := 4) ha he rfl) (deref_i (loadI_i (T.cell (j := 7) ha he rfl) (deref_i (loadI_i (T.cell (j := 5) ha he rfl) hQ))))))
def cancelF (all : List Ent) (id : Int) : Int × List Ent := match getE all id with
  | some e => if e.state ≠ 1 ∧ e.state ≠ 2 then (270, all) else (0, all.set (id - 1).toNat (endE 4 0 e))
  | none => (4, all)
theorem cancel_spec (T : Tab h b lv av c pos all) (hn : 1 ≤ c.n) (hl : all.length ≤ 1000000) {id : Int} {Q : Int → HProp}
    (hQ : ∀ h', Tab h' b lv av c pos (cancelF all id).2 → Fr (own b av) h h' → Q (cancelF all id).1 h') : table_Table_Cancel (some (at0 b), id) Q h := by
  unfold table_Table_Cancel
  simp only [eqI_eq]
  unfold cancelF at hQ
  refine find_spec T hn hl (fun hx => ?_) fun i e a hid hi he ha => ?_
  · rw [getE_no hx] at hQ
    exact ite_t rfl (hQ h T (Fr.refl _ _))
  · subst hid
    rw [getE_yes he] at hQ
    simp only [] at hQ
    refine ite_f rfl (with_u (deref_i (loadI_i (T.cell (j := 4) ha he rfl) (ite_i (fun h1 => ?_) fun h1 => ?_))))
    · refine deref_i (loadI_i (T.cell (j := 4) ha he rfl) (ite_i (fun h2 => ?_) fun h2 => ?_))
      · rw [if_pos ⟨by simpa using h1, by simpa using h2⟩] at hQ
        exact hQ h T (Fr.refl _ _)
      · rw [if_neg (by simp at h2; simp [h2])] at hQ
        refine ends_spec T ha he fun h' T' F' => ?_
        rw [show (((i + 1 : Nat) : Int) - 1).toNat = i by omega] at hQ
        exact hQ h' T' F'
    · rw [if_neg (by simp at h1; simp [h1])] at hQ
      refine ite_f rfl (ends_spec T ha he fun h' T' F' => ?_)
      rw [show (((i + 1 : Nat) : Int) - 1).toNat = i by omega] at hQ
      exact hQ h' T' F'
theorem waiting_spec (T : Tab h b lv av c pos all) (hn : 1 ≤ c.n) (hl : all.length ≤ 1000000) {Q : Sl → HProp}
    (hQ : ∀ r h', Vec h' r (eI .i64) (ids isX all) → New h r → Ext h h' → Q r h') : table_Table_Waiting (some (at0 b)) Q h := by
  unfold table_Table_Waiting
  exact none_spec T hn (ite_f rfl (those_spec T hl does_expected hQ))
def serveE (k fault : Int) (e : Ent) : Ent :=
  if fault ≠ 0 then endE 5 fault e
  else if add .i64 e.had 1 < k then { e with exp := false, had := add .i64 e.had 1 }
  else if add .i64 e.round 1 = e.takes then endE 3 0 { e with had := 0 }
  else { e with exp := false, had := 0, round := add .i64 e.round 1 }
theorem serve_spec (T : Tab h b lv av c pos all) {i : Nat} {a : Addr} {e : Ent} (hs : Slot av i 13 a) (he : all[i]? = some e) {k fault : Int} {Q : Unit → HProp}
    (hQ : ∀ h', Tab h' b lv av c pos (all.set i (serveE k fault e)) → Fr (own b av) h h' → Q () h') : table_entry_serve (some a, k, fault) Q h := by
  have hlt := (List.getElem?_eq_some_iff.1 he).1
  have up : ∀ (l : List Ent) (x : Ent), l.length = all.length → (l.set i x)[i]? = some x := fun l x hl => by simp [hl, hlt]
  unfold table_entry_serve
  simp only [eqI_eq, ltI_eq]
  unfold serveE at hQ
  refine deref_i (T.st (e' := { e with exp := false }) hs he (by decide) rfl fun h1 T1 F1 => ?_)
  refine ite_i (fun hf => ?_) fun hf => ?_
  · rw [if_pos (by simpa using hf)] at hQ
    refine ends_spec T1 hs (up _ _ rfl) fun h2 T2 F2 => hQ h2 ?_ (F1.trans F2)
    simpa [endE] using T2
  · rw [if_neg (by simpa using hf)] at hQ
    refine deref_i (loadI_i (T1.cell (j := 8) hs (up _ _ rfl) rfl) (deref_i (T1.st (e' := { e with exp := false, had := add .i64 e.had 1 }) hs (up _ _ rfl) (by decide) rfl fun h2 T2 F2 => ?_)))
    rw [List.set_set] at T2
    refine deref_i (loadI_i (T2.cell (j := 8) hs (up _ _ rfl) rfl) ?_)
    refine ite_i (fun hk => ?_) fun hk => ?_
    · rw [if_pos (by simpa using hk)] at hQ
      exact hQ h2 T2 (F1.trans F2)
    · rw [if_neg (by simpa using hk)] at hQ
      refine deref_i (T2.st (e' := { e with exp := false, had := 0 }) hs (up _ _ rfl) (by decide) rfl fun h3 T3 F3 => ?_)
      rw [List.set_set] at T3
      refine deref_i (loadI_i (T3.cell (j := 7) hs (up _ _ rfl) rfl) (deref_i (loadI_i (T3.cell (j := 6) hs (up _ _ rfl) rfl) ?_)))
      refine ite_i (fun hr => ?_) fun hr => ?_
      · rw [if_pos (by simpa using hr)] at hQ
        refine ends_spec T3 hs (up _ _ rfl) fun h4 T4 F4 => hQ h4 ?_ (((F1.trans F2).trans F3).trans F4)
        simpa [endE] using T4
      · rw [if_neg (by simpa using hr)] at hQ
        refine deref_i (loadI_i (T3.cell (j := 7) hs (up _ _ rfl) rfl) (deref_i (T3.st (e' := { e with exp := false, had := 0, round := add .i64 e.round 1 }) hs (up _ _ rfl) (by decide) rfl fun h4 T4 F4 => ?_)))
        rw [List.set_set] at T4
        exact hQ h4 T4 (((F1.trans F2).trans F3).trans F4)

/-! ## whose turn it is -/
def keyE (e : Ent) : Int := add .i64 e.prio (quo .i64 e.ticks 4)
def aheadC (all : List Ent) (x y : Int) : Int := match getE all x, getE all y with
  | some ex, some ey => if cf1 (keyE ey) (keyE ex) ≠ 0 then cf1 (keyE ey) (keyE ex) else cf1 x y
  | _, _ => 0
theorem ahead_spec (T : Tab h b lv av c pos all) (hl : all.length ≤ 1000000) {i j : Nat} {ex ey : Ent} (hx : all[i]? = some ex) (hy : all[j]? = some ey) {Q : Int → HProp}
    (hQ : ∀ h', Ext h h' → Q (aheadC all ((i + 1 : Nat) : Int) ((j + 1 : Nat) : Int)) h') : table_Table_ahead (some (at0 b), ((i + 1 : Nat) : Int), ((j + 1 : Nat) : Int)) Q h := by
  have hi := (List.getElem?_eq_some_iff.1 hx).1
  have hj := (List.getElem?_eq_some_iff.1 hy).1
  unfold aheadC at hQ
  rw [getE_yes hx, getE_yes hy] at hQ
  simp only [] at hQ
  unfold table_Table_ahead
  simp only []
  refine with_i (fun (p : Option Addr × Option Addr) h' => ∃ b1 b2, p = (some (at0 b1), some (at0 b2)) ∧ Obj h' b1 ex.cells ∧ Obj h' b2 ey.cells ∧ Ext h h') (fun k hk => ?_) ?_
  · refine deref_i (loadL_i (v := av) (T.ob.ld (j := 5) rfl) ?_)
    rw [show sub .i64 ((i + 1 : Nat) : Int) 1 = (i : Int) by rw [sub_i64 (by omega) (by omega)]; omega]
    refine T.index hi fun a1 ha1 => ?_
    have c1 := fun (j : Nat) (y : Value) (hy : ex.cells[j]? = some y) => T.cell (j := j) ha1 hx hy
    refine loadI_i (c1 0 _ rfl) (loadI_i (c1 1 _ rfl) (loadI_i (c1 2 _ rfl) (loadI_i (c1 3 _ rfl) (loadI_i (c1 4 _ rfl) (loadI_i (c1 5 _ rfl) (loadI_i (c1 6 _ rfl) (loadI_i (c1 7 _ rfl) (loadI_i (c1 8 _ rfl) (loadI_i (c1 9 _ rfl) (loadB_i (c1 10 _ rfl) (loadB_i (c1 11 _ rfl) (loadL_i (v := ⟨none, 0, 0⟩) (c1 12 _ rfl) ?_))))))))))))
    refine deref_i (loadL_i (v := av) (T.ob.ld (j := 5) rfl) ?_)
    rw [show sub .i64 ((j + 1 : Nat) : Int) 1 = (j : Int) by rw [sub_i64 (by omega) (by omega)]; omega]
    refine T.index hj fun a2 ha2 => ?_
    have c2 := fun (k : Nat) (y : Value) (hyy : ey.cells[k]? = some y) => T.cell (j := k) ha2 hy hyy
    refine loadI_i (c2 0 _ rfl) (loadI_i (c2 1 _ rfl) (loadI_i (c2 2 _ rfl) (loadI_i (c2 3 _ rfl) (loadI_i (c2 4 _ rfl) (loadI_i (c2 5 _ rfl) (loadI_i (c2 6 _ rfl) (loadI_i (c2 7 _ rfl) (loadI_i (c2 8 _ rfl) (loadI_i (c2 9 _ rfl) (loadB_i (c2 10 _ rfl) (loadB_i (c2 11 _ rfl) (loadL_i (v := ⟨none, 0, 0⟩) (c2 12 _ rfl) ?_))))))))))))
    have kT : ∀ {h' : H}, Tab h' b lv av c pos all → ∀ {K : HProp}, K h' → keepsW ((at0 b).add 5) [.slice av.a av.len av.cap] K h' := fun {_} T' {_} hK => keeps1 (T'.ob.ld (j := 5) rfl) hK
    have kx : ∀ {h' : H}, Tab h' b lv av c pos all → ∀ {K : HProp}, K h' → keepsW a1 ex.cells K h' := fun {_} T' {_} hK => keeps_i (fun j u hu => T'.cell ha1 hx hu) hK
    have ky : ∀ {h' : H}, Tab h' b lv av c pos all → ∀ {K : HProp}, K h' → keepsW a2 ey.cells K h' := fun {_} T' {_} hK => keeps_i (fun j u hu => T'.cell ha2 hy hu) hK
    refine both_i (Obj.new fun b1 h1 o1 n1 e1 => ?_) (Obj.new fun b1 h1 o1 n1 e1 => ?_)
    · have T1 := T.ext e1
      refine kT T1 (kx T1 (kT T1 (ky T1 (Obj.new fun b2 h2 o2 n2 e2 => ?_))))
      have T2 := T1.ext e2
      refine kT T2 (kx T2 (kT T2 (ky T2 ?_)))
      refine Obj.sts (vs := ex.cells) (o1.ext e2) rfl fun h3 o3 F3 => ?_
      have ne : b2 ≠ b1 := (fresh_ne o1 n2).symm
      have T3 := T2.frb (T.apart n1) F3
      refine kT T3 (ky T3 (Obj.sts (vs := ey.cells) (o2.fr F3 ne) rfl fun h4 o4 F4 => hk _ _ ⟨b1, b2, rfl, o3.fr F4 ne.symm, o4, ?_⟩))
      exact ((e1.trans e2).of_new F3 (fun k hk => by rw [hk]; exact n1)).of_new F4 (fun k hk => by rw [hk]; exact e1.none n2)
    · have T1 := T.ext e1
      refine kT T1 (kx T1 (kT T1 (ky T1 (Obj.new fun b2 h2 o2 n2 e2 => ?_))))
      have T2 := T1.ext e2
      refine kT T2 (kx T2 (kT T2 (ky T2 ?_)))
      refine Obj.sts (vs := ex.cells) o2 rfl fun h3 o3 F3 => ?_
      have ne : b1 ≠ b2 := fresh_ne o1 n2
      have T3 := T2.frb (T1.apart n2) F3
      refine kT T3 (ky T3 (Obj.sts (vs := ey.cells) ((o1.ext e2).fr F3 ne) rfl fun h4 o4 F4 => hk _ _ ⟨b2, b1, rfl, o3.fr F4 ne.symm, o4, ?_⟩))
      exact ((e1.trans e2).of_new F3 (fun k hk => by rw [hk]; exact e1.none n2)).of_new F4 (fun k hk => by rw [hk]; exact n1)
  · rintro p h' ⟨b1, b2, rfl, o1, o2, E⟩
    simp only [add0]
    refine deref_i (loadI_i (o2.ld (j := 2) rfl) (deref_i (loadI_i (o2.ld (j := 9) rfl) (must_i (by decide) (deref_i (loadI_i (o1.ld (j := 2) rfl) (deref_i (loadI_i (o1.ld (j := 9) rfl) (must_i (by decide) ?_)))))))))
    refine cmp_spec (cmp_spec (Obj.new fun b3 h3 o3 n3 e3 => or_spec o3 ?_))
    exact hQ h3 (E.trans e3)
end
end Go.Cz.S
