/- Part of the proof of a law of 28: an engine that runs a function over an abstract heap, and what the functions compute; own work. -/
import Derived.Test.YtpmojjeehmadpaaP28h
set_option linter.unusedVariables false
set_option linter.unusedSimpArgs false
set_option linter.unusedSectionVars false
namespace Go.Cz
set_option maxRecDepth 100000
set_option maxHeartbeats 1000000
set_option linter.unusedSimpArgs false
set_option linter.unusedVariables false

/-! ## a table's jobs -/
structure Ent where
  kind : Int
  arg : Int
  prio : Int
  need : Int
  state : Int
  code : Int
  takes : Int
  round : Int
  had : Int
  ticks : Int
  att : Bool
  exp : Bool
def Ent.cells (e : Ent) : List Value := [.int .i64 e.kind, .int .i64 e.arg, .int .i64 e.prio, .int .i64 e.need, .int .i64 e.state, .int .i64 e.code, .int .i64 e.takes, .int .i64 e.round, .int .i64 e.had, .int .i64 e.ticks, .bool e.att, .bool e.exp, .slice none 0 0]
def eE : Enc Ent := ⟨13, Ent.cells, fun _ => rfl, fun e v hv => by
  simp only [Ent.cells, List.mem_cons, List.not_mem_nil, or_false] at hv
  rcases hv with rfl | rfl | rfl | rfl | rfl | rfl | rfl | rfl | rfl | rfl | rfl | rfl | rfl <;> trivial, by decide⟩
structure Cfg where
  n : Int
  k : Int
  tot : Int
  L : List (Int × Int)
theorem Arr.frn {α : Type} {S : Nat → Prop} {h h' : H} {v : Sl} {E : Enc α} {l : List α} (A : Arr h v E l) (f : Fr S h h') (hs : l ≠ [] → ∀ b, v.on b → ¬ S b) : Arr h' v E l := by
  refine ⟨A.len, A.le, A.nil, fun a ha hl => ?_⟩
  obtain ⟨h1, c, wr, h2, h3⟩ := A.blk a ha hl
  exact ⟨h1, c, wr, f _ _ h2 (hs hl _ ⟨a, ha, rfl⟩), h3⟩
theorem Arr.there {α : Type} {h : H} {v : Sl} {E : Enc α} {l : List α} (A : Arr h v E l) (hl : l ≠ []) {b : Nat} (hb : v.on b) : ∃ o, h b = some o := by
  obtain ⟨a, ha, rfl⟩ := hb
  obtain ⟨_, c, wr, h2, _⟩ := A.blk a ha hl
  exact ⟨_, h2⟩
structure Tab (h : H) (b : Nat) (lv av : Sl) (c : Cfg) (pos : Int) (all : List Ent) : Prop where
  ob : Obj h b [.int .i64 c.n, .int .i64 c.k, .int .i64 c.tot, .slice lv.a lv.len lv.cap, .int .i64 pos, .slice av.a av.len av.cap]
  al : Arr h lv eP c.L
  va : Vec h av eE all
  lb : c.L ≠ [] → ∀ x, lv.on x → x ≠ b ∧ ¬ av.on x
  ab : ¬ av.on b
/-- what it may write -/
def own (b : Nat) (av : Sl) : Nat → Prop := fun x => x = b ∨ av.on x
section
variable {h h' : H} {b : Nat} {lv av : Sl} {c : Cfg} {pos : Int} {all : List Ent}
theorem Tab.ext (T : Tab h b lv av c pos all) (e : Ext h h') : Tab h' b lv av c pos all := ⟨T.ob.ext e, T.al.ext e, T.va.ext e, T.lb, T.ab⟩
theorem Tab.fr {S : Nat → Prop} (T : Tab h b lv av c pos all) (f : Fr S h h') (h1 : ¬ S b) (h2 : ∀ x, av.on x → ¬ S x) (h3 : c.L ≠ [] → ∀ x, lv.on x → ¬ S x) : Tab h' b lv av c pos all := ⟨T.ob.fr f h1, T.al.frn f h3, T.va.fr f h2, T.lb, T.ab⟩
def Apart (b : Nat) (lv av : Sl) (c : Cfg) (x : Nat) : Prop := x ≠ b ∧ ¬ av.on x ∧ (c.L ≠ [] → ¬ lv.on x)
theorem Tab.apart (T : Tab h b lv av c pos all) {x : Nat} (hx : h x = none) : Apart b lv av c x :=
  ⟨fun e => (by subst e; have := T.ob; unfold Obj at this; rw [hx] at this; cases this), fun ho => (by obtain ⟨o, ho⟩ := T.va.there ho; rw [hx] at ho; cases ho), fun hl ho => by obtain ⟨o, ho⟩ := T.al.there hl ho; rw [hx] at ho; cases ho⟩
theorem Tab.frb (T : Tab h b lv av c pos all) {x : Nat} (hx : Apart b lv av c x) (f : Fr (fun k => k = x) h h') : Tab h' b lv av c pos all :=
  T.fr f (fun e => hx.1 e.symm) (fun y hy e => hx.2.1 (e ▸ hy)) (fun hl y hy e => hx.2.2 hl (e ▸ hy))
theorem Tab.cell (T : Tab h b lv av c pos all) {i j : Nat} {a : Addr} {e : Ent} {y : Value} (hs : Slot av i 13 a) (hi : all[i]? = some e) (hy : e.cells[j]? = some y) : h.cell? (a.add j) = some y :=
  T.va.arr.cell (E := eE) (i := i) (j := j) hs hi hy
theorem Tab.st (T : Tab h b lv av c pos all) {i j : Nat} {a : Addr} {e e' : Ent} {y : Value} (hs : Slot av i 13 a) (hi : all[i]? = some e) (hj : j < 13) (he : e'.cells = e.cells.set j y) {K : HProp}
    (hK : ∀ h', Tab h' b lv av c pos (all.set i e') → Fr (own b av) h h' → K h') : storeW (a.add j) y K h := by
  refine T.va.store (E := eE) (i := i) (j := j) (x := e) (x' := e') hs hi hj he fun h1 V1 F1 => hK h1 ?_ (F1.mono fun k hk => .inr hk)
  exact ⟨T.ob.fr F1 T.ab, T.al.frn F1 (fun hl x hx => (T.lb hl x hx).2), V1, T.lb, T.ab⟩
theorem Tab.all_ld (T : Tab h b lv av c pos all) {K : Sl → HProp} (hK : K av h) : derefW (some (at0 b)) (fun a => loadL (a.add 5) K) h := deref_i (loadL_i (T.ob.ld (j := 5) rfl) hK)
theorem Tab.index (T : Tab h b lv av c pos all) {i : Nat} (hi : i < all.length) {K : Addr → HProp} (hK : ∀ a, Slot av i 13 a → K a h) : indexW (i : Int) av 13 K h :=
  T.va.arr.index (by omega) (by omega) fun a ha => hK a (by simpa [eE] using ha)
end
/-- the numbers of those that are so, of the first i -/
def hit (p : Ent → Bool) (all : List Ent) (j : Nat) : Bool := match all[j]? with | some e => p e | none => false
def idsT (p : Ent → Bool) (all : List Ent) (i : Nat) : List Int := ((List.range i).filter (hit p all)).map fun (j : Nat) => ((j : Int) + 1)
def ids (p : Ent → Bool) (all : List Ent) : List Int := idsT p all all.length
theorem idsT_succ (p : Ent → Bool) (all : List Ent) (i : Nat) : idsT p all (i + 1) = idsT p all i ++ (if hit p all i then [(i : Int) + 1] else []) := by
  unfold idsT
  rw [List.range_succ, List.filter_append, List.map_append]
  congr 1
  by_cases h : hit p all i <;> simp [h]
theorem idsT_len (p : Ent → Bool) (all : List Ent) (i : Nat) : (idsT p all i).length ≤ i := by
  unfold idsT
  rw [List.length_map]
  exact Nat.le_trans (List.length_filter_le _ _) (by simp)
theorem ids_len (p : Ent → Bool) (all : List Ent) : (ids p all).length ≤ all.length := idsT_len p all _
theorem mem_ids {p : Ent → Bool} {all : List Ent} {x : Int} (h : x ∈ ids p all) : ∃ j e, x = ((j + 1 : Nat) : Int) ∧ j < all.length ∧ all[j]? = some e ∧ p e = true := by
  unfold ids idsT at h
  obtain ⟨j, hj, rfl⟩ := List.mem_map.1 h
  obtain ⟨h1, h2⟩ := List.mem_filter.1 hj
  unfold hit at h2
  split at h2
  · rename_i e he
    exact ⟨j, e, by simp, (List.getElem?_eq_some_iff.1 he).1, he, h2⟩
  · cases h2
theorem ids_mem {p : Ent → Bool} {all : List Ent} {j : Nat} {e : Ent} (he : all[j]? = some e) (hp : p e = true) : ((j + 1 : Nat) : Int) ∈ ids p all := by
  unfold ids idsT
  refine List.mem_map.2 ⟨j, List.mem_filter.2 ⟨by simp; exact (List.getElem?_eq_some_iff.1 he).1, ?_⟩, by simp⟩
  unfold hit
  rw [he]; exact hp
/-- the entry of a number is turned -/
def upd (f : Ent → Ent) (all : List Ent) (id : Int) : List Ent := match all[(id - 1).toNat]? with | some e => all.set (id - 1).toNat (f e) | none => all
theorem upd_len (f : Ent → Ent) (all : List Ent) (id : Int) : (upd f all id).length = all.length := by unfold upd; split <;> simp
theorem foldl_len (f : Ent → Ent) : ∀ (l : List Int) (all : List Ent), (l.foldl (upd f) all).length = all.length
  | [], all => rfl
  | x :: r, all => by rw [List.foldl_cons, foldl_len f r, upd_len]
theorem upd_at (f : Ent → Ent) {all : List Ent} {j : Nat} {e : Ent} (he : all[j]? = some e) : upd f all ((j + 1 : Nat) : Int) = all.set j (f e) := by
  unfold upd
  rw [show (((j + 1 : Nat) : Int) - 1).toNat = j by omega, he]
theorem foldl_take {α β : Type} (f : β → α → β) (a : β) (l : List α) (j : Nat) (hj : j < l.length) : (l.take (j + 1)).foldl f a = f ((l.take j).foldl f a) l[j] := by
  rw [List.take_add_one, List.getElem?_eq_getElem hj, List.foldl_append]; rfl
end Go.Cz
namespace Go.Cz.S
set_option maxRecDepth 100000
set_option maxHeartbeats 1000000
set_option linter.unusedSimpArgs false
set_option linter.unusedVariables false
section
variable {h : H} {b : Nat} {lv av : Sl} {c : Cfg} {pos : Int} {all : List Ent}
theorem none_spec (T : Tab h b lv av c pos all) (hn : 1 ≤ c.n) {Q : Bool → HProp} (hQ : Q false h) : table_Table_none (some (at0 b)) Q h := by
  unfold table_Table_none
  simp only [eqI_eq]
  refine with_u (ite_f (isNilP_some _) (deref_i (loadI_i (T.ob.ld (j := 0) rfl) ?_)))
  rw [decide_eq_false (by omega)]; exact hQ
theorem none_nil {Q : Bool → HProp} (hQ : Q true h) : table_Table_none none Q h := by
  unfold table_Table_none
  exact with_u (ite_t isNilP_none hQ)
abbrev EntF := (Int × Int × Int × Int × Int × Int × Int × Int × Int × Int × Bool × Bool × Sl) → ((Bool) → HProp) → HProp
def Does (f : EntF) (p : Ent → Bool) : Prop := ∀ (e : Ent) (Q : Bool → HProp) (h : H), Q (p e) h → f (e.kind, e.arg, e.prio, e.need, e.state, e.code, e.takes, e.round, e.had, e.ticks, e.att, e.exp, ⟨none, 0, 0⟩) Q h
def isQ (e : Ent) : Bool := decide (e.state = 1)
def isA (e : Ent) : Bool := e.att
def isX (e : Ent) : Bool := e.exp
theorem those_spec (T : Tab h b lv av c pos all) (hl : all.length ≤ 1000000) {f : EntF} {p : Ent → Bool} (hf : Does f p) {Q : Sl → HProp}
    (hQ : ∀ r h', Vec h' r (eI .i64) (ids p all) → New h r → Ext h h' → Q r h') : table_Table_those (some (at0 b), f) Q h := by
  unfold table_Table_those
  refine T.all_ld ?_
  have hav : av.len = all.length := T.va.len
  simp only [hav, ltI_eq]
  refine loop_i (fun (s : Sl × Int) h' => ∃ i : Nat, s.2 = i ∧ i ≤ all.length ∧ Vec h' s.1 (eI .i64) (idsT p all i) ∧ New h s.1 ∧ Ext h h') (fun s => ((all.length : Int) - s.2).toNat) ⟨0, rfl, Nat.zero_le _, Vec.nil0, New.nil0, Ext.refl h⟩ ?_
  rintro ⟨r, i⟩ h' ⟨i, rfl, hi, V, N, E⟩ k hk
  simp only at *
  refine ite_i (fun hlt => ?_) fun hge => ?_
  · have hlt : i < all.length := by simpa using hlt
    refine with_u ?_
    have T' := T.ext E
    refine T'.index hlt fun a ha => ?_
    have he : all[i]? = some all[i] := List.getElem?_eq_getElem hlt
    have cc := fun (j : Nat) (y : Value) (hy : all[i].cells[j]? = some y) => T'.cell (j := j) ha he hy
    refine loadI_i (cc 0 _ rfl) (loadI_i (cc 1 _ rfl) (loadI_i (cc 2 _ rfl) (loadI_i (cc 3 _ rfl) (loadI_i (cc 4 _ rfl) (loadI_i (cc 5 _ rfl) (loadI_i (cc 6 _ rfl) (loadI_i (cc 7 _ rfl) (loadI_i (cc 8 _ rfl) (loadI_i (cc 9 _ rfl) (loadB_i (cc 10 _ rfl) (loadB_i (cc 11 _ rfl) (loadL_i (v := ⟨none, 0, 0⟩) (cc 12 _ rfl) ?_))))))))))))
    refine hf _ _ _ ?_
    have hh : hit p all i = p all[i] := by unfold hit; rw [he]
    refine ite_i (fun hp => ?_) fun hp => ?_
    · rw [show add .i64 (i : Int) 1 = (i : Int) + 1 from add_i64 (by omega) (by omega)]
      have hlen := idsT_len p all i
      refine V.append_new E N (m := [(i : Int) + 1]) rfl (by simp [eI_all]) rfl (by omega) fun u h2 V2 E2 N2 F2 _ => ?_
      refine hk _ _ ⟨i + 1, by simp, by omega, ?_, N2, E2⟩ (by simp; omega)
      rw [idsT_succ, hh, hp]; exact V2
    · rw [show add .i64 (i : Int) 1 = (i : Int) + 1 from add_i64 (by omega) (by omega)]
      refine hk _ _ ⟨i + 1, by simp, by omega, ?_, N, E⟩ (by simp; omega)
      rw [idsT_succ, hh, hp]
      simpa using V
  · have : i = all.length := by have : ¬ (i < all.length) := (by simpa using hge); omega
    subst this
    exact hQ r h' V N E
theorem does_queued : Does (fun t => table_queued (t.fst, t.snd.fst, t.snd.snd.fst, t.snd.snd.snd.fst, t.snd.snd.snd.snd.fst, t.snd.snd.snd.snd.snd.fst, t.snd.snd.snd.snd.snd.snd.fst, t.snd.snd.snd.snd.snd.snd.snd.fst, t.snd.snd.snd.snd.snd.snd.snd.snd.fst, t.snd.snd.snd.snd.snd.snd.snd.snd.snd.fst, t.snd.snd.snd.snd.snd.snd.snd.snd.snd.snd.fst, t.snd.snd.snd.snd.snd.snd.snd.snd.snd.snd.snd.fst, t.snd.snd.snd.snd.snd.snd.snd.snd.snd.snd.snd.snd)) isQ := fun e Q h hQ => by
  unfold table_queued
  simp only [eqI_eq]
  exact hQ
theorem does_attached : Does (fun t => table_attached (t.fst, t.snd.fst, t.snd.snd.fst, t.snd.snd.snd.fst, t.snd.snd.snd.snd.fst, t.snd.snd.snd.snd.snd.fst, t.snd.snd.snd.snd.snd.snd.fst, t.snd.snd.snd.snd.snd.snd.snd.fst, t.snd.snd.snd.snd.snd.snd.snd.snd.fst, t.snd.snd.snd.snd.snd.snd.snd.snd.snd.fst, t.snd.snd.snd.snd.snd.snd.snd.snd.snd.snd.fst, t.snd.snd.snd.snd.snd.snd.snd.snd.snd.snd.snd.fst, t.snd.snd.snd.snd.snd.snd.snd.snd.snd.snd.snd.snd)) isA := fun e Q h hQ => by
  unfold table_attached
  exact hQ
theorem does_expected : Does (fun t => table_expected (t.fst, t.snd.fst, t.snd.snd.fst, t.snd.snd.snd.fst, t.snd.snd.snd.snd.fst, t.snd.snd.snd.snd.snd.fst, t.snd.snd.snd.snd.snd.snd.fst, t.snd.snd.snd.snd.snd.snd.snd.fst, t.snd.snd.snd.snd.snd.snd.snd.snd.fst, t.snd.snd.snd.snd.snd.snd.snd.snd.snd.fst, t.snd.snd.snd.snd.snd.snd.snd.snd.snd.snd.fst, t.snd.snd.snd.snd.snd.snd.snd.snd.snd.snd.snd.fst, t.snd.snd.snd.snd.snd.snd.snd.snd.snd.snd.snd.snd)) isX := fun e Q h hQ => by
  unfold table_expected
  exact hQ
def needAt (all : List Ent) (id : Int) : Int := match all[(id - 1).toNat]? with | some e => e.need | none => 0
def usedF (all : List Ent) : Int := (ids isA all).foldl (fun n id => add .i64 n (needAt all id)) 0
theorem used_spec (T : Tab h b lv av c pos all) (hn : 1 ≤ c.n) (hl : all.length ≤ 1000000) {Q : Int → HProp} (hQ : ∀ h', Ext h h' → Q (usedF all) h') : table_Table_Used (some (at0 b)) Q h := by
  unfold table_Table_Used
  refine none_spec T hn (ite_f rfl (those_spec T hl does_attached fun r h1 V1 N1 E1 => ?_))
  simp only [V1.len, ltI_eq]
  have hlen := ids_len isA all
  refine loop_i (fun (s : Int × Int) h' => h' = h1 ∧ ∃ j : Nat, s.2 = j ∧ j ≤ (ids isA all).length ∧ s.1 = ((ids isA all).take j).foldl (fun n id => add .i64 n (needAt all id)) 0) (fun s => (((ids isA all).length : Int) - s.2).toNat) ⟨rfl, 0, rfl, Nat.zero_le _, rfl⟩ ?_
  rintro ⟨m, j⟩ h' ⟨rfl, j, rfl, hj, rfl⟩ k hk
  simp only at *
  refine ite_i (fun hlt => ?_) fun hge => ?_
  · have hlt : j < (ids isA all).length := by simpa using hlt
    refine V1.arr.num hlt ?_
    have T1 := T.ext E1
    refine T1.all_ld ?_
    obtain ⟨i, e, hx, hi, he, _⟩ := mem_ids (List.getElem_mem hlt)
    rw [hx, show sub .i64 ((i + 1 : Nat) : Int) 1 = (i : Int) by rw [sub_i64 (by omega) (by omega)]; omega]
    refine T1.index hi fun a ha => ?_
    rw [add0]
    refine loadI_i (T1.cell (j := 3) ha he rfl) ?_
    rw [show add .i64 (j : Int) 1 = (j : Int) + 1 from add_i64 (by omega) (by omega)]
    refine hk _ _ ⟨rfl, j + 1, by simp, by omega, ?_⟩ (by simp; omega)
    rw [foldl_take _ _ _ _ hlt, hx]
    congr 1
    unfold needAt
    rw [show (((i + 1 : Nat) : Int) - 1).toNat = i by omega, he]
  · have : j = (ids isA all).length := by have : ¬ (j < (ids isA all).length) := (by simpa using hge); omega
    subst this
    rw [List.take_length]
    exact hQ _ E1
def endE (s cd : Int) (e : Ent) : Ent := { e with state := s, code := cd, att := false, exp := false }
theorem ends_spec (T : Tab h b lv av c pos all) {i : Nat} {a : Addr} {e : Ent} (hs : Slot av i 13 a) (he : all[i]? = some e) {s cd : Int} {Q : Unit → HProp}
    (hQ : ∀ h', Tab h' b lv av c pos (all.set i (endE s cd e)) → Fr (own b av) h h' → Q () h') : table_entry_ends (some a, s, cd) Q h := by
  have hlt := (List.getElem?_eq_some_iff.1 he).1
  have up : ∀ (l : List Ent) (x : Ent), l.length = all.length → (l.set i x)[i]? = some x := fun l x hl => by simp [hl, hlt]
  unfold table_entry_ends
  refine deref_i (T.st (e' := { e with state := s }) hs he (by decide) rfl fun h1 T1 F1 => ?_)
  refine deref_i (T1.st (e' := { e with state := s, code := cd }) hs (up _ _ rfl) (by decide) rfl fun h2 T2 F2 => ?_)
  refine deref_i (T2.st (e' := { e with state := s, code := cd, att := false }) hs (up _ _ (by simp)) (by decide) rfl fun h3 T3 F3 => ?_)
  refine deref_i (T3.st (e' := endE s cd e) hs (up _ _ (by simp)) (by decide) rfl fun h4 T4 F4 => ?_)
  refine hQ h4 ?_ (((F1.trans F2).trans F3).trans F4)
  simpa using T4
def findE_ (all : List Ent) (id : Int) : Int := if id < 1 ∨ (all.length : Int) < id then 4 else 0
theorem find_spec (T : Tab h b lv av c pos all) (hn : 1 ≤ c.n) (hl : all.length ≤ 1000000) {id : Int} {Q : Option Addr × Int → HProp}
    (hno : (id < 1 ∨ (all.length : Int) < id) → Q (none, 4) h) (hyes : ∀ i e a, id = ((i + 1 : Nat) : Int) → i < all.length → all[i]? = some e → Slot av i 13 a → Q (some a, 0) h) : table_Table_find (some (at0 b), id) Q h := by
  unfold table_Table_find
  simp only [ltI_eq]
  refine none_spec T hn (ite_f rfl (with_u (ite_i (fun h1 => ?_) fun h1 => T.all_ld ?_)))
  · exact ite_t rfl (hno (.inl (by simpa using h1)))
  · have h1 : ¬ (id < 1) := by simpa using h1
    have hav : av.len = all.length := T.va.len
    rw [hav]
    refine ite_i (fun h2 => hno (.inr (by simpa using h2))) fun h2 => T.all_ld ?_
    have h2 : ¬ ((all.length : Int) < id) := by simpa using h2
    obtain ⟨i, rfl⟩ : ∃ i : Nat, id = ((i + 1 : Nat) : Int) := ⟨(id - 1).toNat, by omega⟩
    have hi : i < all.length := by omega
    rw [show sub .i64 ((i + 1 : Nat) : Int) 1 = (i : Int) by rw [sub_i64 (by omega) (by omega)]; omega]
    exact T.index hi fun a ha => hyes i _ a rfl hi (List.getElem?_eq_getElem hi) ha
end
end Go.Cz.S
