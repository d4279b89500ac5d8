/- Part of the proof of a law of 28: an engine that runs a function over an abstract heap, and what the functions compute; own work. -/
import Derived.Test.YtpmojjeehmadpaaP28j
set_option linter.unusedVariables false
set_option linter.unusedSimpArgs false
set_option linter.unusedSectionVars false
namespace Go.Cz.S
set_option maxRecDepth 100000
set_option maxHeartbeats 1000000
set_option linter.unusedSimpArgs false
set_option linter.unusedVariables false
section
variable {h : H} {b : Nat} {lv av : Sl} {c : Cfg} {pos : Int} {all : List Ent}
def minF (f : Int → Int → Int) : List Int → Int
  | [] => 0
  | x :: r => r.foldl (fun m y => if f y m < 0 then y else m) x
theorem minF_mem (f : Int → Int → Int) : ∀ (l : List Int), l ≠ [] → minF f l ∈ l := by
  intro l hl
  cases l with
  | nil => exact absurd rfl hl
  | cons x r =>
    unfold minF
    suffices ∀ (r : List Int) (x : Int), r.foldl (fun m y => if f y m < 0 then y else m) x ∈ x :: r by exact this r x
    intro r
    induction r with
    | nil => intro x; simp
    | cons y r ih =>
      intro x
      rw [List.foldl_cons]
      have := ih (if f y x < 0 then y else x)
      rcases List.mem_cons.1 this with h | h
      · rw [h]; split <;> simp
      · exact List.mem_cons_of_mem _ (List.mem_cons_of_mem _ h)
theorem minF_snoc (f : Int → Int → Int) (l : List Int) (hl : l ≠ []) (y : Int) : minF f (l ++ [y]) = if f y (minF f l) < 0 then y else minF f l := by
  cases l with
  | nil => exact absurd rfl hl
  | cons x r =>
    show (r ++ [y]).foldl _ x = _
    rw [List.foldl_append]; rfl
theorem minfunc_spec {r : Sl} {l : List Int} {h : H} (A : Arr h r (eI .i64) l) (hl : l ≠ []) (hb : l.length ≤ 1000000) {f : (Int × Int) → (Int → HProp) → HProp} {g : Int → Int → Int}
    (hf : ∀ h', Ext h h' → ∀ x y, x ∈ l → y ∈ l → ∀ Q : Int → HProp, (∀ h'', Ext h' h'' → Q (g x y) h'') → f (x, y) Q h') {Q : Int → HProp} (hQ : ∀ h', Ext h h' → Q (minF g l) h') : slices_MinFunc_int_int (r, f) Q h := by
  unfold slices_MinFunc_int_int
  have hpos : 0 < l.length := List.length_pos_iff.2 hl
  simp only [A.len, ltI_eq]
  refine with_u (ite_f (by simp; omega) ?_)
  refine A.num (i := 0) hpos ?_
  refine loop_i (fun (s : Int × Int) h' => ∃ j : Nat, s.2 = j ∧ 1 ≤ j ∧ j ≤ l.length ∧ s.1 = minF g (l.take j) ∧ s.1 ∈ l ∧ Ext h h') (fun s => ((l.length : Int) - s.2).toNat) ⟨1, rfl, Nat.le_refl _, hpos, ?_, List.getElem_mem _, Ext.refl h⟩ ?_
  · cases l with
    | nil => exact absurd rfl hl
    | cons x r => simp [minF]
  · rintro ⟨m, j⟩ h' ⟨j, rfl, hj1, hj, hm, hmem, E⟩ k hk
    simp only at *
    refine ite_i (fun hlt => ?_) fun hge => ?_
    · have hlt : j < l.length := by simpa using hlt
      refine with_u ((A.ext E).num hlt ?_)
      refine hf h' E _ _ (List.getElem_mem hlt) hmem _ fun h2 E2 => ?_
      have et : l.take (j + 1) = l.take j ++ [l[j]] := by rw [List.take_add_one, List.getElem?_eq_getElem hlt]; rfl
      have hne : l.take j ≠ [] := by
        intro e
        have := congrArg List.length e
        rw [List.length_take, List.length_nil] at this; omega
      rw [show add .i64 (j : Int) 1 = (j : Int) + 1 from add_i64 (by omega) (by omega)]
      refine ite_i (fun hn => ?_) fun hn => ?_
      · refine (A.ext (E.trans E2)).num hlt ?_
        refine hk _ _ ⟨j + 1, by simp, by omega, by omega, ?_, List.getElem_mem hlt, E.trans E2⟩ (by simp; omega)
        rw [et, minF_snoc _ _ hne, ← hm, if_pos (by simpa using hn)]
      · refine hk _ _ ⟨j + 1, by simp, by omega, by omega, ?_, hmem, E.trans E2⟩ (by simp; omega)
        rw [et, minF_snoc _ _ hne, ← hm, if_neg (by simpa using hn)]
    · have : j = l.length := by have : ¬ (j < l.length) := (by simpa using hge); omega
      subst this
      rw [List.take_length] at hm
      rw [hm]
      exact hQ h' E

/-! ## a tick -/
def incE (e : Ent) : Ent := { e with ticks := add .i64 e.ticks 1 }
def runE (e : Ent) : Ent := { e with state := 2, att := true }
def expE (e : Ent) : Ent := { e with exp := true }
def tick1 (all : List Ent) : List Ent := (ids isQ all).foldl (upd incE) all
/-- one more is admitted -/
def admit1 (tot : Int) (all : List Ent) : Option (List Ent) :=
  if (ids isA all).length < 4 then
    if (ids isQ all).length = 0 then none
    else if sub .i64 tot (usedF all) < needAt all (minF (aheadC all) (ids isQ all)) then none
    else some (upd runE all (minF (aheadC all) (ids isQ all)))
  else none
def admitN (tot : Int) : Nat → List Ent → List Ent
  | 0, all => all
  | g + 1, all => match admit1 tot all with | none => all | some all' => admitN tot g all'
def admitF (tot : Int) (all : List Ent) : List Ent := admitN tot (ids isQ all).length all
structure Res where
  ev : Int × Int × Int × Int
  pos : Int
  all : List Ent
def tickF (c : Cfg) (pos : Int) (all : List Ent) (fault : Int) : Res :=
  let all2 := admitF c.tot (tick1 all)
  if (ids isA all2).length = 0 then ⟨(1, 0, 0, 0), pos, all2⟩
  else if fault ≠ 0 then ⟨(4, rem (add .i64 pos 1) c.k, 0, fault), rem (add .i64 pos 1) c.k, (ids isA all2).foldl (upd (endE 5 fault)) all2⟩
  else ⟨(2, rem (add .i64 pos 1) c.k, 0, 0), rem (add .i64 pos 1) c.k, (ids isA all2).foldl (upd expE) all2⟩

theorem idsT_count (p : Ent → Bool) (all : List Ent) : ∀ i, i ≤ all.length → (idsT p all i).length = (all.take i).countP p
  | 0, _ => by simp [idsT]
  | i + 1, hi => by
    rw [idsT_succ, List.length_append, idsT_count p all i (by omega)]
    have hlt : i < all.length := by omega
    rw [List.take_add_one, List.getElem?_eq_getElem hlt, List.countP_append]
    congr 1
    unfold hit
    rw [List.getElem?_eq_getElem hlt]
    by_cases h : p all[i] <;> simp [h]
theorem ids_count (p : Ent → Bool) (all : List Ent) : (ids p all).length = all.countP p := by
  unfold ids; rw [idsT_count p all _ (Nat.le_refl _), List.take_length]
theorem admit1_less {tot : Int} {all all' : List Ent} (h : admit1 tot all = some all') : (ids isQ all').length + 1 = (ids isQ all).length ∧ all'.length = all.length := by
  unfold admit1 at h
  split at h
  · split at h
    · cases h
    · rename_i hz
      split at h
      · cases h
      · cases h
        refine ⟨?_, upd_len _ _ _⟩
        have hne : ids isQ all ≠ [] := by intro e; rw [e] at hz; exact hz rfl
        obtain ⟨j, e, hx, hj, he, hp⟩ := mem_ids (minF_mem (aheadC all) _ hne)
        rw [hx, upd_at _ he, ids_count, ids_count, List.countP_set hj]
        have e1 : all[j] = e := by rw [List.getElem?_eq_getElem hj] at he; exact Option.some.inj he
        have : 0 < all.countP isQ := List.countP_pos_iff.2 ⟨e, List.mem_of_getElem? he, hp⟩
        rw [e1, hp]
        have : isQ (runE e) = false := rfl
        rw [this]; simp; omega
  · cases h

theorem loop_upd {r : Sl} {l : List Int} {f : Ent → Ent} (T : Tab h b lv av c pos all) (V : Vec h r (eI .i64) l) (hr : ∀ x, r.on x → ¬ own b av x) (hl : all.length ≤ 1000000) (hll : l.length ≤ 1000000) (hm : ∀ x ∈ l, ∃ i : Nat, x = ((i + 1 : Nat) : Int) ∧ i < all.length)
    {step : Int → (Int → HProp) → HProp} {Q : HProp}
    (hstep : ∀ (j : Nat) (h' : H) (all' : List Ent) (i : Nat) (e : Ent) (k : Int → HProp), (hj : j < l.length) → l[j] = ((i + 1 : Nat) : Int) → all'[i]? = some e → all'.length = all.length → Tab h' b lv av c pos all' → Vec h' r (eI .i64) l →
      (∀ h'', Tab h'' b lv av c pos (all'.set i (f e)) → Fr (own b av) h' h'' → k ((j : Int) + 1) h'') → step (j : Int) k h')
    (hQ : ∀ h', Tab h' b lv av c pos (l.foldl (upd f) all) → Vec h' r (eI .i64) l → Fr (own b av) h h' → Q h') :
    loopW (0 : Int) (fun (s : Int) (k : Int → HProp) => iteW (decide (s < (r.len : Int))) (step s k) Q) h := by
  simp only [V.len]
  refine loop_i (fun (s : Int) h' => ∃ j : Nat, s = j ∧ j ≤ l.length ∧ Tab h' b lv av c pos ((l.take j).foldl (upd f) all) ∧ Vec h' r (eI .i64) l ∧ Fr (own b av) h h') (fun s => ((l.length : Int) - s).toNat) ⟨0, rfl, Nat.zero_le _, T, V, Fr.refl _ _⟩ ?_
  rintro s h' ⟨j, rfl, hj, T', V', F'⟩ k hk
  refine ite_i (fun hlt => ?_) fun hge => ?_
  · have hlt : j < l.length := by simpa using hlt
    obtain ⟨i, hi, hil⟩ := hm _ (List.getElem_mem hlt)
    have hlen : ((l.take j).foldl (upd f) all).length = all.length := foldl_len f _ _
    have he := List.getElem?_eq_getElem (show i < ((l.take j).foldl (upd f) all).length by omega)
    refine hstep j h' _ i _ k hlt hi he hlen T' V' fun h2 T2 F2 => ?_
    refine hk _ _ ⟨j + 1, by simp, by omega, ?_, V'.fr F2 hr, F'.trans F2⟩ (by omega)
    rw [foldl_take _ _ _ _ hlt, hi, upd_at _ he]
    exact T2
  · have : j = l.length := by have : ¬ (j < l.length) := (by simpa using hge); omega
    subst this
    rw [List.take_length] at T'
    exact hQ h' T' V' F'
theorem ids_on {p : Ent → Bool} : ∀ x ∈ ids p all, ∃ i : Nat, x = ((i + 1 : Nat) : Int) ∧ i < all.length := fun x hx => by
  obtain ⟨j, e, h1, h2, _⟩ := mem_ids hx
  exact ⟨j, h1, h2⟩
theorem new_own {r : Sl} {h0 : H} (T : Tab h0 b lv av c pos all) (N : New h0 r) : ∀ x, r.on x → ¬ own b av x := fun x hx ho => by
  have := T.apart (N x hx)
  rcases ho with ho | ho
  · exact this.1 ho
  · exact this.2.1 ho
theorem sub1 {i : Nat} (hi : i < 1000000) : sub .i64 ((i + 1 : Nat) : Int) 1 = (i : Int) := by rw [sub_i64 (by omega) (by omega)]; omega
theorem tick_spec (T : Tab h b lv av c pos all) (hn : 1 ≤ c.n) (hk0 : c.k ≠ 0) (hl : all.length ≤ 900000) {fault : Int} {Q : Int × Int × Int × Int → HProp}
    (hQ : ∀ h', Tab h' b lv av c (tickF c pos all fault).pos (tickF c pos all fault).all → Fr (own b av) h h' → Q (tickF c pos all fault).ev h') : table_Table_tick (some (at0 b), fault) Q h := by
  unfold table_Table_tick
  simp only [ltI_eq, eqI_eq]
  have hl' : all.length ≤ 1000000 := by omega
  refine those_spec T hl' does_queued fun r h1 V1 N1 E1 => ?_
  have T1 := T.ext E1
  refine loop_upd (f := incE) T1 V1 (new_own T N1) hl' (Nat.le_trans (ids_len _ _) hl') ids_on
    (step := fun s k => indexW s r 1 fun (a : Addr) =>
          loadI IntKind.i64 a fun (x : Int) =>
            derefW (some (at0 b)) fun (a : Addr) =>
              loadL (a.add 5) fun (x_1 : Sl) =>
                indexW (sub IntKind.i64 x 1) x_1 13 fun (a : Addr) =>
                  loadI IntKind.i64 (a.add 9) fun (x_2 : Int) =>
                    indexW (sub IntKind.i64 x 1) x_1 13 fun (a : Addr) =>
                      storeW (a.add 9) (Value.int IntKind.i64 (add IntKind.i64 x_2 1)) (k (add IntKind.i64 s 1))) ?_ ?_
  · intro j h' all' i e k hj hx he hlen T' V' hk
    refine V'.arr.num hj ?_
    have hi := (List.getElem?_eq_some_iff.1 he).1
    have hjl := ids_len isQ all
    rw [hx, sub1 (by omega)]
    refine T'.all_ld (T'.index hi fun a ha => loadI_i (T'.cell (j := 9) ha he rfl) (T'.index hi fun a2 ha2 => ?_))
    refine T'.st (e' := incE e) ha2 he (by decide) rfl fun h2 T2 F2 => ?_
    rw [add_i64 (by omega) (by omega)]
    exact hk h2 T2 F2
  intro h2 T2 V2 F2
  have F02 : Fr (own b av) h h2 := E1.fr.trans F2
  have hl2 : (tick1 all).length = all.length := foldl_len _ _ _
  change Tab h2 b lv av c pos (tick1 all) at T2
  -- who is admitted
  refine with_i (fun _ h3 => Tab h3 b lv av c pos (admitF c.tot (tick1 all)) ∧ Fr (own b av) h h3) (fun k hk => ?_) ?_
  · refine loop_n (fun g _ h3 => ∃ all3, Tab h3 b lv av c pos all3 ∧ Fr (own b av) h h3 ∧ all3.length = all.length ∧ g = (ids isQ all3).length ∧ admitN c.tot g all3 = admitF c.tot (tick1 all)) _ ⟨_, T2, F02, hl2, rfl, rfl⟩ ?_
    rintro g ⟨⟩ h3 ⟨all3, T3, F3, hl3, rfl, hadm⟩ k1 hk1
    have hl3' : all3.length ≤ 1000000 := by omega
    -- how it goes on
    have hend : admit1 c.tot all3 = none → all3 = admitF c.tot (tick1 all) := fun hno => by
      rw [← hadm]
      generalize (ids isQ all3).length = g
      cases g with
      | zero => rfl
      | succ g => simp only [admitN, hno]
    have hstop : ∀ h4, Ext h3 h4 → admit1 c.tot all3 = none → k () h4 := fun h4 E4 hno => hk () h4 ⟨by rw [← hend hno]; exact T3.ext E4, F3.trans E4.fr⟩
    refine those_spec T3 hl3' does_attached fun r4 h4 V4 N4 E4 => ?_
    rw [V4.len]
    have T4 := T3.ext E4
    refine ite_i (fun hlt => ?_) fun hge => ?_
    · have hlt : (ids isA all3).length < 4 := by have : ((ids isA all3).length : Int) < 4 := (by simpa using hlt); omega
      refine those_spec T4 hl3' does_queued fun r5 h5 V5 N5 E5 => ?_
      rw [V5.len]
      have T5 := T4.ext E5
      refine ite_i (fun hz => ?_) fun hnz => ?_
      · have hz : (ids isQ all3).length = 0 := by simpa using hz
        exact hstop h5 (E4.trans E5) (by unfold admit1; rw [if_pos hlt, if_pos hz])
      · have hnz : ¬ ((ids isQ all3).length = 0) := by simpa using hnz
        have hne : ids isQ all3 ≠ [] := fun e => hnz (by rw [e]; rfl)
        refine deref_i (loadL_i (v := av) (T5.ob.ld (j := 5) rfl) ?_)
        refine minfunc_spec (g := aheadC all3) V5.arr hne (Nat.le_trans (ids_len _ _) hl3') (fun h' E' x y hx hy Q hQ => ?_) fun h6 E6 => ?_
        · obtain ⟨i, ex, rfl, _, hex, _⟩ := mem_ids hx
          obtain ⟨j, ey, rfl, _, hey, _⟩ := mem_ids hy
          exact ahead_spec (T5.ext E') hl3' hex hey hQ
        · have T6 := T5.ext E6
          refine keeps1 (T6.ob.ld (j := 5) rfl) ?_
          have hmem := minF_mem (aheadC all3) _ hne
          generalize hmm : minF (aheadC all3) (ids isQ all3) = m at hmem
          obtain ⟨i, e, rfl, hi, he, hq⟩ := mem_ids hmem
          rw [sub1 (by omega)]
          refine T6.index hi fun a ha => ?_
          rw [add0]
          have hneed : needAt all3 ((i + 1 : Nat) : Int) = e.need := by unfold needAt; rw [show (((i + 1 : Nat) : Int) - 1).toNat = i by omega, he]
          refine loadI_i (T6.cell (j := 3) ha he rfl) (deref_i (loadI_i (T6.ob.ld (j := 2) rfl) ?_))
          refine used_spec T6 hn hl3' fun h7 E7 => ?_
          have T7 := T6.ext E7
          refine keeps1 (T7.cell (j := 3) ha he rfl) (keeps1 (T7.ob.ld (j := 2) rfl) ?_)
          refine ite_i (fun hb => ?_) fun hb => ?_
          · refine hstop h7 (((E4.trans E5).trans E6).trans E7) ?_
            unfold admit1
            rw [if_pos hlt, if_neg hnz, hmm, hneed, if_pos (by simpa using hb)]
          · refine T7.st (e' := { e with state := 2 }) ha he (by decide) rfl fun h8 T8 F8 => ?_
            refine T8.st (e := { e with state := 2 }) (e' := runE e) ha (by simp [hi]) (by decide) rfl fun h9 T9 F9 => ?_
            rw [List.set_set] at T9
            have hsome : admit1 c.tot all3 = some (all3.set i (runE e)) := by
              unfold admit1
              rw [if_pos hlt, if_neg hnz, hmm, hneed, if_neg (by simpa using hb), upd_at _ he]
            obtain ⟨a1, a2⟩ := admit1_less hsome
            refine hk1 (ids isQ (all3.set i (runE e))).length () h9 (by omega) ⟨_, T9, (F3.trans (((E4.trans E5).trans E6).trans E7).fr).trans (F8.trans F9), by omega, rfl, ?_⟩
            rw [← hadm, ← a1]
            simp only [admitN, hsome]
    · exact hstop h4 E4 (by unfold admit1; rw [if_neg (by have : ¬ (((ids isA all3).length : Int) < 4) := (by simpa using hge); omega)])
  · rintro _ h3 ⟨T3, F3⟩
    generalize hall2 : admitF c.tot (tick1 all) = all2 at T3
    have hlen2 : all2.length = all.length := by
      rw [← hall2, ← hl2]
      unfold admitF
      generalize (ids isQ (tick1 all)).length = g
      generalize tick1 all = l
      induction g generalizing l with
      | zero => rfl
      | succ g ih =>
        simp only [admitN]
        split
        · rfl
        · rename_i l' hl'
          rw [ih l', (admit1_less hl').2]
    have hlen2' : all2.length ≤ 1000000 := by omega
    unfold tickF at hQ
    rw [hall2] at hQ
    simp only [] at hQ
    refine those_spec T3 hlen2' does_attached fun r4 h4 V4 N4 E4 => ?_
    rw [V4.len]
    have T4 := T3.ext E4
    have F4 := F3.trans E4.fr
    refine ite_i (fun hz => ?_) fun hnz => ?_
    · have hz : (ids isA all2).length = 0 := by simpa using hz
      rw [if_pos hz] at hQ
      exact hQ h4 T4 F4
    · have hnz : ¬ ((ids isA all2).length = 0) := by simpa using hnz
      rw [if_neg hnz] at hQ
      refine deref_i (loadI_i (T4.ob.ld (j := 4) rfl) (deref_i (loadI_i (T4.ob.ld (j := 1) rfl) (must_i hk0 (deref_i ?_)))))
      refine T4.ob.st (j := 4) (by simp) fun h5 o5 F5 => ?_
      have T5 : Tab h5 b lv av c (rem (add .i64 pos 1) c.k) all2 := ⟨o5, T4.al.frn F5 (fun hl x hx => (T4.lb hl x hx).1), T4.va.fr F5 (fun x hx e => T4.ab (e ▸ hx)), T4.lb, T4.ab⟩
      have F5' : Fr (own b av) h h5 := F4.trans (F5.mono fun k hk => .inl hk)
      have hr := new_own T3 N4
      have V5 : Vec h5 r4 (eI .i64) (ids isA all2) := V4.fr F5 fun x hx e => hr x hx (.inl e)
      have hjl := ids_len isA all2
      rw [← V4.len]
      by_cases hf : fault = 0
      · subst hf
        rw [if_neg (by simp)] at hQ
        refine loop_upd (f := expE) T5 V5 hr hlen2' (Nat.le_trans hjl hlen2') ids_on
          (step := fun s k => withK (fun (t : PUnit) => k (add IntKind.i64 s 1))
                                    fun (k : PUnit → HProp) =>
                                    indexW s r4 1 fun (a : Addr) =>
                                      loadI IntKind.i64 a fun (x : Int) =>
                                        iteW (!decide ((0 : Int) = 0))
                                          (derefW (some (at0 b)) fun (a : Addr) =>
                                            loadL (a.add 5) fun (x_2 : Sl) =>
                                              indexW (sub IntKind.i64 x 1) x_2 13 fun (a : Addr) =>
                                                table_entry_ends (some a, 5, 0) fun (r : PUnit) => k ())
                                          (derefW (some (at0 b)) fun (a : Addr) =>
                                            loadL (a.add 5) fun (x_2 : Sl) =>
                                              indexW (sub IntKind.i64 x 1) x_2 13 fun (a : Addr) =>
                                                storeW (a.add 11) (Value.bool true) (k ()))) ?_ ?_
        · intro j h' all' i e k hj hx he hlen T' V' hk
          refine with_u (V'.arr.num hj ?_)
          have hi := (List.getElem?_eq_some_iff.1 he).1
          rw [hx, sub1 (by omega)]
          refine ite_f rfl (T'.all_ld (T'.index hi fun a ha => ?_))
          refine T'.st (e' := expE e) ha he (by decide) rfl fun h2 T2 F2 => ?_
          rw [add_i64 (by omega) (by omega)]
          exact hk h2 T2 F2
        · intro h6 T6 V6 F6
          refine ite_f rfl (deref_i (loadI_i (T6.ob.ld (j := 4) rfl) ?_))
          exact hQ h6 T6 (F5'.trans F6)
      · rw [if_pos hf] at hQ
        refine loop_upd (f := endE 5 fault) T5 V5 hr hlen2' (Nat.le_trans hjl hlen2') ids_on
          (step := fun s k => withK (fun (t : PUnit) => k (add IntKind.i64 s 1))
                                    fun (k : PUnit → HProp) =>
                                    indexW s r4 1 fun (a : Addr) =>
                                      loadI IntKind.i64 a fun (x : Int) =>
                                        iteW (!decide (fault = 0))
                                          (derefW (some (at0 b)) fun (a : Addr) =>
                                            loadL (a.add 5) fun (x_2 : Sl) =>
                                              indexW (sub IntKind.i64 x 1) x_2 13 fun (a : Addr) =>
                                                table_entry_ends (some a, 5, fault) fun (r : PUnit) => k ())
                                          (derefW (some (at0 b)) fun (a : Addr) =>
                                            loadL (a.add 5) fun (x_2 : Sl) =>
                                              indexW (sub IntKind.i64 x 1) x_2 13 fun (a : Addr) =>
                                                storeW (a.add 11) (Value.bool true) (k ()))) ?_ ?_
        · intro j h' all' i e k hj hx he hlen T' V' hk
          refine with_u (V'.arr.num hj ?_)
          have hi := (List.getElem?_eq_some_iff.1 he).1
          rw [hx, sub1 (by omega)]
          refine ite_t (by simp [hf]) (T'.all_ld (T'.index hi fun a ha => ?_))
          refine ends_spec T' ha he fun h2 T2 F2 => ?_
          rw [add_i64 (by omega) (by omega)]
          exact hk h2 T2 F2
        · intro h6 T6 V6 F6
          refine ite_t (by simp [hf]) (deref_i (loadI_i (T6.ob.ld (j := 4) rfl) ?_))
          exact hQ h6 T6 (F5'.trans F6)
end
end Go.Cz.S
