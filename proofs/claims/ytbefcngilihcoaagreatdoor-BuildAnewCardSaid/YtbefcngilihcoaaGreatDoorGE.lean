/- Part of the proof of a law of 1312: an engine that runs a function over an abstract heap, and what the functions compute; own work. -/
import Derived.Test.YtbefcngilihcoaaGreatDoorGC
import Derived.Sort.KeysCollected
import Derived.Test.YtbefcngilihcoaaGreatDoorGD
set_option linter.unusedVariables false
set_option linter.unusedSimpArgs false
set_option linter.unusedSectionVars false
namespace Go.Cz.S
open Go Go.Cz
set_option linter.unusedVariables false
set_option linter.unusedSimpArgs false
def kv (e : MapEntry) : Value × Value := (e.key, e.val)
structure MapB (h : H) (m : Nat) (es : List MapEntry) (ck : Nat) (kvs : List (Value × Value)) : Prop where
  blk : h m = some (.map es ck)
  perm : (es.map kv).Perm kvs
  nodup : (kvs.map (·.1)).Nodup
  born : (es.map (·.born)).Nodup
  lt : ∀ e ∈ es, e.born < ck
def MapAt (h : H) (m : Nat) (kvs : List (Value × Value)) : Prop := ∃ es ck, MapB h m es ck kvs
theorem MapB.perm' {h : H} {m : Nat} {es : List MapEntry} {ck : Nat} {a b : List (Value × Value)} (M : MapB h m es ck a) (p : a.Perm b) : MapB h m es ck b :=
  ⟨M.blk, M.perm.trans p, (p.map _).nodup_iff.1 M.nodup, M.born, M.lt⟩
theorem MapAt.perm {h : H} {m : Nat} {a b : List (Value × Value)} (M : MapAt h m a) (p : a.Perm b) : MapAt h m b := by
  obtain ⟨es, ck, M⟩ := M; exact ⟨es, ck, M.perm' p⟩
theorem MapB.mem {h : H} {m : Nat} {es : List MapEntry} {ck : Nat} {kvs : List (Value × Value)} (M : MapB h m es ck kvs) {e : MapEntry} (he : e ∈ es) : (e.key, e.val) ∈ kvs :=
  M.perm.mem_iff.1 (List.mem_map_of_mem (f := kv) he)
theorem MapB.of {h : H} {m : Nat} {es : List MapEntry} {ck : Nat} {kvs : List (Value × Value)} (M : MapB h m es ck kvs) {k v : Value} (hk : (k, v) ∈ kvs) : ∃ e ∈ es, e.key = k ∧ e.val = v := by
  obtain ⟨e, he, h1⟩ := List.mem_map.1 (M.perm.mem_iff.2 hk)
  unfold kv at h1
  cases h1; exact ⟨e, he, rfl, rfl⟩
theorem MapB.keys {h : H} {m : Nat} {es : List MapEntry} {ck : Nat} {kvs : List (Value × Value)} (M : MapB h m es ck kvs) : (es.map (·.key)).Nodup := by
  have h1 := (M.perm.map (·.1)).nodup_iff.2 M.nodup
  rw [List.map_map] at h1
  exact h1
theorem MapAt.fr {S : Nat → Prop} {h h' : H} {m : Nat} {kvs : List (Value × Value)} (M : MapAt h m kvs) (f : Fr S h h') (hs : ¬ S m) : MapAt h' m kvs := by
  obtain ⟨es, ck, M⟩ := M
  exact ⟨es, ck, f m _ M.blk hs, M.perm, M.nodup, M.born, M.lt⟩
def Fits (kt : KT) (kvs : List (Value × Value)) : Prop := ∀ x ∈ kvs, kt.fits x.1 = true
theorem MapAt.look {h : H} {m : Nat} {kvs : List (Value × Value)} (M : MapAt h m kvs) {t : Ty0} {z : t.den} {kt : KT} {key : Value} {K : t.den → Bool → HProp} (hf : Fits kt kvs) (hk : kt.fits key = true)
    (h1 : ∀ v, (key, v) ∈ kvs → ∃ x, valOf t v = some x ∧ K x true h) (h2 : (∀ v, (key, v) ∉ kvs) → K z false h) : lookW t z (some m) kt key K h := by
  obtain ⟨es, ck, M⟩ := M
  unfold lookW
  refine ⟨hk, ?_⟩
  simp only [M.blk]
  exact ⟨fun e he => hf _ (M.mem he), fun e he ek => h1 _ (ek ▸ M.mem he), fun hn => h2 fun v hv => by
    obtain ⟨e, he, h3, _⟩ := M.of hv
    exact hn e he h3⟩
theorem MapAt.len {h : H} {m : Nat} {kvs : List (Value × Value)} (M : MapAt h m kvs) {K : Int → HProp} (hK : K (kvs.length : Nat) h) : lenMW (some m) K h := by
  obtain ⟨es, ck, M⟩ := M
  unfold lenMW
  simp only [M.blk]
  have := M.perm.length_eq
  rw [List.length_map] at this
  rw [this]; exact hK
theorem split_at {es : List MapEntry} {j : Nat} {e : MapEntry} (hj : es[j]? = some e) : es = es.take j ++ e :: es.drop (j + 1) := by
  have hlt := (List.getElem?_eq_some_iff.1 hj).1
  have e1 : es[j] = e := by rw [List.getElem?_eq_getElem hlt] at hj; exact Option.some.inj hj
  rw [← e1, ← List.drop_eq_getElem_cons hlt, List.take_append_drop]
theorem set_at {es : List MapEntry} {j : Nat} {e e' : MapEntry} (hj : es[j]? = some e) : es.set j e' = es.take j ++ e' :: es.drop (j + 1) := by
  have hlt := (List.getElem?_eq_some_iff.1 hj).1
  rw [List.set_eq_take_append_cons_drop, if_pos hlt]
theorem MapB.rest {h : H} {m : Nat} {es : List MapEntry} {ck : Nat} {kvs : List (Value × Value)} (M : MapB h m es ck kvs) {j : Nat} {e : MapEntry} (hj : es[j]? = some e) : kvs.Perm ((e.key, e.val) :: ((es.take j ++ es.drop (j + 1)).map kv)) := by
  refine M.perm.symm.trans ?_
  conv => lhs; rw [split_at hj]
  rw [List.map_append, List.map_cons, List.map_append]
  exact List.perm_middle
theorem MapAt.update {h : H} {m : Nat} {kvs : List (Value × Value)} (M : MapAt h m kvs) {kt : KT} {key val : Value} {K : HProp} (hf : Fits kt kvs) (hk : kt.fits key = true)
    (h1 : ∀ v0 rest, kvs.Perm ((key, v0) :: rest) → ∀ h', MapAt h' m ((key, val) :: rest) → Fr (fun k => k = m) h h' → K h')
    (h2 : (∀ v, (key, v) ∉ kvs) → ∀ h', MapAt h' m ((key, val) :: kvs) → Fr (fun k => k = m) h h' → K h') : updateW (some m) kt key val K h := by
  obtain ⟨es, ck, M⟩ := M
  unfold updateW
  refine ⟨hk, ?_⟩
  simp only [M.blk]
  refine ⟨fun e he => hf _ (M.mem he), fun j e hj ek => ?_, fun hn => ?_⟩
  · subst ek
    have hp := M.rest hj
    have hs := set_at (e' := { e with val := val }) hj
    refine h1 e.val _ hp _ ⟨es.set j { e with val := val }, ck, set_same _ _ _, ?_, ?_, ?_, ?_⟩ Fr.set
    · rw [hs, List.map_append, List.map_cons, List.map_append]
      exact List.perm_middle
    · have := (hp.map (·.1)).nodup_iff.1 M.nodup
      exact this
    · have hb := M.born
      rw [split_at hj, List.map_append, List.map_cons] at hb
      rw [hs, List.map_append, List.map_cons]
      exact hb
    · intro x hx
      rcases List.mem_or_eq_of_mem_set hx with hx | rfl
      · exact M.lt x hx
      · exact M.lt e (List.mem_of_getElem? hj)
  · have hno : ∀ v, (key, v) ∉ kvs := fun v hv => by
      obtain ⟨e, he, h1, h2⟩ := M.of hv
      exact hn e he h1
    refine h2 hno _ ⟨es ++ [⟨key, val, ck⟩], ck.succ, set_same _ _ _, ?_, ?_, ?_, ?_⟩ Fr.set
    · rw [List.map_append]
      exact (List.perm_append_comm).trans (M.perm.cons _)
    · rw [List.map_cons, List.nodup_cons]
      refine ⟨fun hm => ?_, M.nodup⟩
      obtain ⟨x, hx, e⟩ := List.mem_map.1 hm
      have e : x.1 = key := e
      exact hno x.2 (by rw [← e]; exact hx)
    · rw [List.map_append, List.nodup_append]
      refine ⟨M.born, by simp, fun a ha b hb => ?_⟩
      simp at hb
      obtain ⟨e, he, rfl⟩ := List.mem_map.1 ha
      have := M.lt e he
      omega
    · intro x hx
      rcases List.mem_append.1 hx with hx | hx
      · have := M.lt x hx; omega
      · simp at hx; subst hx; exact Nat.lt_succ_self _
theorem MapAt.delete {h : H} {m : Nat} {kvs : List (Value × Value)} (M : MapAt h m kvs) {kt : KT} {key : Value} {K : HProp} (hf : Fits kt kvs) (hk : kt.fits key = true)
    (h1 : ∀ v0 rest, kvs.Perm ((key, v0) :: rest) → ∀ h', MapAt h' m rest → Fr (fun k => k = m) h h' → K h') (h2 : (∀ v, (key, v) ∉ kvs) → K h) : deleteW (some m) kt key K h := by
  obtain ⟨es, ck, M⟩ := M
  unfold deleteW
  refine ⟨hk, ?_⟩
  simp only [M.blk]
  refine ⟨fun e he => hf _ (M.mem he), fun j e hj ek => ?_, fun hn => ?_⟩
  · subst ek
    have hp := M.rest hj
    have he := List.eraseIdx_eq_take_drop_succ es j
    refine h1 e.val _ hp _ ⟨es.eraseIdx j, ck, set_same _ _ _, ?_, ?_, ?_, ?_⟩ Fr.set
    · rw [he]
    · have := (hp.map (·.1)).nodup_iff.1 M.nodup
      exact (List.nodup_cons.1 this).2
    · exact List.Nodup.sublist (List.Sublist.map _ (List.eraseIdx_sublist _ _)) M.born
    · exact fun x hx => M.lt x (List.mem_of_mem_eraseIdx hx)
  · refine h2 fun v hv => ?_
    obtain ⟨e, he, h1, h2⟩ := M.of hv
    exact hn e he h1
theorem newMap_i {K : Nat → HProp} {h : H} (hK : ∀ m h', MapAt h' m [] → h m = none → Ext h h' → K m h') : newMapW K h := by
  unfold newMapW
  intro b hb
  exact hK b _ ⟨[], 0, set_same _ _ _, List.Perm.refl _, List.nodup_nil, List.nodup_nil, fun e he => by simp at he⟩ hb (Ext.set hb)
structure ItB (h : H) (it m : Nat) (es : List MapEntry) (ck : Nat) (seen : List Nat) (last : Nat) (kvs todo : List (Value × Value)) : Prop where
  it : h it = some (.iter (some m) ck seen last)
  map : MapB h m es ck kvs
  le : ck ≤ last
  todo : ((es.filter fun e => !decide (e.born ∈ seen)).map kv).Perm todo
def ItAt (h : H) (it m : Nat) (kvs todo : List (Value × Value)) : Prop := ∃ es ck seen last, ItB h it m es ck seen last kvs todo
def ItCur (h : H) (it m : Nat) (kvs todo : List (Value × Value)) (x : Value × Value) : Prop := ∃ es ck seen e, ItB h it m es ck seen ck kvs todo ∧ e ∈ es ∧ seen.getLast? = some e.born ∧ kv e = x
theorem ItCur.at {h : H} {it m : Nat} {kvs todo : List (Value × Value)} {x : Value × Value} (I : ItCur h it m kvs todo x) : ItAt h it m kvs todo := by
  obtain ⟨es, ck, seen, e, I, _⟩ := I; exact ⟨es, ck, seen, ck, I⟩
theorem MapAt.range {h : H} {m : Nat} {kvs : List (Value × Value)} (M : MapAt h m kvs) {K : Nat → HProp} (hK : ∀ it h', ItAt h' it m kvs kvs → h it = none → Ext h h' → K it h') : rangeW (some m) K h := by
  obtain ⟨es, ck, M⟩ := M
  unfold rangeW
  simp only [M.blk]
  intro b hb
  have hne : m ≠ b := fun e => by subst e; have := M.blk; rw [hb] at this; cases this
  refine hK b _ ⟨es, ck, [], ck, set_same _ _ _, ⟨Ext.set hb m _ M.blk (fun h => h), M.perm, M.nodup, M.born, M.lt⟩, Nat.le_refl _, ?_⟩ hb (Ext.set hb)
  have : es.filter (fun e => !decide (e.born ∈ ([] : List Nat))) = es := List.filter_eq_self.2 fun e _ => by simp
  rw [this]; exact M.perm
theorem ItAt.next {h : H} {it m : Nat} {kvs todo : List (Value × Value)} (I : ItAt h it m kvs todo) {A B : HProp} (h1 : todo = [] → B h)
    (h2 : ∀ x todo' h', todo.Perm (x :: todo') → ItCur h' it m kvs todo' x → Fr (fun k => k = it) h h' → A h') : nextW it A B h := by
  obtain ⟨es, ck, seen, last, I⟩ := I
  have hne : m ≠ it := fun e => by subst e; have := I.map.blk; rw [I.it] at this; cases this
  unfold nextW
  simp only [I.it, I.map.blk]
  refine ⟨I.map.lt, I.le, fun hall => h1 ?_, fun e he hns => ?_⟩
  · have : es.filter (fun e => !decide (e.born ∈ seen)) = [] := by
      apply List.filter_eq_nil_iff.2
      intro e he
      simp [hall e he]
    have hp := I.todo
    rw [this] at hp
    exact List.Perm.nil_eq hp |>.symm
  · have hmem : e ∈ es.filter fun e => !decide (e.born ∈ seen) := List.mem_filter.2 ⟨he, by simpa using hns⟩
    have hx : kv e ∈ todo := I.todo.mem_iff.1 (List.mem_map_of_mem hmem)
    obtain ⟨a, b, rfl⟩ := List.append_of_mem hx
    refine h2 (kv e) (a ++ b) _ List.perm_middle ⟨es, ck, seen ++ [e.born], e, ⟨set_same _ _ _, ⟨by rw [show (h.set it _) m = h m from if_neg hne]; exact I.map.blk, I.map.perm, I.map.nodup, I.map.born, I.map.lt⟩, Nat.le_refl _, ?_⟩, he, by simp, rfl⟩ Fr.set
    have hp : ((es.filter fun e => !decide (e.born ∈ seen)).map kv).Perm (kv e :: (a ++ b)) := I.todo.trans List.perm_middle
    have key : ∀ l : List MapEntry, (l.map (·.born)).Nodup → e ∈ l → ((l.filter fun x => !decide (x.born ∈ seen)).map kv).Perm (kv e :: (l.filter fun x => !decide (x.born ∈ seen ++ [e.born])).map kv) := by
      intro l
      induction l with
      | nil => intro _ h; simp at h
      | cons y r ih =>
        intro hn hm
        rw [List.map_cons, List.nodup_cons] at hn
        by_cases ey : y = e
        · subst ey
          rw [List.filter_cons, if_pos (by simpa using hns), List.filter_cons, if_neg (by simp), List.map_cons]
          refine List.Perm.cons _ (List.Perm.of_eq ?_)
          congr 1
          apply List.filter_congr
          intro z hz
          have : z.born ≠ y.born := fun e => hn.1 (e ▸ List.mem_map_of_mem (f := (·.born)) hz)
          simp [this]
        · have hr : e ∈ r := by rcases List.mem_cons.1 hm with h | h; exact absurd h.symm ey; exact h
          have hb : y.born ≠ e.born := fun eq => hn.1 (eq ▸ List.mem_map_of_mem (f := (·.born)) hr)
          by_cases hy : y.born ∈ seen
          · rw [List.filter_cons, if_neg (by simpa using hy), List.filter_cons, if_neg (by simp [hy])]
            exact ih hn.2 hr
          · rw [List.filter_cons, if_pos (by simpa using hy), List.filter_cons, if_pos (by simp [hy, hb]), List.map_cons, List.map_cons]
            exact ((ih hn.2 hr).cons _).trans (List.Perm.swap _ _ _)
    exact ((key es I.map.born he).symm.trans hp).cons_inv
theorem ItCur.entry {h : H} {it m : Nat} {kvs todo : List (Value × Value)} {x : Value × Value} (I : ItCur h it m kvs todo x) {kt : KT} {ty : Ty0} {K : Tup0 kt.tys → ty.den → HProp} {cs : List Value} {k : Tup0 kt.tys} {v : ty.den}
    (h1 : kt.cells x.1 = some cs) (h2 : tupOf0 kt.tys cs = some k) (h3 : valOf ty x.2 = some v) (hK : K k v h) : entryW it kt ty K h := by
  obtain ⟨es, ck, seen, e, I, he, hl, rfl⟩ := I
  unfold entryW
  simp only [I.it, I.map.blk]
  exact ⟨trivial, I.map.born, e, he, hl, cs, k, v, h1, h2, h3, hK⟩
theorem perm_map_inv {α β : Type} {f : α → β} : ∀ {l : List β} {m : List α}, l.Perm (m.map f) → ∃ m' : List α, m'.Perm m ∧ l = m'.map f
  | [], m, h => by
    have : m = [] := by have := h.length_eq; simp at this; exact List.length_eq_zero_iff.1 this.symm
    subst this; exact ⟨[], List.Perm.refl _, rfl⟩
  | x :: r, m, h => by
    obtain ⟨a, ha, hx⟩ := List.mem_map.1 (h.mem_iff.1 (List.mem_cons_self ..))
    obtain ⟨u, v, rfl⟩ := List.append_of_mem ha
    subst hx
    rw [List.map_append, List.map_cons] at h
    have h2 := (h.trans List.perm_middle).cons_inv
    rw [← List.map_append] at h2
    obtain ⟨m', p, e⟩ := perm_map_inv h2
    exact ⟨a :: m', (p.cons a).trans List.perm_middle.symm, by rw [List.map_cons, e]⟩
theorem MapAt.keysSorted {h : H} {m : Nat} {kvs : List (Value × Value)} (M : MapAt h m kvs) {ks : List (List UInt8)} (hk : kvs.map (·.1) = strs ks) (hl : ∀ k ∈ ks, k.length ≤ 9223372036854775807) (hb : ks.length * 16 ≤ 140737488351232) {B : Nat} {K : Sl → HProp} (hc : h.cell? ⟨B, 0, none⟩ = some (.map (some m)))
    (h1 : ks = [] → K ⟨none, 0, 0⟩ h) (h2 : ks ≠ [] → ∀ (cap' : Nat) (rest : List Value) (b : Nat), ks.length ≤ cap' → rest.length = cap' - ks.length → h b = none → K ⟨some ⟨b, 0, none⟩, ks.length, cap'⟩ (h.set b (.cells (strs (ks.mergeSort leB) ++ rest) true))) : sortedKeysW (some ⟨B, 0, none⟩) K h := by
  obtain ⟨es, ck, M⟩ := M
  refine ⟨B, some m, rfl, hc, ?_⟩
  simp only [M.blk]
  have hp : (es.map (·.key)).Perm (strs ks) := by
    rw [← hk]
    have := M.perm.map (·.1)
    rw [List.map_map] at this
    exact this
  obtain ⟨ks', pk, e⟩ := perm_map_inv hp
  have es' : ks'.mergeSort leB = ks.mergeSort leB := mergeSort_of_perm pk
  have hnil : ks' = [] ↔ ks = [] := ⟨fun h => by subst h; simpa using pk.symm, fun h => by subst h; simpa using pk⟩
  refine ⟨ks', e, ?_, M.born, M.lt, fun k hk => hl k (pk.mem_iff.1 hk), by rw [pk.length_eq]; exact hb, fun h => h1 (hnil.1 h), fun hn cap' rest b hc1 hc2 hb => ?_⟩
  · have := M.keys
    rw [e] at this
    exact (List.pairwise_map.1 this).imp fun {a b} hne e => hne (by rw [e])
  · rw [es', pk.length_eq]
    exact h2 (fun h => hn (hnil.2 h)) cap' rest b (by rw [← pk.length_eq]; exact hc1) (by rw [← pk.length_eq]; exact hc2) hb
end Go.Cz.S
namespace Go.Cz.S
open Go Go.Cz
set_option linter.unusedVariables false
set_option linter.unusedSimpArgs false
theorem ltN_irr (a : ByteArray) : ltN a a = false := by unfold ltN; exact decide_eq_false (List.lt_irrefl _)
theorem ltN_trans {a b c : ByteArray} (h : ltN a b = true) (g : ltN b c = true) : ltN a c = true := by
  unfold ltN at *
  exact decide_eq_true (List.lt_trans (of_decide_eq_true h) (of_decide_eq_true g))
theorem ltN_tri {a b : ByteArray} (h : ltN a b = false) (g : ltN b a = false) : a = b := by
  unfold ltN at *
  apply ba_ext
  exact List.le_antisymm (List.not_lt.1 (of_decide_eq_false g)) (List.not_lt.1 (of_decide_eq_false h))
structure Row where
  nm : ByteArray
  ps : List ByteArray
  v : Sl
def Row.kv (r : Row) : Value × Value := (.string r.nm, .slice r.v.a r.v.len r.v.cap)
def Row.out (r : Row) : ByteArray × List ByteArray := (r.nm, r.ps)
structure FSB (h : H) (f m : Nat) (σ : FSt) (R : List Row) : Prop where
  obj : Obj h f [.int .i64 σ.room, .int .i64 σ.left, .map (some m)]
  map : MapAt h m (R.map Row.kv)
  L : σ.L = R.map Row.out
  vec : ∀ r ∈ R, Vec h r.v eS r.ps ∧ r.ps ≠ [] ∧ ∀ k, r.v.on k → k ≠ f ∧ k ≠ m
  rise : R.Pairwise fun a b => ltN a.nm b.nm = true
  apart : R.Pairwise fun a b => ∀ k, a.v.on k → ¬ b.v.on k
  fm : f ≠ m
def FSB.own (f m : Nat) (R : List Row) : Nat → Prop := fun k => k = f ∨ k = m ∨ ∃ r ∈ R, r.v.on k
def FSAt (h : H) (f : Nat) (σ : FSt) (S : Nat → Prop) : Prop := ∃ m R, FSB h f m σ R ∧ ∀ k, FSB.own f m R k → S k
theorem FSB.fr {h h' : H} {f m : Nat} {σ : FSt} {R : List Row} {T : Nat → Prop} (F : FSB h f m σ R) (g : Fr T h h') (hs : ∀ k, FSB.own f m R k → ¬ T k) : FSB h' f m σ R :=
  ⟨F.obj.fr g (hs f (.inl rfl)), F.map.fr g (hs m (.inr (.inl rfl))), F.L, fun r hr => ⟨(F.vec r hr).1.fr g fun b hb => hs b (.inr (.inr ⟨r, hr, hb⟩)), (F.vec r hr).2⟩, F.rise, F.apart, F.fm⟩
theorem FSAt.fr {h h' : H} {f : Nat} {σ : FSt} {S T : Nat → Prop} (F : FSAt h f σ S) (g : Fr T h h') (hs : ∀ k, S k → ¬ T k) : FSAt h' f σ S := by
  obtain ⟨m, R, F, hS⟩ := F; exact ⟨m, R, F.fr g (fun k hk => hs k (hS k hk)), hS⟩
theorem FSAt.ext {h h' : H} {f : Nat} {σ : FSt} {S : Nat → Prop} (F : FSAt h f σ S) (g : Ext h h') : FSAt h' f σ S := F.fr g fun _ _ h => h
theorem FSB.names {h : H} {f m : Nat} {σ : FSt} {R : List Row} (F : FSB h f m σ R) : (R.map Row.nm).Nodup := by
  refine List.pairwise_map.2 (F.rise.imp fun {a b} h e => ?_)
  rw [e, ltN_irr] at h; cases h
theorem row_of {R : List Row} (hr : R.Pairwise fun a b => ltN a.nm b.nm = true) {r : Row} (h : r ∈ R) : rowsL (R.map Row.out) r.nm = r.ps := by
  unfold rowsL
  induction R with
  | nil => simp at h
  | cons x t ih =>
    rw [List.pairwise_cons] at hr
    rw [List.map_cons, List.find?_cons]
    rcases List.mem_cons.1 h with rfl | h
    · simp [Row.out]
    · have hne : ¬ (x.out.1 = r.nm) := fun e => by
        have := hr.1 r h
        rw [show x.nm = r.nm from e, ltN_irr] at this; cases this
      rw [decide_eq_false hne]
      exact ih hr.2 h
theorem row_none {R : List Row} {nm : ByteArray} (h : ∀ r ∈ R, r.nm ≠ nm) : rowsL (R.map Row.out) nm = [] := by
  unfold rowsL
  have : (R.map Row.out).find? (fun x => decide (x.1 = nm)) = none := by
    rw [List.find?_eq_none]
    intro x hx
    obtain ⟨r, hr, rfl⟩ := List.mem_map.1 hx
    have := h r hr
    simp [Row.out, this]
  rw [this]
theorem fits_rows (R : List Row) : Fits (.one .s) (R.map Row.kv) := by
  intro x hx
  obtain ⟨r, _, rfl⟩ := List.mem_map.1 hx
  rfl
theorem FSB.look {h : H} {f m : Nat} {σ : FSt} {R : List Row} (F : FSB h f m σ R) {nm : ByteArray} {K : Sl → Bool → HProp}
    (h1 : ∀ r ∈ R, r.nm = nm → σ.rows nm = r.ps → K r.v true h) (h2 : (∀ r ∈ R, r.nm ≠ nm) → σ.rows nm = [] → K ⟨none, 0, 0⟩ false h) : lookW .sl (⟨none, 0, 0⟩ : Sl) (some m) (.one .s) (.string nm) K h := by
  refine F.map.look (fits_rows R) rfl ?_ ?_
  · intro v hv
    obtain ⟨r, hr, e⟩ := List.mem_map.1 hv
    unfold Row.kv at e
    simp only [Prod.mk.injEq, Value.string.injEq] at e
    obtain ⟨e1, rfl⟩ := e
    exact ⟨r.v, rfl, h1 r hr e1 (by unfold FSt.rows; rw [F.L, ← e1]; exact row_of F.rise hr)⟩
  · intro hn
    have : ∀ r ∈ R, r.nm ≠ nm := fun r hr e => hn (.slice r.v.a r.v.len r.v.cap) (List.mem_map.2 ⟨r, hr, by rw [Row.kv, e]⟩)
    exact h2 this (by unfold FSt.rows; rw [F.L]; exact row_none this)
def setR (nm : ByteArray) (o : Option Row) (R : List Row) : List Row := R.filter (fun r => ltN r.nm nm) ++ o.toList ++ R.filter (fun r => ltN nm r.nm)
theorem ltN_ne {a b : ByteArray} (h : ltN a b = true) : a ≠ b := fun e => by rw [e, ltN_irr] at h; cases h
theorem ltN_asymm {a b : ByteArray} (h : ltN a b = true) : ltN b a = false := by
  cases e : ltN b a with
  | false => rfl
  | true => have := ltN_trans h e; rw [ltN_irr] at this; cases this
theorem rest_perm (R : List Row) (nm : ByteArray) : (R.filter (fun r => ltN r.nm nm) ++ R.filter (fun r => ltN nm r.nm)).Perm (R.filter fun r => !decide (r.nm = nm)) := by
  induction R with
  | nil => exact List.Perm.refl _
  | cons x t ih =>
    by_cases h1 : ltN x.nm nm = true
    · have h2 := ltN_asymm h1
      have h3 := ltN_ne h1
      simp only [List.filter_cons, h1, h2, h3, decide_false, Bool.not_false, if_true, Bool.false_eq_true, if_false, List.cons_append]
      exact ih.cons _
    · have h1 : ltN x.nm nm = false := by simpa using h1
      by_cases h2 : ltN nm x.nm = true
      · have h3 := (ltN_ne h2).symm
        simp only [List.filter_cons, h1, h2, h3, decide_false, Bool.not_false, if_true, Bool.false_eq_true, if_false]
        exact List.perm_middle.trans (ih.cons _)
      · have h2 : ltN nm x.nm = false := by simpa using h2
        have h3 := ltN_tri h1 h2
        rw [List.filter_cons, if_neg (by simp [h1]), List.filter_cons, if_neg (by simp [h2]), List.filter_cons, if_neg (by simp [h3])]
        exact ih
theorem setR_perm (R : List Row) (nm : ByteArray) (o : Option Row) : (setR nm o R).Perm (o.toList ++ R.filter fun r => !decide (r.nm = nm)) := by
  unfold setR
  refine (List.perm_append_comm.append_right _).trans ?_
  rw [List.append_assoc]
  exact (rest_perm R nm).append_left _
theorem rest_of {R : List Row} (hn : (R.map Row.nm).Nodup) {nm : ByteArray} {v0 : Value} {rest : List (Value × Value)} (hp : (R.map Row.kv).Perm ((.string nm, v0) :: rest)) : rest.Perm ((R.filter fun r => !decide (r.nm = nm)).map Row.kv) := by
  obtain ⟨r0, hr, e⟩ := List.mem_map.1 (hp.mem_iff.2 (List.mem_cons_self ..))
  have e' : r0.nm = nm := by unfold Row.kv at e; simp only [Prod.mk.injEq, Value.string.injEq] at e; exact e.1
  obtain ⟨u, w, rfl⟩ := List.append_of_mem hr
  have h1 : ((u ++ r0 :: w).map Row.kv).Perm (r0.kv :: ((u ++ w).map Row.kv)) := by
    rw [List.map_append, List.map_cons, List.map_append]; exact List.perm_middle
  rw [← e] at hp
  have h2 := (h1.symm.trans hp).cons_inv
  refine h2.symm.trans (List.Perm.of_eq ?_)
  congr 1
  rw [List.map_append, List.map_cons, List.nodup_append, List.nodup_cons] at hn
  obtain ⟨h3, ⟨h4, h5⟩, h6⟩ := hn
  have f1 : u.filter (fun r => !decide (r.nm = nm)) = u := List.filter_eq_self.2 fun x hx => by
    have := h6 x.nm (List.mem_map_of_mem hx) r0.nm (List.mem_cons_self ..)
    rw [← e']; simpa using this
  have f2 : w.filter (fun r => !decide (r.nm = nm)) = w := List.filter_eq_self.2 fun x hx => by
    have : x.nm ≠ r0.nm := fun e => h4 (e ▸ List.mem_map_of_mem hx)
    rw [← e']; simpa using this
  rw [List.filter_append, List.filter_cons, if_neg (by simp [e']), f1, f2]
theorem rest_none {R : List Row} {nm : ByteArray} (h : ∀ v, (Value.string nm, v) ∉ R.map Row.kv) : R.filter (fun r => !decide (r.nm = nm)) = R := by
  refine List.filter_eq_self.2 fun x hx => ?_
  have : x.nm ≠ nm := fun e => h (.slice x.v.a x.v.len x.v.cap) (List.mem_map.2 ⟨x, hx, by rw [Row.kv, e]⟩)
  simpa using this
theorem setR_out {R : List Row} {nm : ByteArray} {r : Row} (hn : r.nm = nm) (hp : r.ps ≠ []) : setL nm r.ps (R.map Row.out) = (setR nm (some r) R).map Row.out := by
  unfold setL setR
  rw [if_neg hp, List.map_append, List.map_append, List.filter_map, List.filter_map]
  subst hn; rfl
theorem setR_out_none {R : List Row} {nm : ByteArray} : setL nm [] (R.map Row.out) = (setR nm none R).map Row.out := by
  unfold setL setR
  rw [if_pos rfl, List.map_append, List.map_append, List.filter_map, List.filter_map]
  rfl
theorem setR_rise {R : List Row} {nm : ByteArray} {o : Option Row} (hr : R.Pairwise fun a b => ltN a.nm b.nm = true) (ho : ∀ r, o = some r → r.nm = nm) : (setR nm o R).Pairwise fun a b => ltN a.nm b.nm = true := by
  unfold setR
  rw [List.pairwise_append, List.pairwise_append]
  refine ⟨⟨hr.filter _, ?_, ?_⟩, hr.filter _, ?_⟩
  · cases o <;> simp
  · intro a ha b hb
    have h1 := (List.mem_filter.1 ha).2
    have := ho b (by simpa using hb)
    rw [this]; exact h1
  · intro a ha b hb
    have h2 := (List.mem_filter.1 hb).2
    rcases List.mem_append.1 ha with ha | ha
    · exact ltN_trans (List.mem_filter.1 ha).2 h2
    · have := ho a (by simpa using ha)
      rw [this]; exact h2
theorem setR_mem {R : List Row} {nm : ByteArray} {o : Option Row} {r : Row} (h : r ∈ setR nm o R) : (r ∈ R ∧ r.nm ≠ nm) ∨ o = some r := by
  unfold setR at h
  rcases List.mem_append.1 h with h | h
  · rcases List.mem_append.1 h with h | h
    · exact .inl ⟨(List.mem_filter.1 h).1, ltN_ne (List.mem_filter.1 h).2⟩
    · exact .inr (by simpa using h)
  · exact .inl ⟨(List.mem_filter.1 h).1, (ltN_ne (List.mem_filter.1 h).2).symm⟩
theorem setR_apart {R : List Row} {nm : ByteArray} {o : Option Row} (hr : R.Pairwise fun a b => ∀ k, a.v.on k → ¬ b.v.on k) (ho : ∀ r, o = some r → ∀ x ∈ R, x.nm ≠ nm → ∀ k, r.v.on k → ¬ x.v.on k)
    (hn : R.Pairwise fun a b => ltN a.nm b.nm = true) : (setR nm o R).Pairwise fun a b => ∀ k, a.v.on k → ¬ b.v.on k := by
  unfold setR
  rw [List.pairwise_append, List.pairwise_append]
  refine ⟨⟨hr.filter _, ?_, ?_⟩, hr.filter _, ?_⟩
  · cases o <;> simp
  · intro a ha b hb k h1 h2
    have ha' := List.mem_filter.1 ha
    exact ho b (by simpa using hb) a ha'.1 (ltN_ne ha'.2) k h2 h1
  · intro a ha b hb k h1 h2
    have hb' := List.mem_filter.1 hb
    rcases List.mem_append.1 ha with ha | ha
    · have ha' := List.mem_filter.1 ha
      -- a stands ahead of b
      have hlt : ltN a.nm b.nm = true := ltN_trans ha'.2 hb'.2
      have p := List.pairwise_iff_getElem.1 hr
      obtain ⟨i, hi, ei⟩ := List.mem_iff_getElem.1 ha'.1
      obtain ⟨j, hj, ej⟩ := List.mem_iff_getElem.1 hb'.1
      rcases Nat.lt_trichotomy i j with h | h | h
      · have := p i j hi hj h k
        rw [ei, ej] at this
        exact this h1 h2
      · subst h
        rw [ei] at ej; subst ej
        rw [ltN_irr] at hlt; cases hlt
      · have := p j i hj hi h k
        rw [ei, ej] at this
        exact this h2 h1
    · exact ho a (by simpa using ha) b hb'.1 (ltN_ne hb'.2).symm k h1 h2
theorem FSB.drop {h : H} {f m : Nat} {σ : FSt} {R : List Row} (F : FSB h f m σ R) {nm : ByteArray} {K : HProp}
    (hK : ∀ h', FSB h' f m (σ.set nm []) (setR nm none R) → Fr (fun k => k = m) h h' → K h') : deleteW (some m) (.one .s) (.string nm) K h := by
  have fin : ∀ h', MapAt h' m ((setR nm none R).map Row.kv) → Fr (fun k => k = m) h h' → K h' := by
    intro h' M g
    refine hK h' ⟨F.obj.fr g F.fm, M, ?_, ?_, setR_rise F.rise (fun r h => by cases h), setR_apart F.apart (fun r h => by cases h) F.rise, F.fm⟩ g
    · show setL nm [] σ.L = _
      rw [F.L]
      exact setR_out_none
    · intro r hr
      rcases setR_mem hr with ⟨hr, _⟩ | hr
      · obtain ⟨h1, h2, h3⟩ := F.vec r hr
        exact ⟨h1.fr g fun b hb => (h3 b hb).2, h2, h3⟩
      · cases hr
  have hp : ((setR nm none R).map Row.kv).Perm ((R.filter fun r => !decide (r.nm = nm)).map Row.kv) := (setR_perm R nm none).map _
  refine F.map.delete (fits_rows R) rfl (fun v0 rest p h' M g => fin h' (M.perm ?_) g) (fun hn => fin h (F.map.perm ?_) (Fr.refl _ _))
  · exact (rest_of F.names p).trans hp.symm
  · rw [rest_none hn] at hp; exact hp.symm
theorem setR_own {f m : Nat} {R : List Row} {nm : ByteArray} {o : Option Row} {k : Nat} (h : FSB.own f m (setR nm o R) k) : FSB.own f m R k ∨ ∃ r, o = some r ∧ r.v.on k := by
  rcases h with h | h | ⟨r, hr, hk⟩
  · exact .inl (.inl h)
  · exact .inl (.inr (.inl h))
  · rcases setR_mem hr with ⟨hr, _⟩ | hr
    · exact .inl (.inr (.inr ⟨r, hr, hk⟩))
    · exact .inr ⟨r, hr, hk⟩
end Go.Cz.S
namespace Go.Cz.S
open Go Go.Cz Go.Cz.Crc
set_option maxRecDepth 10000
set_option linter.unusedSimpArgs false
set_option linter.unusedVariables false
theorem up_spec {x : R} {h : H} {Q : Int → HProp} (hQ : Q (N (up x)) h) : sums_register_up (N x) Q h := by
  unfold sums_register_up
  refine must_i (by decide) ?_
  have h1 : shr .u32 (N x) 1 = N (x >>> 1) := shr_N x 1 (by decide)
  have h2 : andI .u32 (N x) 1 = N (x &&& 1#32) := and_N x 1#32
  have h3 : mul .u32 3988292384 (N (x &&& 1#32)) = N (if x.getLsbD 0 then poly else 0#32) := by
    rw [and1]
    cases x.getLsbD 0 <;> · unfold mul; decide
  rw [h1, h2, h3, xor_N]
  exact hQ
theorem in_spec {x : R} {b : UInt8} {h : H} {Q : Int → HProp} (hQ : Q (N (inb x b)) h) : sums_register_in (N x, (b.toNat : Int)) Q h := by
  unfold sums_register_in sums_register_in_F
  simp only [ltI_eq]
  have e : xorI .u32 (N x) (cnv .u32 (b.toNat : Int)) = N (x ^^^ BitVec.ofNat 32 b.toNat) := by
    have : cnv .u32 (b.toNat : Int) = N (BitVec.ofNat 32 b.toNat) := by
      rw [byte_N]; unfold cnv; exact wrapu (N_bd _).1 (N_bd _).2
    rw [this, xor_N]
  rw [e]
  refine loop_i (fun (s : Int × Int) h2 => 0 ≤ s.2 ∧ s.2 ≤ 8 ∧ h2 = h ∧ ∃ y, s.1 = N y ∧ ups (8 - s.2.toNat) y = inb x b) (fun s => (8 - s.2).toNat) ⟨Int.le_refl _, by show (0 : Int) ≤ 8; decide, rfl, _, rfl, rfl⟩ ?_
  rintro ⟨r, i⟩ h2 ⟨i0, i1, rfl, y, rfl, hy⟩ k hk
  simp only at i0 i1 hy
  refine ite_i (fun e => ?_) (fun e => ?_)
  · have e := of_decide_eq_true e
    simp only at e
    refine up_spec ?_
    rw [add_i64 (by omega) (by omega)]
    refine hk _ _ ⟨by show 0 ≤ i + 1; omega, by show i + 1 ≤ 8; omega, rfl, _, rfl, ?_⟩ (by show (8 - (i + 1)).toNat < (8 - i).toNat; omega)
    rw [← hy]
    show ups (8 - (i + 1).toNat) (up y) = _
    rw [show 8 - i.toNat = (8 - (i + 1).toNat) + 1 by omega]; rfl
  · have e := of_decide_eq_false e
    simp only at e
    have : 8 - i.toNat = 0 := by omega
    rw [this] at hy
    simp only [ups] at hy
    subst hy; exact hQ
theorem drop_cons {z : ByteArray} {i : Nat} (h : i < z.size) : ∃ b, z.data.toList[i]? = some b ∧ z.data.toList.drop i = b :: z.data.toList.drop (i + 1) := by
  have h2 : i < z.data.toList.length := by rw [size_data]; exact h
  exact ⟨z.data.toList[i], by rw [List.getElem?_eq_getElem h2], List.drop_eq_getElem_cons h2⟩
theorem More_spec {c : R} {z : ByteArray} {h : H} {Q : Int → HProp} (hz : z.size ≤ 140737488355328) (hQ : Q (N (more c z)) h) : sums_More (N c, z) Q h := by
  unfold sums_More sums_More_F
  simp only [ltI_eq, not_N]
  refine loop_i (fun (s : Int × Int) h2 => 0 ≤ s.2 ∧ s.2 ≤ z.size ∧ h2 = h ∧ ∃ y, s.1 = N y ∧ goes y (z.data.toList.drop s.2.toNat) = goes (~~~c) z.data.toList) (fun s => (z.size - s.2).toNat) ⟨Int.le_refl _, by show (0 : Int) ≤ z.size; omega, rfl, _, rfl, rfl⟩ ?_
  rintro ⟨r, i⟩ h2 ⟨i0, i1, rfl, y, rfl, hy⟩ k hk
  simp only at i0 i1 hy
  refine ite_i (fun e => ?_) (fun e => ?_)
  · have e := of_decide_eq_true e
    simp only at e
    obtain ⟨b, hb, hd⟩ := drop_cons (z := z) (i := i.toNat) (by omega)
    refine byte_i i0 hb (in_spec ?_)
    rw [add_i64 (by omega) (by omega)]
    refine hk _ _ ⟨by show 0 ≤ i + 1; omega, by show i + 1 ≤ _; omega, rfl, _, rfl, ?_⟩ (by show (z.size - (i + 1)).toNat < (z.size - i).toNat; omega)
    rw [← hy, hd]
    show goes _ (z.data.toList.drop (i + 1).toNat) = _
    rw [show (i + 1).toNat = i.toNat + 1 by omega]; rfl
  · have e := of_decide_eq_false e
    simp only at e
    rw [List.drop_eq_nil_of_le (by rw [size_data]; omega)] at hy
    simp only [goes] at hy
    rw [not_N, hy]; exact hQ
theorem Sum_spec {z : ByteArray} {h : H} {Q : Int → HProp} (hz : z.size ≤ 140737488355328) (hQ : Q (N (crc z)) h) : sums_Sum z Q h := by
  unfold sums_Sum sums_Sum_F
  exact More_spec (c := 0#32) hz hQ
theorem byte_of (x : R) (n : Nat) : cnv .u8 (N (x >>> n)) = ((UInt8.ofNat (x >>> n).toNat).toNat : Int) := by
  unfold cnv N
  simp [IntKind.wrap, IntKind.bits, IntKind.signed]
theorem four_spec {n : R} {Q : ByteArray → HProp} {h : H} (hQ : ∀ h', Ext h h' → Q (mkB [byt n 0, byt n 8, byt n 16, byt n 24]) h') :
    newW [Value.int .u8 (cnv .u8 (N n)), .int .u8 (cnv .u8 (shr .u32 (N n) 8)), .int .u8 (cnv .u8 (shr .u32 (N n) 16)), .int .u8 (cnv .u8 (shr .u32 (N n) 24))]
      (fun b => textW ⟨some ⟨b, 0, none⟩, 4, 4⟩ Q) h := by
  have s8 : shr .u32 (N n) 8 = N (n >>> 8) := shr_N _ 8 (by decide)
  have s16 : shr .u32 (N n) 16 = N (n >>> 16) := shr_N _ 16 (by decide)
  have s24 : shr .u32 (N n) 24 = N (n >>> 24) := shr_N _ 24 (by decide)
  have s0 : cnv .u8 (N n) = ((byt n 0).toNat : Int) := by
    have := byte_of n 0
    simpa [byt] using this
  rw [s8, s16, s24, byte_of, byte_of, byte_of, s0]
  refine new_i (E := eI .u8) (l := bints [byt n 0, byt n 8, byt n 16, byt n 24]) rfl rfl (fun b h1 V _ g => ?_)
  refine V.arr.text ?_
  rw [text_mkB]
  exact hQ _ g
theorem pages_sum_spec {z : ByteArray} (hz : z.size ≤ 140737488355328) {Q : ByteArray → HProp} {h : H} (hQ : ∀ h', Ext h h' → Q (mkB (crc4 z)) h') : pages_sum z Q h := by
  unfold pages_sum pages_sum_F
  refine Sum_spec hz ?_
  exact must_i (by decide) (must_i (by decide) (must_i (by decide) (four_spec hQ)))
theorem two_spec {n : Nat} (hn : n ≤ 122) {Q : ByteArray → HProp} {h : H} (hQ : ∀ h', Ext h h' → Q (mkB [UInt8.ofNat (n / 256), UInt8.ofNat n]) h') :
    newW [Value.int .u8 (cnv .u8 (shr .i64 (n : Int) 8)), .int .u8 (cnv .u8 (n : Int))] (fun b => textW ⟨some ⟨b, 0, none⟩, 2, 2⟩ Q) h := by
  have e1 : cnv .u8 (shr .i64 (n : Int) 8) = ((UInt8.ofNat (n / 256)).toNat : Int) := by
    have : n / 256 = 0 := by omega
    rw [this]
    have : shr .i64 (n : Int) 8 = 0 := by
      unfold shr
      have : (2 : Int) ^ min (8 : Int).toNat IntKind.i64.bits = 256 := by decide
      rw [this]; omega
    rw [this]; simp [cnv, IntKind.wrap, IntKind.bits, IntKind.signed]
  have e2 : cnv .u8 (n : Int) = ((UInt8.ofNat n).toNat : Int) := by
    unfold cnv
    simp only [IntKind.wrap, IntKind.bits, IntKind.signed]
    rw [UInt8.toNat_ofNat']
    simp
  rw [e1, e2]
  refine new_i (E := eI .u8) (l := bints [UInt8.ofNat (n / 256), UInt8.ofNat n]) rfl rfl (fun b h1 V _ g => ?_)
  refine V.arr.text ?_
  rw [text_mkB]
  exact hQ _ g
theorem repeat_i {n : Int} {Q : ByteArray → HProp} {h : H} (h0 : 0 ≤ n) (h1 : n ≤ 1000000) (hQ : Q (mkB (List.replicate n.toNat 0)) h) : repeatW ⟨#[0]⟩ n Q h := by
  refine ⟨h0, by omega, ?_, ?_⟩
  · show 1 * n.toNat ≤ _
    omega
  · have : (List.replicate n.toNat (⟨#[0]⟩ : ByteArray).data.toList).flatten = List.replicate n.toNat 0 := by
      generalize n.toNat = m
      induction m with
      | zero => rfl
      | succ m ih => rw [List.replicate_succ, List.flatten_cons, ih]; rfl
    rw [this]; exact hQ
theorem ba_cat (a b : List UInt8) : mkB a ++ mkB b = mkB (a ++ b) := ba_ext (by rw [app_data, mkB_data, mkB_data, mkB_data])
theorem ba_catR (a : List UInt8) (b : ByteArray) : mkB a ++ b = mkB (a ++ b.data.toList) := ba_ext (by rw [app_data, mkB_data, mkB_data])
theorem pages_Encode_spec {d : ByteArray} (hd : d.size ≤ 1000000) {Q : ByteArray × Int → HProp} {h : H} (hQ : ∀ h', Ext h h' → Q (if d.size ≤ 122 then (pageB d, 0) else (⟨#[]⟩, 3)) h') : pages_Encode d Q h := by
  unfold pages_Encode pages_Encode_F
  simp only [ltI_eq]
  refine ite_i (fun e => ?_) (fun e => ?_)
  · have e := of_decide_eq_true e
    have := hQ h (Ext.refl h)
    rw [if_neg (by omega)] at this
    exact this
  · have e := of_decide_eq_false e
    have hd' : d.size ≤ 122 := by omega
    have hdl : d.data.toList.length = d.size := size_data d
    refine must_i (by decide) (two_spec hd' fun h1 g1 => ?_)
    refine must_i (by rw [mkB_size]; simp; omega) ?_
    rw [ba_catR, mkB_size]
    have el : ([UInt8.ofNat (d.size / 256), UInt8.ofNat d.size] ++ d.data.toList).length = 2 + d.size := by simp [hdl]; omega
    rw [el, sub_i64 (by omega) (by omega)]
    refine repeat_i (by dsimp only; omega) (by dsimp only; omega) ?_
    dsimp only
    refine must_i (by rw [mkB_size, List.length_replicate]; omega) ?_
    have e124 : ((124 : Int) - (2 + d.size : Nat)).toNat = 122 - d.size := by omega
    rw [e124, ba_cat]
    have eb : [UInt8.ofNat (d.size / 256), UInt8.ofNat d.size] ++ d.data.toList ++ List.replicate (122 - d.size) 0 = bodyP d.data.toList := by
      unfold bodyP; rw [hdl]; rfl
    rw [eb]
    have ebl := bodyP_len (d := d.data.toList) (by omega)
    refine pages_sum_spec (by rw [mkB_size, ebl]; decide) fun h2 g2 => ?_
    refine must_i (by rw [mkB_size, mkB_size, ebl, crc4_len]; decide) ?_
    rw [ba_cat]
    have := hQ h2 (g1.trans g2)
    rw [if_pos hd'] at this
    exact this
theorem all_dropWhile {p : UInt8 → Bool} : ∀ {l : List UInt8}, (∀ x ∈ l.dropWhile p, p x = true) → ∀ x ∈ l, p x = true
  | [], _, x, hx => by simp at hx
  | a :: t, h, x, hx => by
    by_cases ha : p a = true
    · rw [List.dropWhile_cons, if_pos ha] at h
      rcases List.mem_cons.1 hx with rfl | hx
      · exact ha
      · exact all_dropWhile h x hx
    · rw [List.dropWhile_cons, if_neg ha] at h
      exact absurd (h a (List.mem_cons_self ..)) ha
theorem dropWhile_nil {p : UInt8 → Bool} : ∀ {l : List UInt8}, l.dropWhile p = [] ↔ ∀ x ∈ l, p x = true
  | [] => by simp
  | a :: t => by
    by_cases ha : p a = true
    · rw [List.dropWhile_cons, if_pos ha, dropWhile_nil (l := t)]
      simp [ha]
    · rw [List.dropWhile_cons, if_neg ha]
      simp [ha]
theorem trimB_nil (l : List UInt8) (c : UInt8) : Lib.trimB l c = [] ↔ l.all (· == c) = true := by
  unfold Lib.trimB Lib.trimLeftB Lib.trimRightB
  rw [dropWhile_nil, List.all_eq_true]
  constructor
  · intro h
    have h1 : ∀ x ∈ l.reverse.dropWhile (· == c), (x == c) = true := fun x hx => h x (by simpa using hx)
    have h2 := all_dropWhile h1
    exact fun x hx => h2 x (by simpa using hx)
  · intro h x hx
    rw [List.mem_reverse] at hx
    have := (List.dropWhile_sublist (· == c) (l := l.reverse)).subset hx
    exact h x (by simpa using this)
theorem trim_i {z : ByteArray} (hz : z.size ≤ 1000000) {Q : ByteArray → HProp} {h : H} (hQ : ∀ r : ByteArray, (r = ⟨#[]⟩ ↔ z.data.toList.all (· == 0) = true) → Q r h) : trimW z ⟨#[0]⟩ Q h := by
  refine ⟨0, rfl, by decide, by omega, hQ _ ?_⟩
  rw [← trimB_nil]
  generalize Lib.trimB z.data.toList 0 = r
  constructor
  · intro e
    have := congrArg (fun z : ByteArray => z.data.toList) e
    simpa using this
  · intro e; rw [e]
theorem many_eq (a b : UInt8) : orI .i64 (shl .i64 (cnv .i64 (a.toNat : Int)) 8) (cnv .i64 (b.toNat : Int)) = ((a.toNat * 256 + b.toNat : Nat) : Int) := by
  have ha := a.toNat_lt
  have hb := b.toNat_lt
  have e1 : cnv .i64 (a.toNat : Int) = (a.toNat : Int) := cnv_i64 (by omega) (by omega)
  have e2 : cnv .i64 (b.toNat : Int) = (b.toNat : Int) := cnv_i64 (by omega) (by omega)
  have e3 : shl .i64 (a.toNat : Int) 8 = ((a.toNat * 256 : Nat) : Int) := by
    unfold shl
    have : (2 : Int) ^ min (8 : Int).toNat IntKind.i64.bits = 256 := by decide
    rw [this, wrap64 (by omega) (by omega)]
    omega
  rw [e1, e2, e3]
  unfold orI
  have e4 : (BitVec.ofInt IntKind.i64.bits ((a.toNat * 256 : Nat) : Int) ||| BitVec.ofInt IntKind.i64.bits (b.toNat : Int)).toNat = a.toNat * 256 + b.toNat := by
    rw [BitVec.toNat_or, BitVec.ofInt_natCast, BitVec.ofInt_natCast, BitVec.toNat_ofNat, BitVec.toNat_ofNat]
    rw [Nat.mod_eq_of_lt (by show _ < 2 ^ 64; omega), Nat.mod_eq_of_lt (by show _ < 2 ^ 64; omega)]
    rw [show a.toNat * 256 = 2 ^ 8 * a.toNat by omega, Nat.two_pow_add_eq_or_of_lt (by omega)]
  rw [e4, wrap64 (by omega) (by omega)]
theorem getD_some {l : List UInt8} {i : Nat} (h : i < l.length) : l[i]? = some (l.getD i 0) := by
  rw [List.getElem?_eq_getElem h, List.getD_eq_getElem?_getD, List.getElem?_eq_getElem h]; rfl
theorem extract_mkB (z : ByteArray) (a b : Nat) : z.extract a b = mkB ((z.data.toList.take b).drop a) := ba_ext (by rw [extract_data, mkB_data])
theorem pages_Decode_spec {p : ByteArray} (hp : p.size ≤ 1000000) {Q : ByteArray × Int → HProp} {h : H} (hQ : ∀ h', Ext h h' → Q (match decP p with | some d => (d, 0) | none => (⟨#[]⟩, 50)) h') : pages_Decode p Q h := by
  unfold pages_Decode pages_Decode_F
  simp only [ltI_eq, eqI_eq]
  have hpl : p.data.toList.length = p.size := size_data p
  have bad : ∀ h', Ext h h' → isPage p.data.toList = false → Q (⟨#[]⟩, 50) h' := fun h' g e => by
    have := hQ h' g
    unfold decP at this
    rw [e] at this
    exact this
  refine with_i (fun (r : Bool) h1 => Ext h h1 ∧ (r = true → isPage p.data.toList = false) ∧ (r = false → p.size = 128 ∧ crc4 (mkB (p.data.toList.take 124)) = p.data.toList.drop 124)) (fun k hk => ?_) ?_
  · refine ite_i (fun e => ?_) (fun e => ?_)
    · refine hk _ _ ⟨Ext.refl _, fun _ => ?_, fun e => by cases e⟩
      have e : ¬ ((p.size : Int) = 128) := by simpa using e
      unfold isPage
      rw [hpl, decide_eq_false (by omega)]; rfl
    · have e : (p.size : Int) = 128 := by simpa using e
      have hsz : p.size = 128 := by omega
      refine cut_i (by decide) (by decide) (by omega) (cut_i (by decide) (by omega) (Int.le_refl _) ?_)
      rw [extract_mkB, extract_mkB]
      refine pages_sum_spec (by rw [mkB_size]; simp; omega) fun h1 g1 => ?_
      rw [eqS_eq]
      refine hk _ _ ⟨g1, fun e => ?_, fun e => ⟨hsz, ?_⟩⟩
      · have e : ¬ (mkB (crc4 (mkB ((p.data.toList.take (124 : Int).toNat).drop (0 : Int).toNat))) = mkB ((p.data.toList.take (p.size : Int).toNat).drop (124 : Int).toNat)) := by simpa using e
        unfold isPage
        have : ¬ (crc4 (mkB (p.data.toList.take 124)) = p.data.toList.drop 124) := fun e2 => e (by
          congr 1
          rw [show (124 : Int).toNat = 124 from rfl, show (0 : Int).toNat = 0 from rfl, List.drop_zero, List.take_of_length_le (i := (p.size : Int).toNat) (by omega)]
          exact e2)
        rw [decide_eq_false this]
        simp
      · have e : mkB (crc4 (mkB ((p.data.toList.take (124 : Int).toNat).drop (0 : Int).toNat))) = mkB ((p.data.toList.take (p.size : Int).toNat).drop (124 : Int).toNat) := by simpa using e
        have := congrArg (fun z : ByteArray => z.data.toList) e
        simp only [mkB_data] at this
        rw [show (124 : Int).toNat = 124 from rfl, show (0 : Int).toNat = 0 from rfl, List.drop_zero, List.take_of_length_le (i := (p.size : Int).toNat) (by omega)] at this
        exact this
  · rintro r h1 ⟨g1, e1, e2⟩
    refine ite_i (fun e => bad _ g1 (e1 e)) (fun e => ?_)
    obtain ⟨hsz, hcrc⟩ := e2 e
    refine byte_i (by decide) (getD_some (by simp; omega)) (must_i (by decide) (byte_i (by decide) (getD_some (by simp; omega)) ?_))
    rw [many_eq]
    have em : (p.data.toList.getD (0 : Int).toNat 0).toNat * 256 + (p.data.toList.getD (1 : Int).toNat 0).toNat = manyP p.data.toList := rfl
    rw [em]
    have hm : manyP p.data.toList ≤ 65535 := by
      unfold manyP
      have h1 := (p.data.toList.getD 0 0).toNat_lt
      have h2 := (p.data.toList.getD 1 0).toNat_lt
      omega
    rw [add_i64 (by omega) (by omega)]
    refine with_i (fun (r : Bool) h2 => Ext h h2 ∧ (r = true → isPage p.data.toList = false) ∧ (r = false → isPage p.data.toList = true ∧ manyP p.data.toList ≤ 122)) (fun k hk => ?_) ?_
    · refine ite_i (fun e => ?_) (fun e => ?_)
      · have e := of_decide_eq_true e
        refine hk _ _ ⟨g1, fun _ => ?_, fun e => by cases e⟩
        unfold isPage
        rw [decide_eq_false (show ¬ manyP p.data.toList ≤ 122 by omega)]
        simp
      · have e := of_decide_eq_false e
        have hm2 : manyP p.data.toList ≤ 122 := by omega
        refine cut_i (by omega) (by omega) (by omega) ?_
        rw [extract_mkB]
        refine trim_i (by rw [mkB_size]; simp; omega) fun r hr => ?_
        rw [eqS_eq]
        have ez : (mkB ((p.data.toList.take (124 : Int).toNat).drop (2 + (manyP p.data.toList : Int)).toNat)).data.toList = (p.data.toList.drop (2 + manyP p.data.toList)).take (122 - manyP p.data.toList) := by
          rw [mkB_data, show (124 : Int).toNat = 124 from rfl, show (2 + (manyP p.data.toList : Int)).toNat = 2 + manyP p.data.toList by omega, List.drop_take]
          congr 1
          omega
        rw [ez] at hr
        have hall : isPage p.data.toList = ((p.data.toList.drop (2 + manyP p.data.toList)).take (122 - manyP p.data.toList)).all (· == 0) := by
          unfold isPage
          rw [hpl, decide_eq_true hsz, decide_eq_true hcrc, decide_eq_true hm2]
          rfl
        refine hk _ _ ⟨g1, fun e => ?_, fun e => ?_⟩
        · have e : ¬ (r = ⟨#[]⟩) := by simpa using e
          rw [hall]
          cases hq : ((p.data.toList.drop (2 + manyP p.data.toList)).take (122 - manyP p.data.toList)).all (· == 0) with
          | false => rfl
          | true => exact absurd (hr.2 hq) e
        · have e : r = ⟨#[]⟩ := by simpa using e
          exact ⟨by rw [hall]; exact hr.1 e, hm2⟩
    · rintro r h2 ⟨g2, e3, e4⟩
      refine ite_i (fun e => bad _ g2 (e3 e)) (fun e => ?_)
      obtain ⟨hpg, hm2⟩ := e4 e
      refine cut_i (by decide) (by omega) (by omega) ?_
      have := hQ _ g2
      unfold decP at this
      rw [if_pos hpg] at this
      rw [extract_mkB]
      have ed : ((p.data.toList.take (2 + (manyP p.data.toList : Int)).toNat).drop (2 : Int).toNat) = dataP p.data.toList := by
        unfold dataP
        rw [show (2 + (manyP p.data.toList : Int)).toNat = 2 + manyP p.data.toList by omega, show (2 : Int).toNat = 2 from rfl, List.drop_take]
        congr 1
        omega
      rw [ed]
      exact this
end Go.Cz.S
namespace Go.Cz.S
open Go Go.Cz Go.Cz.Crc
set_option maxRecDepth 10000
set_option linter.unusedSimpArgs false
set_option linter.unusedVariables false
structure Lst (h0 h : H) (b : Nat) (v : Sl) (l : List ByteArray) : Prop where
  obj : Obj h b [.slice v.a v.len v.cap]
  vec : Vec h v eS l
  new : New h0 v
  ne : ∀ k, v.on k → k ≠ b
  b0 : h0 b = none
  ext : Ext h0 h
theorem loadL_obj {h : H} {b : Nat} {v : Sl} {cs : List Value} (o : Obj h b (.slice v.a v.len v.cap :: cs)) {K : Sl → HProp} (hK : K v h) : loadL ((at0 b).add 0) K h := loadL_i (o.ld rfl) hK
theorem _root_.Go.Cz.Vec.append1 {h0 h : H} {v : Sl} {l : List ByteArray} (V : Vec h v eS l) (n : New h0 v) (g : Ext h0 h) {x : ByteArray} (hl : l.length ≤ 1000000) {K : Sl → HProp}
    (hK : ∀ u h', Vec h' u eS (l ++ [x]) → New h0 u → Ext h0 h' → Fr v.on h h' → (∀ b, u.on b → v.on b ∨ h b = none) → K u h') : appendW v [.string ⟨#[]⟩] 16 1 [.string x] K h := by
  refine Vec.append V (m := [x]) rfl rfl rfl (by omega) fun u h' V' f ub => hK u h' V' ?_ (g.of_new f n) f ub
  intro b hb
  rcases ub b hb with h1 | h1
  · exact n b h1
  · exact g.none h1
theorem list_add_spec {h0 h : H} {b : Nat} {v : Sl} {l : List ByteArray} (S : Lst h0 h b v l) {d : ByteArray} (hd : d.size ≤ 122) (hl : l.length ≤ 1000000) {Q : Unit → HProp} (hQ : ∀ v' h', Lst h0 h' b v' (l ++ [pageB d]) → Q () h') : pages_list_add (some ⟨b, 0, none⟩, d) Q h := by
  unfold pages_list_add pages_list_add_F
  refine pages_Encode_spec (d := d) (by omega) fun h1 g1 => ?_
  rw [if_pos hd]
  refine deref_i ?_
  have o1 := S.obj.ext g1
  refine loadL_obj o1 ?_
  refine (S.vec.ext g1).append1 S.new (S.ext.trans g1) hl fun u h2 V2 n2 g2 f2 ub => ?_
  have o2 : Obj h2 b [.slice v.a v.len v.cap] := o1.fr f2 fun hb => S.ne b hb rfl
  refine deref_i (o2.st (by simp) fun h3 o3 f3 => ?_)
  have hub : ∀ k, u.on k → k ≠ b := fun k hk e => by
    rcases ub k hk with h | h
    · exact S.ne k h e
    · subst e; unfold Obj at o1; rw [h] at o1; cases o1
  exact hQ u h3 ⟨o3, V2.fr f3 fun k hk => hub k hk, n2, hub, S.b0, Ext.of_new g2 f3 fun k hk => by subst hk; exact S.b0⟩
theorem pages_Split_spec {d : ByteArray} (hd : d.size ≤ 1000000) {Q : Sl → HProp} {h : H} (hQ : ∀ v h', Vec h' v eS (splitP d) → New h v → Ext h h' → Q v h') : pages_Split d Q h := by
  unfold pages_Split pages_Split_F
  refine Obj.new fun b h1 o1 hb g1 => ?_
  unfold pages_each
  simp only [ltI_eq]
  have start : Lst h h1 b ⟨none, 0, 0⟩ [] := ⟨o1, Vec.nil0, New.nil0, (fun k hk => by obtain ⟨a, ha, _⟩ := hk; cases ha), hb, g1⟩
  refine loop_i (fun (s : ByteArray) h2 => ∃ v done, Lst h h2 b v (done.map fun l => mkB (pageL l)) ∧ done ++ chunksOf s.data.toList = chunksOf d.data.toList ∧ done.length + s.size ≤ 1000000) (fun s => s.size) ⟨_, [], start, rfl, by simpa using hd⟩ ?_
  rintro s h2 ⟨v, done, S, hc, hn⟩ k hk
  have hsl : s.data.toList.length = s.size := size_data s
  refine ite_i (fun e => ?_) (fun e => ?_)
  · have e := of_decide_eq_true e
    refine cut_i (by decide) (by decide) (by omega) ?_
    rw [extract_mkB]
    have et : (s.data.toList.take (122 : Int).toNat).drop (0 : Int).toNat = s.data.toList.take 122 := rfl
    rw [et]
    refine list_add_spec S (by rw [mkB_size]; simp; omega) (by simp; omega) fun v' h3 S3 => ?_
    refine cut_i (by decide) (by omega) (Int.le_refl _) ?_
    rw [extract_mkB]
    have ed : (s.data.toList.take (s.size : Int).toNat).drop (122 : Int).toNat = s.data.toList.drop 122 := by
      rw [List.take_of_length_le (by omega)]; rfl
    rw [ed]
    refine hk _ _ ⟨v', done ++ [s.data.toList.take 122], ?_, ?_, ?_⟩ ?_
    · rw [List.map_append]
      unfold pageB at S3
      rw [mkB_data] at S3
      exact S3
    · rw [mkB_data, List.append_assoc, List.singleton_append, ← chunksOf_great (by omega)]
      exact hc
    · rw [mkB_size]; simp; omega
    · rw [mkB_size]; simp; omega
  · have e := of_decide_eq_false e
    refine list_add_spec S (by omega) (by simp; omega) fun v' h3 S3 => ?_
    refine loadL_obj S3.obj ?_
    have : splitP d = done.map (fun l => mkB (pageL l)) ++ [pageB s] := by
      unfold splitP
      rw [← hc, chunksOf_small (by omega), List.map_append]; rfl
    rw [← this] at S3
    exact hQ v' h3 S3.vec S3.new S3.ext
theorem put_low {u : Nat} : orI .u8 (cnv .u8 (u : Int)) 128 = ((UInt8.ofNat (u % 128 + 128)).toNat : Int) := by
  have e1 : cnv .u8 (u : Int) = ((u % 256 : Nat) : Int) := by
    unfold cnv
    simp [IntKind.wrap, IntKind.bits, IntKind.signed]
  rw [e1]
  unfold orI
  have hlt : u % 256 < 256 := Nat.mod_lt _ (by decide)
  have key : ∀ x : Fin 256, IntKind.u8.wrap (((BitVec.ofInt IntKind.u8.bits ((x.val : Nat) : Int) ||| BitVec.ofInt IntKind.u8.bits 128).toNat : Nat) : Int) = ((UInt8.ofNat (x.val % 128 + 128)).toNat : Int) := by decide +kernel
  have := key ⟨u % 256, hlt⟩
  simp only at this
  rw [this]
  congr 3
  omega
theorem cnv_low {u : Nat} (h : u < 256) : cnv .u8 (u : Int) = ((UInt8.ofNat u).toNat : Int) := by
  unfold cnv
  simp [IntKind.wrap, IntKind.bits, IntKind.signed]
theorem shr7 (u : Nat) : shr .u64 (u : Int) 7 = ((u / 128 : Nat) : Int) := by
  unfold shr
  have : (2 : Int) ^ min (7 : Int).toNat IntKind.u64.bits = 128 := by decide
  rw [this]; omega
theorem _root_.Go.Cz.Vec.byte1 {h0 h : H} {v : Sl} {l : List UInt8} (V : Vec h v (eI .u8) (bints l)) (n : New h0 v) (g : Ext h0 h) {x : UInt8} (hl : l.length ≤ 1000000) {K : Sl → HProp}
    (hK : ∀ u h', Vec h' u (eI .u8) (bints (l ++ [x])) → New h0 u → Ext h0 h' → K u h') : appendW v [.int .u8 0] 1 1 [.int .u8 (x.toNat : Int)] K h := by
  refine Vec.append V (m := bints [x]) rfl rfl rfl (by rw [bints_len]; omega) fun u h' V' f ub => hK u h' (by rw [bints_app]; exact V') ?_ (g.of_new f n)
  intro b hb
  rcases ub b hb with h1 | h1
  · exact n b h1
  · exact g.none h1
theorem put_spec {u : Nat} (hu : u < 18446744073709551616) {Q : ByteArray → HProp} {h : H} (hQ : ∀ h', Ext h h' → Q (mkB (putN u)) h') : ints_put (u : Int) Q h := by
  unfold ints_put
  simp only [ltI_eq]
  refine with_i (fun (r : Int × Sl) h1 => ∃ (x : Nat) (l : List UInt8), r.1 = x ∧ x < 128 ∧ Vec h1 r.2 (eI .u8) (bints l) ∧ New h r.2 ∧ Ext h h1 ∧ l.length ≤ 10 ∧ l ++ [UInt8.ofNat x] = putN u) (fun k hk => ?_) ?_
  · refine loop_i (fun (s : Int × Sl × Int) h1 => ∃ (x i : Nat) (l : List UInt8), s.1 = x ∧ s.2.2 = i ∧ i ≤ 10 ∧ x < 2 ^ (70 - 7 * i) ∧ Vec h1 s.2.1 (eI .u8) (bints l) ∧ New h s.2.1 ∧ Ext h h1 ∧ l.length = i ∧ l ++ putF (10 - i) x = putN u) (fun s => (10 - s.2.2).toNat)
      ⟨u, 0, [], rfl, rfl, by decide, by omega, Vec.nil0, New.nil0, Ext.refl _, rfl, rfl⟩ ?_
    rintro ⟨x', v, i'⟩ h1 ⟨x, i, l, hx, hi, hi10, hxb, V, n, g, hl, hp⟩ k' hk'
    simp only at hx hi V n
    subst hx; subst hi
    dsimp only
    refine ite_i (fun e => ?_) (fun e => ?_)
    · have e := of_decide_eq_true e
      obtain ⟨j, hj⟩ : ∃ j, 10 - i = j + 1 := ⟨9 - i, by omega⟩
      rw [hj] at hp
      unfold putF at hp
      refine ite_i (fun e2 => ?_) (fun e2 => ?_)
      · have e2 := of_decide_eq_true e2
        rw [if_pos (by omega)] at hp
        exact hk _ _ ⟨x, l, rfl, by omega, V, n, g, by omega, hp⟩
      · have e2 := of_decide_eq_false e2
        rw [if_neg (by omega)] at hp
        rw [put_low]
        refine V.byte1 n g (by omega) fun w h2 V2 n2 g2 => ?_
        refine must_i (by decide) ?_
        rw [shr7, add_i64 (by omega) (by omega)]
        refine hk' _ _ ⟨x / 128, i + 1, l ++ [UInt8.ofNat (x % 128 + 128)], rfl, rfl, by omega, ?_, V2, n2, g2, by simp [hl], ?_⟩ (by show (10 - ((i : Int) + 1)).toNat < (10 - (i : Int)).toNat; omega)
        · rw [Nat.div_lt_iff_lt_mul (by decide)]
          have : 2 ^ (70 - 7 * (i + 1)) * 128 = 2 ^ (70 - 7 * i) := by
            rw [show (128 : Nat) = 2 ^ 7 from rfl, ← Nat.pow_add]; congr 1; omega
          rw [this]; exact hxb
        · rw [List.append_assoc, show 10 - (i + 1) = j by omega]; exact hp
    · have e := of_decide_eq_false e
      have hi : i = 10 := by omega
      subst hi
      refine hk _ _ ⟨x, l, rfl, by simpa using Nat.lt_of_lt_of_le hxb (by decide), V, n, g, by omega, ?_⟩
      exact hp
  · rintro ⟨x', v⟩ h1 ⟨x, l, hx, hxb, V, n, g, hl, hp⟩
    simp only at hx V n
    subst hx
    dsimp only
    rw [cnv_low (by omega)]
    refine V.byte1 n g (by omega) fun w h2 V2 n2 g2 => ?_
    refine V2.arr.text ?_
    rw [hp, text_mkB]
    exact hQ h2 g2
theorem cnvU64 {n : Nat} (h : n < 18446744073709551616) : cnv .u64 (n : Int) = n := by
  unfold cnv
  simp [IntKind.wrap, IntKind.bits, IntKind.signed]; omega
theorem Put_spec {n : Nat} (hn : n ≤ 9223372036854775807) {Q : ByteArray → HProp} {h : H} (hQ : ∀ h', Ext h h' → Q (mkB (putN n)) h') : ints_Put (n : Int) Q h := by
  unfold ints_Put ints_Put_F
  simp only [ltI_eq]
  refine ite_f (decide_eq_false (by omega)) ?_
  rw [cnvU64 (by omega)]
  exact put_spec (by omega) hQ
end Go.Cz.S
namespace Go.Cz.S
open Go Go.Cz Go.Cz.Crc
set_option maxRecDepth 10000
set_option linter.unusedSimpArgs false
set_option linter.unusedVariables false
theorem and127 (b : UInt8) : andI .u8 (b.toNat : Int) 127 = ((b.toNat % 128 : Nat) : Int) := by
  have key : ∀ x : Fin 256, IntKind.u8.wrap (((BitVec.ofInt IntKind.u8.bits ((x.val : Nat) : Int) &&& BitVec.ofInt IntKind.u8.bits 127).toNat : Nat) : Int) = ((x.val % 128 : Nat) : Int) := by decide +kernel
  have := key ⟨b.toNat, b.toNat_lt⟩
  unfold andI
  exact this
theorem wrapU64 {n : Int} (h1 : 0 ≤ n) (h2 : n ≤ 18446744073709551615) : IntKind.u64.wrap n = n := by
  simp [IntKind.wrap, IntKind.bits, IntKind.signed]; omega
theorem orU64 {u v s : Nat} (hu : u < 2 ^ s) (hv : v * 2 ^ s < 18446744073709551616) (hs : s ≤ 63) : orI .u64 (u : Int) (shl .u64 (v : Int) (s : Int)) = ((u + v * 2 ^ s : Nat) : Int) := by
  have e1 : shl .u64 (v : Int) (s : Int) = ((v * 2 ^ s : Nat) : Int) := by
    unfold shl
    have e2 : min (s : Int).toNat IntKind.u64.bits = s := by
      have : IntKind.u64.bits = 64 := rfl
      rw [this]; omega
    rw [e2]
    have e3 : (v : Int) * 2 ^ s = ((v * 2 ^ s : Nat) : Int) := by push_cast; rfl
    rw [e3]
    exact wrapU64 (by omega) (by omega)
  rw [e1]
  unfold orI
  have hu2 : u < 18446744073709551616 := Nat.lt_of_lt_of_le hu (by
    have : 2 ^ s ≤ 2 ^ 63 := Nat.pow_le_pow_right (by decide) hs
    omega)
  have e4 : (BitVec.ofInt IntKind.u64.bits (u : Int) ||| BitVec.ofInt IntKind.u64.bits ((v * 2 ^ s : Nat) : Int)).toNat = u + v * 2 ^ s := by
    rw [BitVec.toNat_or, BitVec.ofInt_natCast, BitVec.ofInt_natCast, BitVec.toNat_ofNat, BitVec.toNat_ofNat]
    rw [Nat.mod_eq_of_lt (by show _ < 2 ^ 64; omega), Nat.mod_eq_of_lt (by show _ < 2 ^ 64; omega)]
    rw [Nat.or_comm, Nat.mul_comm v, ← Nat.two_pow_add_eq_or_of_lt hu, Nat.add_comm]
  rw [e4]
  have hlt : u + v * 2 ^ s < 18446744073709551616 := by
    by_cases h0 : v = 0
    · subst h0; omega
    · -- the sum keeps below the next multiple
      have h1 : u + v * 2 ^ s < (v + 1) * 2 ^ s := by rw [Nat.add_mul]; omega
      have h2 : (v + 1) * 2 ^ s ≤ 2 ^ 64 := by
        have h3 : 2 ^ 64 = 2 ^ (64 - s) * 2 ^ s := by rw [← Nat.pow_add]; congr 1; omega
        rw [h3]
        refine Nat.mul_le_mul_right _ ?_
        have : v * 2 ^ s < 2 ^ (64 - s) * 2 ^ s := by rw [← h3]; exact hv
        have := Nat.lt_of_mul_lt_mul_right this
        omega
      omega
  exact wrapU64 (by omega) (by omega)
def getFA (z : ByteArray) (at_ : Int) : Option (Nat × Nat) := if 0 ≤ at_ ∧ at_ ≤ z.size then getF 0 0 (z.data.toList.drop at_.toNat) else none
theorem get_spec {z : ByteArray} {at_ : Int} (hz : z.size ≤ 1000000) (ha : -1000000 ≤ at_ ∧ at_ ≤ 1000000000) {Q : Int × Int × Bool → HProp} {h : H}
    (h1 : ∀ u n, getFA z at_ = some (u, n) → u < 18446744073709551616 → Q ((u : Int), at_ + n, true) h) (h2 : getFA z at_ = none → ∀ a b, Q (a, b, false) h) : ints_get (z, at_) Q h := by
  unfold ints_get
  simp only [ltI_eq, eqI_eq, minI_eq]
  have hzl : z.data.toList.length = z.size := size_data z
  refine with_i (fun (r : Bool) h' => h' = h ∧ r = !decide (0 ≤ at_ ∧ at_ ≤ z.size)) (fun k hk => ?_) ?_
  · refine ite_i (fun e => ?_) (fun e => ?_)
    · have e := of_decide_eq_true e
      exact hk _ _ ⟨rfl, by rw [decide_eq_false (by omega)]; rfl⟩
    · have e := of_decide_eq_false e
      refine hk _ _ ⟨rfl, ?_⟩
      by_cases hq : (z.size : Int) < at_
      · rw [decide_eq_true hq, decide_eq_false (by omega)]; rfl
      · rw [decide_eq_false hq, decide_eq_true (by omega)]; rfl
  · rintro r h' ⟨rfl, hr⟩
    refine ite_i (fun e => h2 ?_ _ _) (fun e => ?_)
    · rw [hr] at e
      unfold getFA
      rw [if_neg (by simp at e; omega)]
    · rw [hr] at e
      have e : 0 ≤ at_ ∧ at_ ≤ z.size := by simpa using e
      have hg : getFA z at_ = getF 0 0 (z.data.toList.drop at_.toNat) := by unfold getFA; rw [if_pos e]
      rw [hg] at h1 h2
      clear hg
      generalize hG : getF 0 0 (z.data.toList.drop at_.toNat) = G at h1 h2
      refine with_i (fun (_ : PUnit) h'' => h'' = h' ∧ G = none) (fun k hk => ?_) ?_
      · rw [sub_i64 (by omega) (by omega)]
        refine loop_i (fun (s : Int × Int) h'' => h'' = h' ∧ ∃ u i : Nat, s.1 = u ∧ s.2 = i ∧ i ≤ 10 ∧ at_ + i ≤ z.size ∧ u < 2 ^ (7 * i) ∧ getF i u (z.data.toList.drop (at_.toNat + i)) = G) (fun s => (10 - s.2).toNat)
          ⟨rfl, 0, 0, rfl, rfl, by decide, by omega, by decide, hG⟩ ?_
        rintro ⟨u', i'⟩ h'' ⟨rfl, u, i, hu, hi, hi10, hia, hub, hge⟩ k' hk'
        simp only at hu hi
        subst hu; subst hi
        dsimp only
        refine ite_i (fun e => ?_) (fun e => ?_)
        · have e := of_decide_eq_true e
          have hi9 : i < 10 ∧ at_ + i < z.size := by
            split at e <;> omega
          have hlt : at_.toNat + i < z.data.toList.length := by omega
          have hc := getD_some hlt
          generalize z.data.toList.getD (at_.toNat + i) 0 = c at hc
          have hdrop : z.data.toList.drop (at_.toNat + i) = c :: z.data.toList.drop (at_.toNat + i + 1) := by
            rw [List.drop_eq_getElem_cons hlt]
            rw [List.getElem?_eq_getElem hlt] at hc
            rw [Option.some.inj hc]
          rw [add_i64 (by omega) (by omega)]
          refine byte_i (by omega) (by rw [show (at_ + (i : Int)).toNat = at_.toNat + i by omega]; exact hc) ?_
          rw [hdrop] at hge
          have hcl := c.toNat_lt
          refine with_i (fun (r : Bool) h3 => h3 = h'' ∧ r = decide (i = 9 ∧ 1 < c.toNat)) (fun k2 hk2 => ?_) ?_
          · refine ite_i (fun e2 => ?_) (fun e2 => ?_)
            · have e2 := of_decide_eq_true e2
              refine hk2 _ _ ⟨rfl, ?_⟩
              rw [decide_eq_decide]; omega
            · have e2 := of_decide_eq_false e2
              refine hk2 _ _ ⟨rfl, (decide_eq_false (by omega)).symm⟩
          · rintro r2 h3 ⟨rfl, hr2⟩
            unfold getF at hge
            rw [if_neg (by omega)] at hge
            refine ite_i (fun e2 => ?_) (fun e2 => ?_)
            · rw [hr2] at e2
              have e2 := of_decide_eq_true e2
              rw [if_pos e2] at hge
              exact hk _ _ ⟨rfl, hge.symm⟩
            · rw [hr2] at e2
              have e2 := of_decide_eq_false e2
              rw [if_neg e2] at hge
              rw [mul_i64 (by omega) (by omega)]
              refine must_i (by omega) ?_
              rw [and127, cnvU64 (by omega), show (7 : Int) * (i : Int) = ((7 * i : Nat) : Int) by push_cast; rfl]
              have hs63 : 7 * i ≤ 63 := by omega
              have hv : c.toNat % 128 * 2 ^ (7 * i) < 18446744073709551616 := by
                by_cases h9 : i = 9
                · subst h9
                  have : c.toNat ≤ 1 := by omega
                  have : c.toNat % 128 * 2 ^ (7 * 9) ≤ 1 * 2 ^ 63 := Nat.mul_le_mul (by omega) (by decide)
                  omega
                · have h8 : 2 ^ (7 * i) ≤ 2 ^ 56 := Nat.pow_le_pow_right (by decide) (by omega)
                  have : c.toNat % 128 * 2 ^ (7 * i) ≤ 127 * 2 ^ 56 := Nat.mul_le_mul (by omega) h8
                  omega
              rw [orU64 hub hv hs63]
              have hadd : add .i64 (at_ + (i : Int)) 1 = at_ + ((i + 1 : Nat) : Int) := by rw [add_i64 (by omega) (by omega)]; omega
              have hlt2 : u + c.toNat % 128 * 2 ^ (7 * i) < 2 ^ (7 * (i + 1)) ∧ u + c.toNat % 128 * 2 ^ (7 * i) < 18446744073709551616 := by
                have h3 : 2 ^ (7 * (i + 1)) = 128 * 2 ^ (7 * i) := by rw [Nat.mul_add, Nat.pow_add, Nat.mul_comm]
                refine ⟨?_, ?_⟩
                · rw [h3]
                  have h4 : c.toNat % 128 * 2 ^ (7 * i) ≤ 127 * 2 ^ (7 * i) := Nat.mul_le_mul_right _ (by omega)
                  omega
                · by_cases h9 : i = 9
                  · subst h9
                    have h5 : u < 2 ^ 63 := hub
                    have h6 : c.toNat % 128 * 2 ^ (7 * 9) ≤ 1 * 2 ^ 63 := Nat.mul_le_mul (by omega) (by decide)
                    omega
                  · have h8 : 2 ^ (7 * i) ≤ 2 ^ 56 := Nat.pow_le_pow_right (by decide) (by omega)
                    have h7 : c.toNat % 128 * 2 ^ (7 * i) ≤ 127 * 2 ^ 56 := Nat.mul_le_mul (by omega) h8
                    omega
              rw [hadd]
              refine ite_i (fun e3 => ?_) (fun e3 => ?_)
              · have e3 := of_decide_eq_true e3
                have h128 : c.toNat < 128 := by omega
                rw [if_pos h128] at hge
                have hm : c.toNat % 128 = c.toNat := Nat.mod_eq_of_lt h128
                refine with_u ?_
                refine ite_i (fun e4 => ?_) (fun e4 => ?_)
                · have e4 := of_decide_eq_true e4
                  rw [if_pos (.inl (by omega))] at hge
                  have := h1 _ _ hge.symm (by rw [← hm]; exact hlt2.2)
                  rw [← hm] at this
                  exact this
                · have e4 := of_decide_eq_false e4
                  by_cases hi0 : i = 0
                  · subst hi0
                    rw [if_pos (.inr rfl)] at hge
                    have := h1 _ _ hge.symm (by rw [← hm]; exact hlt2.2)
                    rw [← hm] at this
                    exact this
                  · rw [if_neg (by omega)] at hge
                    have : decide ((i : Int) = 0) = false := decide_eq_false (by omega)
                    rw [this]
                    exact h2 hge.symm _ _
              · have e3 := of_decide_eq_false e3
                rw [if_neg (by omega)] at hge
                rw [add_i64 (by omega) (by omega)]
                refine hk' _ _ ⟨rfl, _, i + 1, rfl, rfl, by omega, by omega, hlt2.1, ?_⟩ (by show (10 - ((i : Int) + 1)).toNat < (10 - (i : Int)).toNat; omega)
                exact hge
        · have e := of_decide_eq_false e
          refine hk _ _ ⟨rfl, ?_⟩
          rw [← hge]
          have hor : i = 10 ∨ at_ + i = z.size := by split at e <;> omega
          rcases hor with rfl | hq
          · cases hd : z.data.toList.drop (at_.toNat + 10) with
            | nil => rfl
            | cons c r => unfold getF; rw [if_pos (by decide)]
          · rw [List.drop_of_length_le (by omega)]; rfl
      · rintro _ h'' ⟨rfl, hn⟩
        exact h2 hn _ _
def getA (z : ByteArray) (at_ : Int) : Option (Nat × Nat) := if 0 ≤ at_ ∧ at_ ≤ z.size then getN (z.data.toList.drop at_.toNat) else none
theorem getA_eq (z : ByteArray) (at_ : Int) : getA z at_ = match getFA z at_ with | some (u, n) => if u ≤ 9223372036854775807 then some (u, n) else none | none => none := by
  unfold getA getFA getN
  split <;> rfl
theorem getA_len {z : ByteArray} {at_ : Int} {v n : Nat} (h : getA z at_ = some (v, n)) : 0 ≤ at_ ∧ 0 < n ∧ at_ + n ≤ z.size ∧ v ≤ 9223372036854775807 := by
  unfold getA at h
  split at h
  · rename_i hc
    have := getN_len h
    have hl : (z.data.toList.drop at_.toNat).length = z.size - at_.toNat := by rw [List.length_drop, size_data]
    omega
  · cases h
theorem Get_spec {z : ByteArray} {at_ : Int} (hz : z.size ≤ 1000000) (ha : -1000000 ≤ at_ ∧ at_ ≤ 1000000000) {Q : Int × Int × Bool → HProp} {h : H}
    (hQ : Q (match getA z at_ with | some (v, n) => ((v : Int), at_ + n, true) | none => (0, 0, false)) h) : ints_Get (z, at_) Q h := by
  unfold ints_Get ints_Get_F
  simp only [ltI_eq]
  have bad : getA z at_ = none → Q (0, 0, false) h := fun e => by rw [e] at hQ; exact hQ
  refine get_spec hz ha (fun u n e hu => ?_) (fun e a b => ?_)
  · dsimp only
    by_cases hm : u ≤ 9223372036854775807
    · have eg : getA z at_ = some (u, n) := by rw [getA_eq, e]; simp only []; rw [if_pos hm]
      rw [eg] at hQ
      refine with_i (fun (r : Bool) h' => h' = h ∧ r = false) (fun k hk => ite_f (by rfl) (hk _ _ ⟨rfl, decide_eq_false (by omega)⟩)) ?_
      rintro r h' ⟨rfl, rfl⟩
      refine ite_f rfl ?_
      rw [cnv_i64 (by omega) (by omega)]
      exact hQ
    · have eg : getA z at_ = none := by rw [getA_eq, e]; simp only []; rw [if_neg hm]
      refine with_i (fun (r : Bool) h' => h' = h ∧ r = true) (fun k hk => ite_f (by rfl) (hk _ _ ⟨rfl, decide_eq_true (by omega)⟩)) ?_
      rintro r h' ⟨rfl, rfl⟩
      exact ite_t rfl (bad eg)
  · have eg : getA z at_ = none := by rw [getA_eq, e]
    refine with_i (fun (r : Bool) h' => h' = h ∧ r = true) (fun k hk => ite_t (by rfl) (hk _ _ ⟨rfl, rfl⟩)) ?_
    rintro r h' ⟨rfl, rfl⟩
    exact ite_t rfl (bad eg)
theorem Check_spec {v : Sl} {l : List Int} {h : H} (A : Arr h v (eI .i64) l) (hl : l.length ≤ 1000000) {Q : Int → HProp} (hQ : Q (if rises (-1) l then 0 else 2) h) : gaps_Check v Q h := by
  unfold gaps_Check
  simp only [ltI_eq, leI_eq]
  have hvl := A.len
  refine loop_i (fun (s : Int × Int) h' => h' = h ∧ ∃ i : Nat, s.2 = i ∧ i ≤ l.length ∧ rises s.1 (l.drop i) = rises (-1) l) (fun s => (l.length - s.2).toNat) ⟨rfl, 0, rfl, by omega, rfl⟩ ?_
  rintro ⟨last, i'⟩ h' ⟨rfl, i, hi, hil, hr⟩ k hk
  simp only at hi hr
  subst hi
  dsimp only
  refine ite_i (fun e => ?_) (fun e => ?_)
  · have e := of_decide_eq_true e
    have hlt : i < l.length := by omega
    refine A.index (w := 1) (by omega) (by omega) fun a hs => ?_
    refine loadI_i (A.cell (j := 0) (x := l[i]) hs (by simp [hlt]) rfl) ?_
    rw [List.drop_eq_getElem_cons hlt] at hr
    simp only [rises] at hr
    refine ite_i (fun e2 => ?_) (fun e2 => ?_)
    · have e2 := of_decide_eq_true e2
      rw [decide_eq_false (by omega)] at hr
      rw [← hr] at hQ
      exact hQ
    · have e2 := of_decide_eq_false e2
      rw [decide_eq_true (by omega)] at hr
      rw [add_i64 (by omega) (by omega)]
      exact hk _ _ ⟨rfl, i + 1, rfl, by omega, by simpa using hr⟩ (by show (l.length - ((i : Int) + 1)).toNat < (l.length - (i : Int)).toNat; omega)
  · have e := of_decide_eq_false e
    rw [List.drop_of_length_le (by omega)] at hr
    rw [← hr] at hQ
    exact hQ
end Go.Cz.S
namespace Go.Cz.S
open Go Go.Cz Go.Cz.Crc
set_option maxRecDepth 10000
set_option linter.unusedSimpArgs false
set_option linter.unusedVariables false
theorem _root_.Go.Cz.Vec.int1 {h0 h : H} {v : Sl} {l : List Int} (V : Vec h v (eI .i64) l) (n : New h0 v) (g : Ext h0 h) {x : Int} (hl : l.length ≤ 1000000) {K : Sl → HProp}
    (hK : ∀ u h', Vec h' u (eI .i64) (l ++ [x]) → New h0 u → Ext h0 h' → Fr v.on h h' → K u h') : appendW v [.int .i64 0] 8 1 [.int .i64 x] K h := by
  refine Vec.append V (m := [x]) rfl rfl rfl (by omega) fun u h' V' f ub => hK u h' V' ?_ (g.of_new f n) f
  intro b hb
  rcases ub b hb with h1 | h1
  · exact n b h1
  · exact g.none h1
def listA (z : ByteArray) (at_ : Int) : Option (List Int × Nat) := if 0 ≤ at_ ∧ at_ ≤ z.size then unlist (z.data.toList.drop at_.toNat) else none
theorem ungap_drop : ∀ (k : Nat) (last : Int) (l : List UInt8) (out : List Int) (n : Nat) (r : List Int) (m : Nat), ungap k last l out n = some (r, m) → ∃ q, m = n + q ∧ q ≤ l.length
  | 0, last, l, out, n, r, m, h => by simp [ungap] at h; exact ⟨0, by omega, by omega⟩
  | k + 1, last, l, out, n, r, m, h => by
    unfold ungap at h
    split at h
    · cases h
    · rename_i g q hg
      have := getN_len hg
      split at h
      · cases h
      · obtain ⟨q2, h1, h2⟩ := ungap_drop k _ _ _ _ _ _ h
        rw [List.length_drop] at h2
        exact ⟨q + q2, by omega, by omega⟩
theorem ungap_bd : ∀ (k : Nat) (last : Int) (l : List UInt8) (out : List Int) (n : Nat) (r : List Int) (m : Nat), -1 ≤ last → ungap k last l out n = some (r, m) → ∃ s, r = out ++ s ∧ rises last s = true ∧ s.length = k ∧ ∀ x ∈ s, x ≤ 9223372036854775807
  | 0, last, l, out, n, r, m, _, h => by simp [ungap] at h; exact ⟨[], by simp [h.1], rfl, rfl, by simp⟩
  | k + 1, last, l, out, n, r, m, h0, h => by
    unfold ungap at h
    split at h
    · cases h
    · rename_i g q hg
      have := getN_len hg
      split at h
      · cases h
      · rename_i hc
        obtain ⟨s, h1, h2, h3, h4⟩ := ungap_bd k _ _ _ _ _ _ (by omega) h
        refine ⟨(last + g + 1) :: s, by rw [h1]; simp, ?_, by simp [h3], ?_⟩
        · simp only [rises, Bool.and_eq_true, decide_eq_true_eq]
          exact ⟨by omega, h2⟩
        · intro x hx
          rcases List.mem_cons.1 hx with rfl | hx
          · omega
          · exact h4 x hx
theorem Decode_spec {z : ByteArray} {at_ : Int} (hz : z.size ≤ 1000000) (ha : -1000000 ≤ at_ ∧ at_ ≤ 1000000000) {Q : Sl × Int × Int → HProp} {h : H}
    (h1 : ∀ l n, listA z at_ = some (l, n) → ∀ v h', Vec h' v (eI .i64) l → New h v → Ext h h' → Q (v, at_ + n, 0) h') (h2 : listA z at_ = none → ∀ h', Ext h h' → Q (⟨none, 0, 0⟩, 0, 10) h') : gaps_Decode (z, at_) Q h := by
  unfold gaps_Decode gaps_Decode_F
  simp only [ltI_eq, eqI_eq]
  have hzl : z.data.toList.length = z.size := size_data z
  refine Get_spec hz ha ?_
  cases hg : getA z at_ with
  | none =>
    have bad : listA z at_ = none := by
      unfold listA
      split
      · rename_i hc
        unfold unlist
        unfold getA at hg
        rw [if_pos hc] at hg
        rw [hg]
      · rfl
    refine with_i (fun (r : Bool) h' => h' = h ∧ r = true) (fun k hk => ite_t (by rfl) (hk _ _ ⟨rfl, rfl⟩)) ?_
    rintro r h' ⟨rfl, rfl⟩
    exact ite_t rfl (h2 bad _ (Ext.refl _))
  | some q =>
    obtain ⟨many, m⟩ := q
    have hgl := getA_len hg
    have hsub : sub .i64 ((z.size : Nat) : Int) (at_ + m) = z.size - (at_ + m) := sub_i64 (by omega) (by omega)
    have hl : listA z at_ = if many > (z.data.toList.drop (at_.toNat + m)).length then none else ungap many (-1) (z.data.toList.drop (at_.toNat + m)) [] m := by
      unfold listA
      rw [if_pos (by omega)]
      unfold unlist
      unfold getA at hg
      rw [if_pos (by omega)] at hg
      rw [hg]
      simp only [List.drop_drop]
    have hdl : (z.data.toList.drop (at_.toNat + m)).length = z.size - (at_.toNat + m) := by rw [List.length_drop, hzl]
    dsimp only
    refine with_i (fun (r : Bool) h' => h' = h ∧ r = decide (many > (z.data.toList.drop (at_.toNat + m)).length)) (fun k hk => ite_f (by rfl) (hk _ _ ⟨rfl, ?_⟩)) ?_
    · rw [hsub, decide_eq_decide]; omega
    rintro r h' ⟨rfl, hr⟩
    subst hr
    refine ite_i (fun e => h2 (by rw [hl, if_pos (of_decide_eq_true e)]) _ (Ext.refl _)) (fun e => ?_)
    have e := of_decide_eq_false e
    rw [if_neg e] at hl
    rw [hdl] at e
    generalize hG : listA z at_ = G at hl h1 h2
    refine loop_i (fun (s : Sl × Int × Int × Int) h'' => ∃ (i n : Nat) (out : List Int), s.2.2.2 = i ∧ s.2.1 = at_ + n ∧ i ≤ many ∧ out.length = i ∧ at_ + n ≤ z.size ∧ Vec h'' s.1 (eI .i64) out ∧ New h' s.1 ∧ Ext h' h'' ∧ -1 ≤ s.2.2.1 ∧ s.2.2.1 ≤ 9223372036854775807 ∧
        ungap (many - i) s.2.2.1 (z.data.toList.drop (at_.toNat + n)) out n = G) (fun s => (many - s.2.2.2).toNat)
      ⟨0, m, [], rfl, rfl, by omega, rfl, by omega, Vec.nil0, New.nil0, Ext.refl _, (by show (-1 : Int) ≤ -1; decide), (by show (-1 : Int) ≤ 9223372036854775807; decide), hl.symm⟩ ?_
    rintro ⟨v, nx, last, i'⟩ h'' ⟨i, n, out, hi, hn, him, hol, han, V, nw, g, hl0, hl1, hu⟩ k hk
    simp only at hi hn V nw hl0 hl1 hu
    subst hi; subst hn
    dsimp only
    refine ite_i (fun e2 => ?_) (fun e2 => ?_)
    · have e2 := of_decide_eq_true e2
      obtain ⟨j, hj⟩ : ∃ j, many - i = j + 1 := ⟨many - i - 1, by omega⟩
      rw [hj] at hu
      unfold ungap at hu
      have hgd : getA z (at_ + n) = getN (z.data.toList.drop (at_.toNat + n)) := by
        unfold getA
        rw [if_pos (by omega), show (at_ + (n : Int)).toNat = at_.toNat + n by omega]
      refine Get_spec hz (by omega) ?_
      rw [hgd]
      cases hq : getN (z.data.toList.drop (at_.toNat + n)) with
      | none =>
        rw [hq] at hu
        refine with_i (fun (r : Bool) h3 => h3 = h'' ∧ r = true) (fun k hk => ite_t (by rfl) (hk _ _ ⟨rfl, rfl⟩)) ?_
        rintro r h3 ⟨rfl, rfl⟩
        exact ite_t rfl (h2 hu.symm _ g)
      | some q =>
        obtain ⟨gap, m2⟩ := q
        rw [hq] at hu
        dsimp only at hu ⊢
        have hql := getN_len hq
        rw [List.length_drop, hzl] at hql
        have hsb : sub .i64 9223372036854775806 last = 9223372036854775806 - last := sub_i64 (by omega) (by omega)
        refine with_i (fun (r : Bool) h3 => h3 = h'' ∧ r = decide (last = 9223372036854775807 ∨ (gap : Int) > 9223372036854775806 - last)) (fun k2 hk2 => ite_f (by rfl) ?_) ?_
        · refine ite_i (fun e3 => ?_) (fun e3 => ?_)
          · have e3 := of_decide_eq_true e3
            exact hk2 _ _ ⟨rfl, (decide_eq_true (.inl e3)).symm⟩
          · have e3 := of_decide_eq_false e3
            refine hk2 _ _ ⟨rfl, ?_⟩
            rw [hsb, decide_eq_decide]; omega
        rintro r h3 ⟨rfl, hr⟩
        subst hr
        refine ite_i (fun e3 => ?_) (fun e3 => ?_)
        · have e3 := of_decide_eq_true e3
          rw [if_pos e3] at hu
          exact h2 hu.symm _ g
        · have e3 := of_decide_eq_false e3
          rw [if_neg e3] at hu
          have hb2 : add .i64 last (add .i64 (gap : Int) 1) = last + gap + 1 := by
            by_cases hmx : (gap : Int) + 1 ≤ 9223372036854775807
            · rw [add_i64 (a := (gap : Int)) (by omega) hmx, add_i64 (by omega) (by omega)]; omega
            · have e5 : (gap : Int) = 9223372036854775807 := by omega
              have e6 : last = -1 := by omega
              rw [e5, e6]
              unfold add
              simp [IntKind.wrap, IntKind.bits, IntKind.signed]
          rw [hb2]
          refine V.int1 nw g (by omega) fun w h4 V4 n4 g4 _ => ?_
          rw [add_i64 (by omega) (by omega)]
          refine hk _ _ ⟨i + 1, n + m2, out ++ [last + gap + 1], rfl, by show at_ + (n : Int) + m2 = _; omega, by omega, by simp [hol], by omega, V4, n4, g4, by show -1 ≤ last + gap + 1; omega, by show last + gap + 1 ≤ _; omega, ?_⟩ (by show (many - ((i : Int) + 1)).toNat < (many - (i : Int)).toNat; omega)
          show ungap (many - (i + 1)) (last + gap + 1) (z.data.toList.drop (at_.toNat + (n + m2))) _ _ = G
          rw [show many - (i + 1) = j by omega, ← hu, List.drop_drop, Nat.add_assoc]
    · have e2 := of_decide_eq_false e2
      have hi : many - i = 0 := by omega
      rw [hi] at hu
      unfold ungap at hu
      exact h1 out n hu.symm v h'' V nw g
theorem gapsE_i {v : Sl} {l : List Int} {h : H} (A : Arr h v (eI .i64) l) (hl : l.length ≤ 1000000) (hb : ∀ x ∈ l, -9223372036854775808 ≤ x ∧ x ≤ 9223372036854775806) {Q : ByteArray × Int → HProp}
    (hQ : Q (if rises (-1) l then (mkB (listB l), 0) else (⟨#[]⟩, 2)) h) : gaps_Encode v Q h := by
  unfold gaps_Encode
  refine ⟨l, A.len.symm, A.le, A.nil, hl, hb, ?_, hQ⟩
  have := A.row (w := 1) (K := fun c h' => c = (eI .i64).all l ∧ h' = h) rfl ⟨rfl, rfl⟩
  unfold rowW at this
  obtain ⟨c, h1, _, rfl, _⟩ := this
  rw [eI_all] at h1
  simpa using h1
end Go.Cz.S
namespace Go.Cz.S
open Go Go.Cz Go.Cz.Bits
set_option maxRecDepth 10000
def tabL : ByteArray := ByteArray.mk
              (([0, 1, 2, 2, 3, 3, 3, 3, 4, 4, 4, 4, 4, 4, 4, 4, 5, 5, 5, 5, 5, 5, 5, 5, 5, 5, 5, 5, 5, 5, 5, 5, 6, 6,
                          6, 6, 6, 6, 6, 6, 6, 6, 6, 6, 6, 6, 6, 6, 6, 6, 6, 6, 6, 6, 6, 6, 6, 6, 6, 6, 6, 6, 6,
                          6].append
                      [7, 7, 7, 7, 7, 7, 7, 7, 7, 7, 7, 7, 7, 7, 7, 7, 7, 7, 7, 7, 7, 7, 7, 7, 7, 7, 7, 7, 7, 7, 7, 7,
                        7, 7, 7, 7, 7, 7, 7, 7, 7, 7, 7, 7, 7, 7, 7, 7, 7, 7, 7, 7, 7, 7, 7, 7, 7, 7, 7, 7, 7, 7, 7,
                        7]).append
                  ([8, 8, 8, 8, 8, 8, 8, 8, 8, 8, 8, 8, 8, 8, 8, 8, 8, 8, 8, 8, 8, 8, 8, 8, 8, 8, 8, 8, 8, 8, 8, 8, 8,
                        8, 8, 8, 8, 8, 8, 8, 8, 8, 8, 8, 8, 8, 8, 8, 8, 8, 8, 8, 8, 8, 8, 8, 8, 8, 8, 8, 8, 8, 8,
                        8].append
                    [8, 8, 8, 8, 8, 8, 8, 8, 8, 8, 8, 8, 8, 8, 8, 8, 8, 8, 8, 8, 8, 8, 8, 8, 8, 8, 8, 8, 8, 8, 8, 8, 8,
                      8, 8, 8, 8, 8, 8, 8, 8, 8, 8, 8, 8, 8, 8, 8, 8, 8, 8, 8, 8, 8, 8, 8, 8, 8, 8, 8, 8, 8, 8,
                      8])).toArray
theorem tabL_at : ∀ x : Fin 256, ((tabL.data.toList[x.val]?).map UInt8.toNat) = some (blen x.val) := by decide +kernel
theorem tabL_byte {x : Nat} (hx : x < 256) : ∃ c : UInt8, tabL.data.toList[((x : Int)).toNat]? = some c ∧ c.toNat = blen x := by
  have h := tabL_at ⟨x, hx⟩
  simp only at h
  rw [Int.toNat_natCast]
  cases hc : tabL.data.toList[x]? with
  | none => rw [hc] at h; cases h
  | some c => rw [hc] at h; exact ⟨c, rfl, Option.some.inj h⟩
theorem Len_tail {x s : Nat} {h : H} {Q : Int → HProp} (hx : x < 256) (hs : s ≤ 64) (hQ : Q ((s + blen x : Nat) : Int) h) :
    byteW (cnv .u8 (x : Int)) tabL (fun (c : Int) => Q (add .i64 (s : Int) (cnv .i64 c))) h := by
  obtain ⟨c, e, p⟩ := tabL_byte hx
  have e0 : cnv .u8 (x : Int) = (x : Int) := by
    unfold cnv; simp [IntKind.wrap, IntKind.bits, IntKind.signed]; omega
  rw [e0]
  refine byte_i (by omega) e ?_
  have hb : blen x ≤ 8 := blen_le.2 (by omega)
  rw [p, cnv_i64 (by omega) (by omega), add_n (by omega)]
  exact hQ
theorem Len64_spec {x : Nat} {h : H} {Q : Int → HProp} (hx : x < 18446744073709551616) (hQ : Q (blen x : Int) h) : math_bits_Len64 (x : Int) Q h := by
  unfold math_bits_Len64
  simp only [leI_eq]
  have s32 : shr .u64 (x : Int) 32 = ((x / 2 ^ 32 : Nat) : Int) := shr64 (k := 32) (by decide)
  have sh16 : ∀ y : Nat, shr .u64 (y : Int) 16 = ((y / 2 ^ 16 : Nat) : Int) := fun y => shr64 (k := 16) (by decide)
  have sh8 : ∀ y : Nat, shr .u64 (y : Int) 8 = ((y / 2 ^ 8 : Nat) : Int) := fun y => shr64 (k := 8) (by decide)
  refine with_i (fun (t : Int × Int) h2 => h2 = h ∧ ∃ y s : Nat, t = ((y : Int), (s : Int)) ∧ y < 2 ^ 32 ∧ s ≤ 32 ∧ s + blen y = blen x) (fun k hk => ?_) ?_
  · refine ite_i (fun e => ?_) (fun e => ?_)
    · have e : (4294967296 : Int) ≤ x := of_decide_eq_true e
      refine must_i (by decide) ?_
      rw [s32]
      exact hk _ _ ⟨rfl, x / 2 ^ 32, 32, rfl, by omega, by omega, (blen_shift (k := 32) (by omega)).symm⟩
    · have e := of_decide_eq_false e
      exact hk _ _ ⟨rfl, x, 0, rfl, by omega, by omega, by omega⟩
  rintro ⟨t1, t2⟩ h2 ⟨rfl, y, s, et, hy, hs, hb⟩
  simp only [Prod.mk.injEq] at et
  obtain ⟨rfl, rfl⟩ := et
  dsimp only
  refine with_i (fun (t : Int × Int) h3 => h3 = h2 ∧ ∃ y s : Nat, t = ((y : Int), (s : Int)) ∧ y < 2 ^ 16 ∧ s ≤ 48 ∧ s + blen y = blen x) (fun k hk => ?_) ?_
  · refine ite_i (fun e => ?_) (fun e => ?_)
    · have e : (65536 : Int) ≤ y := of_decide_eq_true e
      refine must_i (by decide) ?_
      rw [sh16, show (16 : Int) = ((16 : Nat) : Int) from rfl, add_n (by omega)]
      refine hk _ _ ⟨rfl, y / 2 ^ 16, s + 16, rfl, by omega, by omega, ?_⟩
      have := blen_shift (n := y) (k := 16) (by omega)
      omega
    · have e := of_decide_eq_false e
      exact hk _ _ ⟨rfl, y, s, rfl, by omega, by omega, hb⟩
  rintro ⟨t1, t2⟩ h3 ⟨rfl, y2, s2, et, hy2, hs2, hb2⟩
  simp only [Prod.mk.injEq] at et
  obtain ⟨rfl, rfl⟩ := et
  dsimp only
  refine with_i (fun (t : Int × Int) h4 => h4 = h3 ∧ ∃ y s : Nat, t = ((y : Int), (s : Int)) ∧ y < 256 ∧ s ≤ 56 ∧ s + blen y = blen x) (fun k hk => ?_) ?_
  · refine ite_i (fun e => ?_) (fun e => ?_)
    · have e : (256 : Int) ≤ y2 := of_decide_eq_true e
      refine must_i (by decide) ?_
      rw [sh8, show (8 : Int) = ((8 : Nat) : Int) from rfl, add_n (by omega)]
      refine hk _ _ ⟨rfl, y2 / 2 ^ 8, s2 + 8, rfl, by omega, by omega, ?_⟩
      have := blen_shift (n := y2) (k := 8) (by omega)
      omega
    · have e := of_decide_eq_false e
      exact hk _ _ ⟨rfl, y2, s2, rfl, by omega, by omega, hb2⟩
  rintro ⟨t1, t2⟩ h4 ⟨rfl, y3, s3, et, hy3, hs3, hb3⟩
  simp only [Prod.mk.injEq] at et
  obtain ⟨rfl, rfl⟩ := et
  refine Len_tail hy3 (by omega) ?_
  rw [hb3]; exact hQ
def widthN (n : Int) : Nat := if n < 0 then 33 else min (blen n.toNat) 33
theorem width_le {n : Int} {w : Nat} (hw : w ≤ 32) : widthN n ≤ w ↔ 0 ≤ n ∧ n < 2 ^ w := by
  unfold widthN
  split
  · omega
  · have := blen_le (n := n.toNat) (w := w)
    have e : ((2 : Int) ^ w) = ((2 ^ w : Nat) : Int) := by simp
    rw [e]
    omega
theorem width_33 (n : Int) : widthN n ≤ 33 := by unfold widthN; split <;> omega
theorem width_spec {n : Int} {h : H} {Q : Int → HProp} (h0 : -9223372036854775808 ≤ n) (h1 : n ≤ 9223372036854775807) (hQ : Q (widthN n : Int) h) : packed_width n Q h := by
  unfold packed_width packed_width_F
  simp only [ltI_eq]
  refine ite_i (fun e => ?_) (fun e => ?_)
  · have e := of_decide_eq_true e
    unfold widthN at hQ; rw [if_pos e] at hQ; exact hQ
  · have e := of_decide_eq_false e
    unfold widthN at hQ; rw [if_neg e] at hQ
    rw [cnv_u64 (by omega) (by omega)]
    unfold math_bits_Len math_bits_Len_F
    conv => arg 1; rw [show n = ((n.toNat : Nat) : Int) by omega]
    refine Len64_spec (by omega) ?_
    rw [minI_eq]
    split
    · rw [Nat.min_eq_right (by omega)] at hQ; exact hQ
    · rw [Nat.min_eq_left (by omega)] at hQ; exact hQ
def wl (l : List Int) : Nat := l.foldl (fun o n => max o (widthN n)) 0
theorem wl_app (l : List Int) (n : Int) : wl (l ++ [n]) = max (wl l) (widthN n) := by simp [wl]
theorem wl_le {l : List Int} {w : Nat} : wl l ≤ w ↔ ∀ n ∈ l, widthN n ≤ w := by
  have : ∀ (l : List Int) (a : Nat), l.foldl (fun o n => max o (widthN n)) a ≤ w ↔ a ≤ w ∧ ∀ n ∈ l, widthN n ≤ w := by
    intro l
    induction l with
    | nil => intro a; simp
    | cons n l ih =>
      intro a
      simp only [List.foldl_cons, ih, List.mem_cons, forall_eq_or_imp]
      rw [Nat.max_le, and_assoc]
  rw [wl, this]; simp
theorem wl_33 (l : List Int) : wl l ≤ 33 := wl_le.2 fun n _ => width_33 n
def I64 (l : List Int) : Prop := ∀ n ∈ l, -9223372036854775808 ≤ n ∧ n ≤ 9223372036854775807
theorem Width_spec {a : Sl} {l : List Int} {h : H} {Q : Int → HProp} (A : Arr h a (eI .i64) l) (hl : l.length ≤ 1000000) (hi : I64 l) (hQ : Q (wl l : Int) h) : packed_Width a Q h := by
  unfold packed_Width packed_Width_F
  have la := A.len
  simp only [ltI_eq]
  refine loop_i (fun (t : Int × Int) h2 => 0 ≤ t.2 ∧ t.2 ≤ l.length ∧ h2 = h ∧ t.1 = (wl (l.take t.2.toNat) : Int)) (fun t => (l.length - t.2).toNat) ⟨Int.le_refl _, by show (0 : Int) ≤ l.length; omega, rfl, rfl⟩ ?_
  rintro ⟨o, i⟩ h2 ⟨i0, i1, rfl, ho⟩ k hk
  simp only at i0 i1 ho
  subst ho
  dsimp only
  refine ite_i (fun e => ?_) (fun e => ?_)
  · have e := of_decide_eq_true e
    have hlt : i.toNat < l.length := by omega
    have hx : l[i.toNat]? = some l[i.toNat] := List.getElem?_eq_getElem hlt
    have hb := hi _ (List.getElem_mem hlt)
    refine A.index i0 (by omega) (fun p hp => ?_)
    have hc := A.cell (j := 0) hp hx rfl
    rw [add0] at hc
    refine loadI_i hc (width_spec hb.1 hb.2 ?_)
    rw [add_i64 (by omega) (by omega)]
    refine hk _ _ ⟨by show 0 ≤ i + 1; omega, by show i + 1 ≤ _; omega, rfl, ?_⟩ (by show (l.length - (i + 1)).toNat < (l.length - i).toNat; omega)
    show maxI _ _ = (wl (l.take (i + 1).toNat) : Int)
    rw [show (i + 1).toNat = i.toNat + 1 by omega, List.take_add_one, hx]
    show _ = (wl (l.take i.toNat ++ [l[i.toNat]]) : Int)
    rw [wl_app, maxI_eq]
    split <;> omega
  · have e := of_decide_eq_false e
    rw [List.take_of_length_le (by omega)]; exact hQ
def catI (w : Nat) (l : List Int) : Nat := cat w (l.map Int.toNat)
structure PS (h0 h : H) (bo bm bh : Nat) (v : Sl) (O : List UInt8) (H : Nat) (m : Int) : Prop where
  om : Obj h bm [.int .i64 m]
  oo : Obj h bo [.slice v.a v.len v.cap]
  oh : Obj h bh [.int .u64 (H : Int)]
  V : Vec h v (eI .u8) (bints O)
  n1 : bo ≠ bm
  n2 : bo ≠ bh
  n3 : bm ≠ bh
  v1 : ¬ v.on bo
  v2 : ¬ v.on bm
  v3 : ¬ v.on bh
  nv : New h0 v
  b1 : h0 bo = none
  b2 : h0 bm = none
  b3 : h0 bh = none
  x : Ext h0 h
theorem PS.setM {h0 h h' : H} {bo bm bh : Nat} {v : Sl} {O : List UInt8} {H : Nat} {m m' : Int} (p : PS h0 h bo bm bh v O H m) (o : Obj h' bm [.int .i64 m']) (f : Fr (fun k => k = bm) h h') : PS h0 h' bo bm bh v O H m' :=
  { p with om := o, oo := p.oo.fr f p.n1, oh := p.oh.fr f (fun e => p.n3 e.symm), V := p.V.fr f (fun b hb e => by subst e; exact p.v2 hb), x := p.x.of_new f (fun b e => by subst e; exact p.b2) }
theorem PS.setH {h0 h h' : H} {bo bm bh : Nat} {v : Sl} {O : List UInt8} {H H' : Nat} {m : Int} (p : PS h0 h bo bm bh v O H m) (o : Obj h' bh [.int .u64 (H' : Int)]) (f : Fr (fun k => k = bh) h h') : PS h0 h' bo bm bh v O H' m :=
  { p with oh := o, oo := p.oo.fr f p.n2, om := p.om.fr f p.n3, V := p.V.fr f (fun b hb e => by subst e; exact p.v3 hb), x := p.x.of_new f (fun b e => by subst e; exact p.b3) }
theorem putP_spec {w' : Int} {h0 h : H} {bo bm bh : Nat} {v : Sl} {O : List UInt8} {H : Nat} {m : Int} {Q : Unit → HProp} (p : PS h0 h bo bm bh v O H m) (hw : 1 ≤ w') (hH : H < 2 ^ m.toNat) (m0 : -8 < m) (m1 : m ≤ 60) (hO : O.length ≤ 1000000)
    (hQ : ∀ h' v' O' H' m', PS h0 h' bo bm bh v' O' H' m' → val O' + 256 ^ O'.length * H' = val O + 256 ^ O.length * H → 8 * (O'.length : Int) + m' = 8 * (O.length : Int) + m → H' < 2 ^ m'.toNat → ¬ (w' ≤ m' ∧ 0 < m') → -8 < m' → (8 ≤ w' → 0 ≤ m → 0 ≤ m') → Q () h') :
    packed_Pack_c1 (w', some (at0 bm), some (at0 bo), some (at0 bh)) Q h := by
  unfold packed_Pack_c1
  refine loop_n (fun n (_ : PUnit) h2 => ∃ v2 O2 H2 m2, PS h0 h2 bo bm bh v2 O2 H2 m2 ∧ n = (m2 + 8).toNat ∧ (8 ≤ w' → 0 ≤ m → 0 ≤ m2) ∧ -8 < m2 ∧ m2 ≤ m ∧ H2 < 2 ^ m2.toNat ∧ val O2 + 256 ^ O2.length * H2 = val O + 256 ^ O.length * H ∧ 8 * (O2.length : Int) + m2 = 8 * (O.length : Int) + m) _
    ⟨v, O, H, m, p, rfl, fun _ h => h, m0, Int.le_refl _, hH, rfl, rfl⟩ ?_
  rintro n s h2 ⟨v2, O2, H2, m2, p2, rfl, m22, m20, m21, hH2, hv, hl⟩ k hk
  simp only [leI_eq, ltI_eq]
  refine with_b (decide (w' ≤ m2 ∧ 0 < m2)) (fun k2 hk2 => ?_) ?_
  · refine deref_i (loadI_i (p2.om.ld0 rfl) (ite_i (fun e => ?_) (fun e => ?_)))
    · have e := of_decide_eq_true e
      refine deref_i (loadI_i (p2.om.ld0 rfl) ?_)
      rw [show decide (0 < m2) = decide (w' ≤ m2 ∧ 0 < m2) by rw [decide_eq_decide]; omega]; exact hk2
    · have e := of_decide_eq_false e
      rw [decide_eq_false (fun h => e h.1)] at hk2; exact hk2
  refine ite_i (fun e => ?_) (fun e => hQ h2 v2 O2 H2 m2 p2 hv hl hH2 (of_decide_eq_false e) m20 m22)
  have e := of_decide_eq_true e
  have hH64 : H2 < 18446744073709551616 := by
    have : 2 ^ m2.toNat ≤ 2 ^ 60 := Nat.pow_le_pow_right (by decide) (by omega)
    omega
  refine deref_i (loadL_i (p2.oo.ld0 rfl) (deref_i (loadI_i (p2.oh.ld0 rfl) ?_)))
  rw [cnv_u8]
  refine p2.V.append_new p2.x p2.nv (m := [((UInt8.ofNat H2).toNat : Int)]) rfl rfl rfl (by rw [bints_len]; omega) ?_
  intro u h3 U x3 nu f3 hu
  have o3 : ∀ {b : Nat} {cs : List Value}, Obj h2 b cs → ¬ v2.on b → Obj h3 b cs := fun o hn => o.fr f3 hn
  have ub : ∀ {b : Nat} {cs : List Value}, Obj h2 b cs → ¬ v2.on b → ¬ u.on b := by
    intro b cs o hn h
    rcases hu b h with h | h
    · exact hn h
    · unfold Obj at o; rw [h] at o; cases o
  refine deref_i ((o3 p2.oo p2.v1).st0 (by show 0 < 1; decide) fun h4 o4 f4 => ?_)
  have p4 : PS h0 h4 bo bm bh u (O2 ++ [UInt8.ofNat H2]) H2 m2 :=
    { om := (o3 p2.om p2.v2).fr f4 (fun e => p2.n1 e.symm), oo := o4, oh := (o3 p2.oh p2.v3).fr f4 (fun e => p2.n2 e.symm), V := by
        rw [bints_app]
        exact U.fr f4 (fun b hb e => by subst e; exact ub p2.oo p2.v1 hb)
      n1 := p2.n1, n2 := p2.n2, n3 := p2.n3, v1 := ub p2.oo p2.v1, v2 := ub p2.om p2.v2, v3 := ub p2.oh p2.v3, nv := nu, b1 := p2.b1, b2 := p2.b2, b3 := p2.b3
      x := x3.of_new f4 (fun b e => by subst e; exact p2.b1) }
  refine deref_i (loadI_i (p4.oh.ld0 rfl) (must_i (by decide) (deref_i ?_)))
  rw [show (8 : Int) = ((8 : Nat) : Int) from rfl, shr64 (by decide)]
  refine p4.oh.st0 (by show 0 < 1; decide) fun h5 o5 f5 => ?_
  have p5 := p4.setH (H' := H2 / 2 ^ 8) o5 f5
  refine deref_i (loadI_i (p5.om.ld0 rfl) (deref_i ?_))
  rw [show ((8 : Nat) : Int) = 8 from rfl, sub_i64 (by omega) (by omega)]
  refine p5.om.st0 (by show 0 < 1; decide) fun h6 o6 f6 => ?_
  have p6 := p5.setM o6 f6
  refine hk _ _ _ ?_ ⟨u, _, _, _, p6, rfl, by omega, by omega, by omega, ?_, ?_, ?_⟩
  · omega
  · by_cases h8 : 8 ≤ m2
    · have e8 : 2 ^ m2.toNat = 2 ^ (m2 - 8).toNat * 2 ^ 8 := by rw [← Nat.pow_add]; congr 1; omega
      rw [e8] at hH2
      exact (Nat.div_lt_iff_lt_mul (by decide)).2 hH2
    · have : 2 ^ m2.toNat ≤ 2 ^ 8 := Nat.pow_le_pow_right (by decide) (by omega)
      rw [Nat.div_eq_of_lt (by omega)]
      exact Nat.pow_pos (by decide)
  · rw [val_append, ← hv]
    simp only [List.length_append, List.length_cons, List.length_nil, val, Nat.mul_zero, Nat.add_zero]
    rw [ofNat_mod, Nat.zero_add, Nat.pow_succ, Nat.mul_assoc, Nat.add_assoc, ← Nat.mul_add]
    congr 2
    omega
  · simp only [List.length_append, List.length_cons, List.length_nil]
    omega
def packB (w : Nat) (l : List Int) : ByteArray := mkB (Bits.bytes ((l.length * w + 7) / 8) (catI w l))
def packR (l : List Int) (w : Int) : ByteArray × Int := if w < 0 ∨ 32 < w ∨ w < wl l then (⟨#[]⟩, 2) else (packB w.toNat l, 0)
theorem catI_take {w : Nat} {l : List Int} {i : Nat} {n : Int} (h : l[i]? = some n) : catI w (l.take (i + 1)) = catI w (l.take i) + 2 ^ (i * w) * n.toNat := by
  have hi := (List.getElem?_eq_some_iff.1 h).1
  rw [List.take_add_one, h]
  unfold catI
  rw [List.map_append, cat_app]
  simp only [List.length_map, List.length_take, Nat.min_eq_left (Nat.le_of_lt hi), Option.toList_some, List.map_cons, List.map_nil, cat, Nat.mul_zero, Nat.add_zero]
theorem Pack_spec {a : Sl} {l : List Int} {w : Int} {h : H} {Q : ByteArray × Int → HProp} (A : Arr h a (eI .i64) l) (hl : l.length ≤ 65536) (hi : I64 l) (hQ : ∀ h', Ext h h' → Q (packR l w) h') : packed_Pack (a, w) Q h := by
  unfold packed_Pack packed_Pack_F
  have la := A.len
  simp only [ltI_eq]
  refine with_b (decide (w < 0 ∨ 32 < w ∨ w < wl l)) (fun k hk => ?_) ?_
  · refine ite_i (fun e => ?_) (fun e1 => ite_i (fun e => ?_) (fun e2 => Width_spec A (by omega) hi ?_))
    · rw [decide_eq_true (.inl (of_decide_eq_true e))] at hk; exact hk
    · rw [decide_eq_true (.inr (.inl (of_decide_eq_true e)))] at hk; exact hk
    · have e1 := of_decide_eq_false e1
      have e2 := of_decide_eq_false e2
      rw [show decide (w < (wl l : Int)) = decide (w < 0 ∨ 32 < w ∨ w < wl l) by rw [decide_eq_decide]; omega]; exact hk
  refine ite_i (fun e => ?_) (fun e => ?_)
  · have := hQ h (Ext.refl h)
    unfold packR at this; rw [if_pos (of_decide_eq_true e)] at this; exact this
  have e := of_decide_eq_false e
  refine ite_f (decide_eq_false (by omega)) ?_
  have hwl : wl l ≤ w.toNat := by omega
  refine Obj.new fun bo h1 o1 n1 x1 => Obj.new fun bh h2 o2 n2 x2 => Obj.new fun bm h3 o3 n3 x3 => ?_
  have d1 : bo ≠ bh := by rintro rfl; unfold Obj at o1; rw [n2] at o1; cases o1
  have d2 : bh ≠ bm := by rintro rfl; unfold Obj at o2; rw [n3] at o2; cases o2
  have d3 : bo ≠ bm := by rintro rfl; have := o1.ext x2; unfold Obj at this; rw [n3] at this; cases this
  have p3 : PS h h3 bo bm bh ⟨none, 0, 0⟩ [] 0 0 := { om := o3, oo := (o1.ext x2).ext x3, oh := o2.ext x3, V := Vec.nil0, n1 := d3, n2 := d1, n3 := fun e => d2 e.symm, v1 := by (rintro ⟨_, h, _⟩; cases h), v2 := by (rintro ⟨_, h, _⟩; cases h), v3 := by (rintro ⟨_, h, _⟩; cases h), nv := New.nil0, b1 := n1, b2 := x1.none (x2.none n3), b3 := x1.none n2, x := (x1.trans x2).trans x3 }
  refine p3.oh.st0 (v := .int .u64 0) (by show 0 < 1; decide) fun h4 o4 f4 => ?_
  have p4 := p3.setH (H' := 0) o4 f4
  refine p4.om.st0 (v := .int .i64 0) (by show 0 < 1; decide) fun h5 o5 f5 => ?_
  have p5 := p4.setM (m' := 0) o5 f5
  refine loop_i (fun (i : Int) h6 => 0 ≤ i ∧ i ≤ l.length ∧ ∃ v O H m, PS h h6 bo bm bh v O H m ∧ 0 ≤ m ∧ m < 8 ∧ H < 2 ^ m.toNat ∧ val O + 256 ^ O.length * H = catI w.toNat (l.take i.toNat) ∧ 8 * (O.length : Int) + m = i.toNat * w.toNat) (fun i => (l.length - i).toNat)
    ⟨Int.le_refl _, by omega, _, [], 0, 0, p5, Int.le_refl _, by decide, by decide, by simp [val, catI, cat], by simp⟩ ?_
  rintro i h6 ⟨i0, i1, v, O, H, m, p6, m0, m1, hH, hv, hm⟩ k hk
  have hOl : ∀ j : Nat, (j : Int) ≤ l.length → (j : Int) * w.toNat ≤ 65536 * 32 := by
    intro j hj
    have := Int.mul_le_mul (show (j : Int) ≤ 65536 by omega) (show (w.toNat : Int) ≤ 32 by omega) (by omega) (by omega)
    omega
  have hO1 := hOl i.toNat (by omega)
  refine ite_i (fun e2 => ?_) (fun e2 => ?_)
  · have e2 := of_decide_eq_true e2
    have hlt : i.toNat < l.length := by omega
    have hx : l[i.toNat]? = some l[i.toNat] := List.getElem?_eq_getElem hlt
    have hb := (width_le (by omega)).1 (wl_le.1 hwl _ (List.getElem_mem hlt))
    have htk := catI_take (w := w.toNat) hx
    generalize hn : l[i.toNat] = n at hx hb htk
    have hn2 : n.toNat < 2 ^ w.toNat := by
      have e : ((2 : Int) ^ w.toNat) = ((2 ^ w.toNat : Nat) : Int) := by simp
      rw [e] at hb; omega
    refine (A.ext p6.x).index i0 (by omega) (fun q hq => ?_)
    have hc := (A.ext p6.x).cell (j := 0) hq hx rfl
    rw [add0] at hc
    refine loadI_i hc (loadI_i (p6.oh.ld0 rfl) (loadI_i (p6.om.ld0 rfl) (must_i m0 ?_)))
    have b1 : n.toNat * 2 ^ m.toNat < 2 ^ (w.toNat + m.toNat) := by
      rw [Nat.pow_add]; exact Nat.mul_lt_mul_of_pos_right hn2 (Nat.pow_pos (by decide))
    have b2 : 2 ^ (w.toNat + m.toNat) ≤ 2 ^ 40 := Nat.pow_le_pow_right (by decide) (by omega)
    have b3 : 2 ^ m.toNat ≤ 2 ^ 8 := Nat.pow_le_pow_right (by decide) (by omega)
    have es : orI .u64 (H : Int) (shl .u64 (cnv .u64 n) m) = ((H + n.toNat * 2 ^ m.toNat : Nat) : Int) := by
      have b4 : n < 18446744073709551616 := by
        have : 2 ^ w.toNat ≤ 2 ^ 32 := Nat.pow_le_pow_right (by decide) (by omega)
        omega
      rw [cnv_u64 hb.1 b4]
      conv => lhs; arg 3; rw [show n = ((n.toNat : Nat) : Int) by omega, show m = ((m.toNat : Nat) : Int) by omega]
      rw [shl64 (by omega) (by omega), or64 hH (by omega)]
    rw [es]
    refine p6.oh.st0 (by show 0 < 1; decide) fun h7 o7 f7 => ?_
    have p7 := p6.setH o7 f7
    refine loadI_i (p7.om.ld0 rfl) ?_
    rw [add_i64 (by omega) (by omega)]
    refine p7.om.st0 (by show 0 < 1; decide) fun h8 o8 f8 => ?_
    have p8 := p7.setM o8 f8
    have hH8 : H + n.toNat * 2 ^ m.toNat < 2 ^ (m + w).toNat := by
      rw [show (m + w).toNat = w.toNat + m.toNat by omega, Nat.pow_add]
      have : (n.toNat + 1) * 2 ^ m.toNat ≤ 2 ^ w.toNat * 2 ^ m.toNat := Nat.mul_le_mul_right _ hn2
      rw [Nat.add_mul] at this; omega
    refine putP_spec p8 (by decide) hH8 (by omega) (by omega) (by omega) fun h9 v9 O9 H9 m9 p9 hv9 hm9 hH9 hx9 hg9 hn9 => ?_
    rw [add_i64 (by omega) (by omega)]
    have h9' : 0 ≤ m9 := hn9 (by decide) (by omega)
    refine hk _ _ ⟨by omega, by omega, v9, O9, H9, m9, p9, h9', by omega, hH9, ?_, ?_⟩ (by omega)
    · rw [hv9, show (i + 1).toNat = i.toNat + 1 by omega, htk, ← hv, Nat.mul_add, ← Nat.add_assoc]
      congr 1
      have e8 : i.toNat * w.toNat = 8 * O.length + m.toNat := by
        have : ((i.toNat * w.toNat : Nat) : Int) = 8 * (O.length : Int) + m := by rw [hm]; simp
        omega
      rw [e8, Nat.pow_add, pow256, Nat.mul_comm n.toNat, Nat.mul_assoc]
    · rw [hm9, show (i + 1).toNat = i.toNat + 1 by omega]
      have : ((i.toNat + 1 : Nat) : Int) * (w.toNat : Int) = (i.toNat : Int) * w.toNat + w.toNat := by rw [Int.natCast_add, Int.add_mul]; simp
      rw [this, ← hm]; omega
  · have e2 := of_decide_eq_false e2
    have hil : i.toNat = l.length := by omega
    rw [hil] at hm hv
    rw [List.take_length] at hv
    refine putP_spec p6 (by decide) hH (by omega) (by omega) (by rw [hil] at hO1; omega) fun h9 v9 O9 H9 m9 p9 hv9 hm9 hH9 hx9 hg9 _ => ?_
    refine loadL_i (p9.oo.ld0 rfl) (p9.V.arr.text ?_)
    have hz : H9 = 0 := by
      have : m9.toNat = 0 := by omega
      rw [this] at hH9; omega
    subst hz
    have hlen : O9.length = (l.length * w.toNat + 7) / 8 := by
      have : ((l.length * w.toNat : Nat) : Int) = 8 * (O9.length : Int) + m9 := by rw [hm9, hm]; simp
      omega
    have hO9 : O9 = Bits.bytes ((l.length * w.toNat + 7) / 8) (catI w.toNat l) := by
      rw [← hlen, ← hv, ← hv9, Nat.mul_zero, Nat.add_zero, bytes_val]
    have := hQ h9 p9.x
    unfold packR packB at this
    rw [if_neg e, ← hO9] at this
    rw [text_mkB]; exact this
end Go.Cz.S
namespace Go.Cz.S
open Go Go.Cz Go.Cz.Crc
set_option maxRecDepth 10000
set_option linter.unusedSimpArgs false
set_option linter.unusedVariables false
def Nr (h h' : H) : Prop := ∀ k c wr, h k = some (.cells c wr) → h' k = some (.cells c wr)
theorem Nr.refl (h : H) : Nr h h := fun _ _ _ e => e
theorem Nr.ext {a b : H} (e : Ext a b) : Nr a b := fun k c wr h => e k _ h fun h => h
theorem _root_.Go.Cz.Vec.nr {α : Type} {h h' : H} {v : Sl} {E : Enc α} {l : List α} (A : Vec h v E l) (f : Nr h h') : Vec h' v E l := by
  refine ⟨A.len, A.le, A.nil, fun a ha => ?_⟩
  obtain ⟨h1, c, h2, h3⟩ := A.blk a ha
  exact ⟨h1, c, f _ _ _ h2, h3⟩
theorem _root_.Go.Cz.Arr.nr {α : Type} {h h' : H} {v : Sl} {E : Enc α} {l : List α} (A : Arr h v E l) (f : Nr h h') : Arr h' v E l := by
  refine ⟨A.len, A.le, A.nil, fun a ha hl => ?_⟩
  obtain ⟨h1, c, wr, h2, h3⟩ := A.blk a ha hl
  exact ⟨h1, c, wr, f _ _ _ h2, h3⟩
def Bld (h0 h : H) (b : Nat) (t : List UInt8) : Prop := ∃ q v, BldAt 135 5 h b q v t ∧ h0 b = none ∧ ∀ g, v.on g → h0 g = none
theorem Bld.ext {h0 h h' : H} {b : Nat} {t : List UInt8} (B : Bld h0 h b t) (e : Ext h h') : Bld h0 h' b t := by
  obtain ⟨q, v, B, h1, h2⟩ := B
  refine ⟨q, v, ⟨e b _ B.blk fun h => h, B.own, B.len, ?_⟩, h1, h2⟩
  rcases B.buf with h | ⟨g, rest, e1, e2, e3, e4⟩
  · exact .inl h
  · exact .inr ⟨g, rest, e1, e2, e g _ e3 fun h => h, e4⟩
theorem bld_new {h0 h : H} (g : Ext h0 h) {K : Nat → HProp} (hK : ∀ b h', Bld h0 h' b [] → Ext h h' → K b h') : newRawW 135 [.pointer none, .slice none 0 0] K h := by
  unfold newRawW
  intro b hb
  exact hK b _ ⟨none, ⟨none, 0, 0⟩, ⟨set_same _ _ _, .inl rfl, rfl, .inl ⟨rfl, rfl, rfl⟩⟩, g.none hb, fun k hk => by obtain ⟨a, ha, _⟩ := hk; cases ha⟩ (Ext.set hb)
theorem bld_write {h0 h : H} {b : Nat} {t : List UInt8} (B : Bld h0 h b t) (g : Ext h0 h) {s : ByteArray} (hb : t.length + s.size ≤ 140737488355328) {K : Int × Unit → HProp}
    (hK : ∀ h', Bld h0 h' b (t ++ s.data.toList) → Ext h0 h' → Nr h h' → K (s.size, ()) h') : strings_Builder_WriteString (some ⟨b, 0, none⟩, s) K h := by
  obtain ⟨q, v, B, n1, n2⟩ := B
  unfold strings_Builder_WriteString
  have hsl : s.data.toList.length = s.size := size_data s
  refine ⟨b, q, v, t, rfl, B, hb, fun hva hs0 => ?_, fun gb rest hva hg hle => ?_, fun gb rest hg => ?_⟩
  · have hs0 : s.size = 0 := hs0
    have ht : s.data.toList = [] := List.length_eq_zero_iff.1 (by omega)
    refine hK _ ⟨some ⟨b, 0, none⟩, v, ⟨set_same _ _ _, .inr rfl, by rw [ht, List.append_nil]; exact B.len, ?_⟩, n1, n2⟩ (Ext.of_new g Fr.set fun k hk => by subst hk; exact n1) ?_
    · rcases B.buf with ⟨e1, e2, e3⟩ | ⟨g', rest, e1, _⟩
      · exact .inl ⟨e1, e2, by rw [ht, e3]; rfl⟩
      · rw [hva] at e1; cases e1
    · intro k c wr e
      have : k ≠ b := fun e2 => by subst e2; rw [B.blk] at e; cases e
      simp [H.set, this, e]
  · have hle : s.size ≤ rest.length := hle
    have hgb : gb ≠ b := by
      rcases B.buf with ⟨e1, _⟩ | ⟨g', rest', e1, e2, _⟩
      · rw [hva] at e1; cases e1
      · rw [hva] at e1; cases e1; exact e2
    have hcap : v.cap = t.length + rest.length := by
      rcases B.buf with ⟨e1, _⟩ | ⟨g', rest', e1, e2, e3, e4⟩
      · rw [hva] at e1; cases e1
      · rw [hva] at e1; cases e1
        rw [hg] at e3
        have := congrArg (fun x : Option Blk => match x with | some (.raw _ c) => c.length | _ => 0) e3
        simp [u8s] at this
        omega
    refine hK _ ⟨some ⟨b, 0, none⟩, ⟨v.a, v.len + s.size, v.cap⟩, ⟨set_same _ _ _, .inr rfl, by rw [List.length_append, hsl, B.len], .inr ⟨gb, rest.drop s.size, hva, hgb, ?_, ?_⟩⟩, n1, n2⟩ ?_ ?_
    · rw [show ((h.set gb _).set b _) gb = (h.set gb _) gb from if_neg hgb]
      exact set_same _ _ _
    · simp [hsl]; omega
    · refine Ext.of_new (Ext.of_new g Fr.set fun k hk => ?_) Fr.set fun k hk => by subst hk; exact n1
      subst hk; exact n2 _ ⟨_, hva, rfl⟩
    · intro k c wr e
      have k1 : k ≠ b := fun e2 => by subst e2; rw [B.blk] at e; cases e
      have k2 : k ≠ gb := fun e2 => by subst e2; rw [hg] at e; cases e
      simp [H.set, k1, k2, e]
  · have hgb : gb ≠ b := fun e => by subst e; have := B.blk; rw [hg] at this; cases this
    refine hK _ ⟨some ⟨b, 0, none⟩, ⟨some ⟨gb, 0, none⟩, v.len + s.size, v.len + s.size + rest.length⟩, ⟨set_same _ _ _, .inr rfl, by rw [List.length_append, hsl, B.len], .inr ⟨gb, rest, rfl, hgb, ?_, ?_⟩⟩, n1, ?_⟩ ?_ ?_
    · rw [show ((h.set gb _).set b _) gb = (h.set gb _) gb from if_neg hgb]
      exact set_same _ _ _
    · rw [List.length_append, hsl, B.len]
    · rintro k ⟨a, ha, rfl⟩
      cases ha; exact g.none hg
    · refine Ext.of_new (Ext.of_new g Fr.set fun k hk => ?_) Fr.set fun k hk => by subst hk; exact n1
      subst hk; exact g.none hg
    · intro k c wr e
      have k1 : k ≠ b := fun e2 => by subst e2; rw [B.blk] at e; cases e
      have k2 : k ≠ gb := fun e2 => by subst e2; rw [hg] at e; cases e
      simp [H.set, k1, k2, e]
theorem bld_str {h0 h : H} {b : Nat} {t : List UInt8} (B : Bld h0 h b t) (g : Ext h0 h) (ht : t.length ≤ 140737488355328) {K : ByteArray → HProp}
    (hK : ∀ h', Ext h0 h' → Nr h h' → K (mkB t) h') : strings_Builder_String (some ⟨b, 0, none⟩) K h := by
  obtain ⟨q, v, B, n1, n2⟩ := B
  unfold strings_Builder_String
  refine ⟨b, q, v, t, rfl, B, ht, fun e => ?_, fun gb rest hne hva hg => ?_⟩
  · subst e; exact hK h g (Nr.refl h)
  · refine hK _ (Ext.of_new g Fr.set fun k hk => by subst hk; exact n2 _ ⟨_, hva, rfl⟩) ?_
    intro k c wr e
    have k2 : k ≠ gb := fun e2 => by subst e2; rw [hg] at e; cases e
    simp [H.set, k2, e]
def Rows2 (h : H) (v : Sl) (out : List (List Int)) : Prop := ∃ svs : List Sl, Arr h v eL svs ∧ svs.length = out.length ∧ ∀ (i : Nat) (w : Sl) (l : List Int), svs[i]? = some w → out[i]? = some l → Arr h w (eI .i64) l
theorem Rows2.nr {h h' : H} {v : Sl} {out : List (List Int)} (R : Rows2 h v out) (e : Nr h h') : Rows2 h' v out := by
  obtain ⟨svs, A, hl, hr⟩ := R
  exact ⟨svs, A.nr e, hl, fun i w l h1 h2 => (hr i w l h1 h2).nr e⟩
theorem Rows2.ext {h h' : H} {v : Sl} {out : List (List Int)} (R : Rows2 h v out) (e : Ext h h') : Rows2 h' v out := R.nr (Nr.ext e)
theorem Rows2.len {h : H} {v : Sl} {out : List (List Int)} (R : Rows2 h v out) : v.len = out.length := by
  obtain ⟨svs, A, hl, _⟩ := R; rw [A.len, hl]
theorem Rows2.at {h : H} {v : Sl} {out : List (List Int)} (R : Rows2 h v out) {i : Nat} (hi : i < out.length) {K : Sl → HProp} (hK : ∀ w, Arr h w (eI .i64) out[i] → K w h) :
    indexW (i : Int) v 1 (fun a => loadL a K) h := by
  obtain ⟨svs, A, hl, hr⟩ := R
  have hi' : i < svs.length := by omega
  refine A.index (by omega) (by omega) fun a hs => ?_
  refine loadL_i (A.cell (j := 0) (x := svs[i]) hs (by simp [hi']) rfl) ?_
  exact hK _ (hr i _ _ (List.getElem?_eq_getElem hi') (List.getElem?_eq_getElem hi))
theorem may_i {a b : Int} {Q : Bool → HProp} {h : H} (hQ : Q (okPart a b) h) : shards_may (a, b) Q h := by
  unfold shards_may
  simp only [ltI_eq, leI_eq]
  refine with_u ?_
  unfold okPart at hQ
  refine ite_i (fun e1 => ?_) (fun e1 => ?_)
  · rw [e1] at hQ
    refine ite_i (fun e2 => ?_) (fun e2 => ?_)
    · rw [e2] at hQ; simpa using hQ
    · rw [e2] at hQ; simpa using hQ
  · rw [e1] at hQ; simpa using hQ
theorem manyS_take {out : List (List Int)} {i : Nat} (hi : i < out.length) : manyS (out.take (i + 1)) = manyS (out.take i) + out[i].length := by
  unfold manyS
  rw [List.take_succ_eq_append_getElem hi, List.map_append, List.sum_append]
  simp
theorem manyS_le {out : List (List Int)} (i : Nat) : manyS (out.take i) ≤ manyS out := by
  unfold manyS
  conv => rhs; rw [← List.take_append_drop i out]
  rw [List.map_append, List.sum_append]
  omega
theorem many_i {a b : Int} {v : Sl} {out : List (List Int)} {h : H} (R : Rows2 h v out) (hm : manyS out ≤ 1000000000) (hl : out.length ≤ 1000000) {Q : Int → HProp} (hQ : Q (manyS out : Nat) h) : shards_many (a, b, v) Q h := by
  unfold shards_many
  simp only [ltI_eq]
  have hvl := R.len
  refine loop_i (fun (s : Int × Int) h' => h' = h ∧ ∃ i : Nat, s.2 = i ∧ i ≤ out.length ∧ s.1 = manyS (out.take i)) (fun s => (out.length - s.2).toNat) ⟨rfl, 0, rfl, by omega, rfl⟩ ?_
  rintro ⟨n, i'⟩ h' ⟨rfl, i, hi, hil, hn⟩ k hk
  simp only at hi hn
  subst hi; subst hn
  dsimp only
  refine ite_i (fun e => ?_) (fun e => ?_)
  · have e := of_decide_eq_true e
    have hlt : i < out.length := by omega
    refine R.at hlt fun w A => ?_
    have h1 := manyS_take hlt
    have h2 := manyS_le (out := out) (i + 1)
    rw [A.len, add_i64 (by omega) (by omega), add_i64 (by omega) (by omega)]
    exact hk _ _ ⟨rfl, i + 1, rfl, by omega, by show (manyS (out.take i) : Int) + _ = _; omega⟩ (by show (out.length - ((i : Int) + 1)).toNat < (out.length - (i : Int)).toNat; omega)
  · have e := of_decide_eq_false e
    rw [List.take_of_length_le (by omega)]
    exact hQ
theorem index_i' {v : Sl} {l : List Int} {x : Int} {h : H} (A : Arr h v (eI .i64) l) (hl : l.length ≤ 1000000) {Q : Int → HProp} (hQ : ∀ r : Int, (0 ≤ r ↔ x ∈ l) → Q r h) : slices_Index_int_int (v, x) Q h := by
  unfold slices_Index_int_int
  simp only [ltI_eq, eqI_eq]
  have hvl := A.len
  refine loop_i (fun (s : Int) h' => h' = h ∧ ∃ i : Nat, s = i ∧ i ≤ l.length ∧ x ∉ l.take i) (fun s => (l.length - s).toNat) ⟨rfl, 0, rfl, by omega, by simp⟩ ?_
  rintro s h' ⟨rfl, i, rfl, hil, hn⟩ k hk
  refine ite_i (fun e => ?_) (fun e => ?_)
  · have e := of_decide_eq_true e
    have hlt : i < l.length := by omega
    refine A.index (w := 1) (by omega) (by omega) fun a hs => ?_
    refine loadI_i (A.cell (j := 0) (x := l[i]) hs (by simp [hlt]) rfl) ?_
    refine ite_i (fun e2 => ?_) (fun e2 => ?_)
    · have e2 := of_decide_eq_true e2
      refine hQ _ ⟨fun _ => ?_, fun _ => by omega⟩
      rw [e2]; exact List.getElem_mem hlt
    · have e2 := of_decide_eq_false e2
      rw [add_i64 (by omega) (by omega)]
      refine hk _ _ ⟨rfl, i + 1, rfl, by omega, ?_⟩ (by show (l.length - ((i : Int) + 1)).toNat < (l.length - (i : Int)).toNat; omega)
      rw [List.take_succ_eq_append_getElem hlt, List.mem_append]
      rintro (h | h)
      · exact hn h
      · simp at h; exact e2 h
  · have e := of_decide_eq_false e
    rw [List.take_of_length_le (by omega)] at hn
    exact hQ _ ⟨fun h => by omega, fun h => absurd h hn⟩
theorem list_i {v : Sl} {x : Int} {l : List Int} {h : H} (A : Arr h v (eI .i64) l) (hl : l.length ≤ 1000000) {Q : Bool → HProp} (hQ : Q (okList x l) h) : shards_list (x, v) Q h := by
  unfold shards_list shards_list_F
  simp only [ltI_eq, eqI_eq]
  have hvl := A.len
  refine with_u (Check_spec A hl ?_)
  unfold okList at hQ
  cases hr : rises (-1) l with
  | false =>
    rw [hr] at hQ
    exact ite_f (by rfl) (by simpa using hQ)
  | true =>
    rw [hr] at hQ
    refine ite_t (by rfl) ?_
    unfold slices_Contains_int_int slices_Contains_int_int_F
    simp only [leI_eq]
    refine index_i' A hl fun r hrx => ?_
    by_cases hx : x ∈ l
    · have : l.contains x = true := by simpa using hx
      rw [this] at hQ
      have h0 : (0 : Int) ≤ r := hrx.2 hx
      refine ite_f (by simp [h0]) (by simpa using hQ)
    · have : l.contains x = false := by simpa using hx
      rw [this] at hQ
      have h0 : ¬ (0 : Int) ≤ r := fun h => hx (hrx.1 h)
      refine ite_t (by simp [h0]) ?_
      by_cases hn : l = []
      · subst hn
        refine ite_t (by simp [hvl]) (by simpa using hQ)
      · have hpos := List.length_pos_iff.2 hn
        refine ite_f (by simp [hvl]; omega) ?_
        rw [sub_i64 (by omega) (by omega)]
        refine A.index (w := 1) (by omega) (by omega) fun a hs => ?_
        have hlt : l.length - 1 < l.length := by omega
        refine loadI_i (A.cell (j := 0) (x := l[l.length - 1]) hs (by rw [show ((v.len : Int) - 1).toNat = l.length - 1 by omega]; simp [hlt]) rfl) ?_
        have e1 : l.isEmpty = false := by cases l; exact absurd rfl hn; rfl
        have e2 : l.getLastD 0 = l[l.length - 1] := by
          rw [List.getLastD_eq_getLast?, List.getLast?_eq_getElem?, List.getElem?_eq_getElem hlt]; rfl
        rw [e1, e2] at hQ
        simpa using hQ
theorem okLists_take {v : Int} : ∀ {out : List (List Int)}, okLists v out = true ↔ ∀ i, (hi : i < out.length) → okList (v + i) out[i] = true
  | [] => by simp [okLists]
  | l :: r => by
    simp only [okLists, Bool.and_eq_true]
    rw [okLists_take (out := r)]
    constructor
    · rintro ⟨h1, h2⟩ i hi
      cases i with
      | zero => simpa using h1
      | succ i =>
        have := h2 i (by simpa using hi)
        rw [show v + ((i + 1 : Nat) : Int) = v + 1 + i by omega]
        simpa using this
    · intro h
      refine ⟨by have := h 0 (by simp); rw [show v + ((0 : Nat) : Int) = v by omega] at this; exact this, fun i hi => ?_⟩
      have := h (i + 1) (by simpa using hi)
      rw [show v + ((i + 1 : Nat) : Int) = v + 1 + i by omega] at this
      simpa using this
theorem shCheck_i {a b : Int} {v : Sl} {out : List (List Int)} {h : H} (R : Rows2 h v out) (ha : -9223372036854775808 ≤ a ∧ a ≤ 9223372036854775807) (hm : manyS out ≤ 1000000000) (hl : out.length ≤ 1000000) (hx : ∀ l ∈ out, l.length ≤ 1000000) {Q : Int → HProp} (hQ : Q (if okShard ⟨a, b, out⟩ then 0 else 2) h) : shards_Check (a, b, v) Q h := by
  unfold shards_Check shards_Check_F
  simp only [ltI_eq, eqI_eq]
  have hvl := R.len
  refine with_i (fun (r : Bool) h' => h' = h ∧ r = !(okPart a b && decide ((out.length : Int) = b - a) && decide (manyS out ≤ 4096))) (fun k hk => may_i ?_) ?_
  · by_cases hp : okPart a b = true
    · have hp' := hp
      unfold okPart at hp'
      simp only [Bool.and_eq_true, decide_eq_true_eq] at hp'
      rw [hp]
      refine ite_f (by rfl) ?_
      rw [sub_i64 (by omega) (by omega), hvl]
      refine ite_i (fun e => ?_) (fun e => ?_)
      · have e : ¬ ((out.length : Int) = b - a) := by simpa using e
        exact hk _ _ ⟨rfl, by rw [decide_eq_false e]; simp⟩
      · have e : (out.length : Int) = b - a := by simpa using e
        refine many_i R hm hl (hk _ _ ⟨rfl, ?_⟩)
        rw [decide_eq_true e]
        by_cases h4 : manyS out ≤ 4096
        · rw [hp, decide_eq_true h4, decide_eq_false (by omega)]; rfl
        · rw [hp, decide_eq_false h4, decide_eq_true (by omega)]; rfl
    · have hp : okPart a b = false := by simpa using hp
      rw [hp]
      exact ite_t (by rfl) (hk _ _ ⟨rfl, by rw [hp]; rfl⟩)
  · rintro r h' ⟨rfl, hr⟩
    have hok : okShard ⟨a, b, out⟩ = (!r && okLists a out) := by
      rw [hr]; unfold okShard; simp
    rw [hok] at hQ
    refine ite_i (fun e => ?_) (fun e => ?_)
    · rw [e] at hQ; simpa using hQ
    · rw [e] at hQ hr
      have hr2 : okPart a b = true ∧ (out.length : Int) = b - a ∧ manyS out ≤ 4096 := by
        have := hr.symm
        simp only [Bool.not_eq_false, Bool.and_eq_true, decide_eq_true_eq, Bool.not_eq_eq_eq_not, Bool.not_false] at this
        exact ⟨this.1.1, this.1.2, this.2⟩
      have hp' := hr2.1
      unfold okPart at hp'
      simp only [Bool.and_eq_true, decide_eq_true_eq] at hp'
      simp only [Bool.not_false, Bool.true_and] at hQ
      refine loop_i (fun (s : Int) h'' => h'' = h' ∧ ∃ i : Nat, s = i ∧ i ≤ out.length ∧ ∀ j, (hj : j < out.length) → j < i → okList (a + j) out[j] = true) (fun s => (out.length - s).toNat) ⟨rfl, 0, rfl, by omega, fun j _ h => by omega⟩ ?_
      rintro s h'' ⟨rfl, i, rfl, hil, hd⟩ k hk
      refine ite_i (fun e => ?_) (fun e => ?_)
      · have e := of_decide_eq_true e
        have hlt : i < out.length := by omega
        refine R.at hlt fun w A => ?_
        rw [add_i64 (by omega) (by omega)]
        refine list_i A (hx _ (List.getElem_mem hlt)) ?_
        refine ite_i (fun e2 => ?_) (fun e2 => ?_)
        · have e2 : okList (a + i) out[i] = false := by simpa using e2
          have : okLists a out = false := by
            cases hq : okLists a out with
            | false => rfl
            | true => have := okLists_take.1 hq i hlt; rw [e2] at this; cases this
          rw [this] at hQ
          exact hQ
        · have e2 : okList (a + i) out[i] = true := by simpa using e2
          rw [add_i64 (by omega) (by omega)]
          refine hk _ _ ⟨rfl, i + 1, rfl, by omega, fun j hj hji => ?_⟩ (by show (out.length - ((i : Int) + 1)).toNat < (out.length - (i : Int)).toNat; omega)
          by_cases hje : j = i
          · subst hje; exact e2
          · exact hd j hj (by omega)
      · have e := of_decide_eq_false e
        have : okLists a out = true := okLists_take.2 fun j hj => hd j hj (by omega)
        rw [this] at hQ
        exact hQ
end Go.Cz.S
namespace Go.Cz.S
open Go Go.Cz Go.Cz.Crc
set_option maxRecDepth 10000
set_option linter.unusedSimpArgs false
set_option linter.unusedVariables false
def degs (out : List (List Int)) : List Int := out.map fun l => (l.length : Int)
def headS (s : Shd) : List UInt8 := [115, 104] ++ putN s.a.toNat ++ putN s.b.toNat ++ [UInt8.ofNat (wl (degs s.out))] ++ (packB (wl (degs s.out)) (degs s.out)).data.toList
def restS (s : Shd) : List UInt8 := (s.out.map listB).flatten ++ putN (manyS s.out)
def encS (s : Shd) : List UInt8 := sealed (headS s ++ restS s)
theorem sealed_i {z : List UInt8} (hz : z.length ≤ 1000000000) {Q : ByteArray → HProp} {h : H} (hQ : ∀ h', Ext h h' → Q (mkB (sealed z)) h') : shards_sealed (mkB z) Q h := by
  unfold shards_sealed shards_sealed_F
  refine Sum_spec (by rw [mkB_size]; omega) ?_
  refine must_i (by decide) (must_i (by decide) (must_i (by decide) (four_spec fun h' g => ?_)))
  refine must_i (by rw [mkB_size, mkB_size]; simp; omega) ?_
  rw [ba_cat]
  exact hQ h' g
structure St (h0 : H) (b : Nat) (t : List UInt8) (v : Sl) (out : List (List Int)) (w : UInt8) (o : Option Nat) (q : Bool) (h : H) : Prop where
  ext : Ext h0 h
  bld : q = true → Bld h0 h b t
  rows : Rows2 h v out
  byt : ∀ x, o = some x → Vec h ⟨some ⟨x, 0, none⟩, 1, 1⟩ (eI .u8) (bints [w])
variable {h0 : H} {b : Nat} {t : List UInt8} {v : Sl} {out : List (List Int)} {w : UInt8} {o : Option Nat} {q : Bool} {h : H}
theorem St.step (S : St h0 b t v out w o q h) {h' : H} (e : Ext h h') : St h0 b t v out w o q h' := ⟨S.ext.trans e, fun hq => (S.bld hq).ext e, S.rows.ext e, fun x hx => (S.byt x hx).ext e⟩
theorem St.put (S : St h0 b t v out w o q h) {n : Int} {m : Nat} (hn : n = m) (hm : m ≤ 9223372036854775807) {Q : ByteArray → HProp} (hQ : ∀ h', St h0 b t v out w o q h' → Q (mkB (putN m)) h') : ints_Put n Q h := by
  subst hn; exact Put_spec hm fun h' e => hQ h' (S.step e)
theorem St.new1 (S : St h0 b t v out w none q h) {x : Int} (hx : x = (w.toNat : Int)) {K : Nat → HProp} (hK : ∀ c h', St h0 b t v out w (some c) q h' → K c h') : newW [.int .u8 x] K h := by
  subst hx
  refine new_i (E := eI .u8) (l := bints [w]) (n := 1) rfl rfl fun c h' V _ e => hK c h' ?_
  have S' := S.step e
  exact ⟨S'.ext, S'.bld, S'.rows, fun x hx => by cases hx; exact V⟩
theorem St.text {x : Nat} (S : St h0 b t v out w (some x) q h) {Q : ByteArray → HProp} (hQ : Q (mkB [w]) h) : textW ⟨some ⟨x, 0, none⟩, 1, 1⟩ Q h := by
  refine (S.byt x rfl).arr.text ?_
  rw [text_mkB]; exact hQ
theorem St.str (S : St h0 b t v out w o true h) (ht : t.length ≤ 140737488355328) {Q : ByteArray → HProp} (hQ : ∀ h', St h0 b t v out w o false h' → Q (mkB t) h') : strings_Builder_String (some ⟨b, 0, none⟩) Q h :=
  bld_str (S.bld rfl) S.ext ht fun h' e n => hQ h' ⟨e, fun hq => (by cases hq), S.rows.nr n, fun x hx => (S.byt x hx).nr n⟩
theorem St.many (S : St h0 b t v out w o q h) {x y : Int} (hm : manyS out ≤ 1000000000) (hl : out.length ≤ 1000000) {Q : Int → HProp} (hQ : Q (manyS out : Nat) h) : shards_many (x, y, v) Q h := many_i S.rows hm hl hQ
theorem St.shut (S : St h0 b t v out w o q h) {z : List UInt8} (hz : z.length ≤ 1000000000) {Q : ByteArray → HProp} (hQ : ∀ h', Ext h0 h' → Q (mkB (sealed z)) h') : shards_sealed (mkB z) Q h :=
  sealed_i hz fun h' e => hQ h' (S.ext.trans e)
theorem degs_take {out : List (List Int)} {i : Nat} (hi : i < out.length) : degs (out.take i) ++ [(out[i].length : Int)] = degs (out.take (i + 1)) := by
  unfold degs
  rw [List.take_succ_eq_append_getElem hi, List.map_append]; rfl
theorem lists_take {out : List (List Int)} {i : Nat} (hi : i < out.length) : ((out.take i).map listB).flatten ++ listB out[i] = ((out.take (i + 1)).map listB).flatten := by
  rw [List.take_succ_eq_append_getElem hi, List.map_append, List.flatten_append]; simp
theorem listB_len (l : List Int) : (listB l).length ≤ 11 + 11 * l.length := by
  unfold listB
  have := putN_len l.length
  have := (gapsL_len l 0).2
  simp; omega
theorem lists_len : ∀ (out : List (List Int)), ((out.map listB).flatten).length ≤ 11 * out.length + 11 * manyS out
  | [] => by simp [manyS]
  | l :: r => by
    have := lists_len r
    have := listB_len l
    have e : manyS (l :: r) = l.length + manyS r := by simp [manyS]
    rw [e, List.map_cons, List.flatten_cons, List.length_append, List.length_cons]
    omega
theorem okList_facts {x : Int} {l : List Int} (h : okList x l = true) : rises (-1) l = true ∧ ∀ y ∈ l, 0 ≤ y ∧ y < 256 := by
  unfold okList at h
  simp only [Bool.and_eq_true] at h
  refine ⟨h.1.1, ?_⟩
  have hr := h.1.1
  have hlast := h.2
  intro y hy
  have h1 := rises_bd hr y hy
  refine ⟨by omega, ?_⟩
  -- the last one is the greatest
  have key : ∀ (l : List Int) (a : Int), rises a l = true → ∀ y ∈ l, y ≤ l.getLastD 0 := by
    intro l
    induction l with
    | nil => intro a _ y hy; simp at hy
    | cons z r ih =>
      intro a hr y hy
      simp only [rises, Bool.and_eq_true, decide_eq_true_eq] at hr
      cases r with
      | nil => simp at hy; subst hy; simp
      | cons z2 r2 =>
        have e : (z :: z2 :: r2).getLastD 0 = (z2 :: r2).getLastD 0 := by simp [List.getLastD]
        rw [e]
        rcases List.mem_cons.1 hy with rfl | hy
        · have h2 := ih y hr.2 z2 (List.mem_cons_self ..)
          have h3 := rises_bd hr.2 z2 (List.mem_cons_self ..)
          omega
        · exact ih z hr.2 y hy
  have h2 := key l (-1) hr y hy
  have hne : l.isEmpty = false := by cases l; simp at hy; rfl
  rw [hne] at hlast
  simp only [Bool.false_or, decide_eq_true_eq] at hlast
  omega
theorem shEncode_i {x y : Int} {v : Sl} {out : List (List Int)} {h : H} (R : Rows2 h v out) (hx : -9223372036854775808 ≤ x ∧ x ≤ 9223372036854775807) (hm : manyS out ≤ 1000000000) (hl : out.length ≤ 1000000) (hxl : ∀ l ∈ out, l.length ≤ 1000000)
    {Q : ByteArray × Int → HProp} (hQ : ∀ h', Ext h h' → Q (if okShard ⟨x, y, out⟩ then (mkB (encS ⟨x, y, out⟩), 0) else (⟨#[]⟩, 2)) h') : shards_Encode (x, y, v) Q h := by
  unfold shards_Encode shards_Encode_F
  refine shCheck_i R hx hm hl hxl ?_
  cases hok : okShard ⟨x, y, out⟩ with
  | false =>
    rw [hok] at hQ
    simp only [eqI_eq]
    exact ite_t (by rfl) (hQ h (Ext.refl h))
  | true =>
    rw [hok] at hQ
    simp only [eqI_eq, ltI_eq]
    refine ite_f (by rfl) ?_
    have hk := hok
    unfold okShard okPart at hk
    simp only [Bool.and_eq_true, decide_eq_true_eq] at hk
    obtain ⟨⟨⟨⟨⟨x0, xy⟩, y1⟩, hol⟩, hm4⟩, hls⟩ := hk
    have hls := okLists_take.1 hls
    have hlen : out.length ≤ 256 := by omega
    have hvl := R.len
    refine bld_new (Ext.refl h) fun b h1 B1 g1 => ?_
    refine loop_i (fun (s : Sl × Int) h2 => ∃ i : Nat, s.2 = i ∧ i ≤ out.length ∧ Bld h h2 b ((out.take i).map listB).flatten ∧ Vec h2 s.1 (eI .i64) (degs (out.take i)) ∧ New h s.1 ∧ Ext h h2) (fun s => (out.length - s.2).toNat)
      ⟨0, rfl, by omega, B1, Vec.nil0, New.nil0, g1⟩ ?_
    rintro ⟨u, i'⟩ h2 ⟨i, hi, hil, B, V, nw, g⟩ k hk
    simp only at hi V nw
    subst hi
    dsimp only
    refine ite_i (fun e => ?_) (fun e => ?_)
    · have e := of_decide_eq_true e
      have hlt : i < out.length := by omega
      refine (R.ext g).at hlt fun z A => ?_
      have hf := okList_facts (hls i hlt)
      have hil2 : out[i].length ≤ 4096 := by
        have h1 := manyS_take hlt
        have h2 := manyS_le (out := out) (i + 1)
        omega
      refine gapsE_i A (by omega) (fun y hy => by have := hf.2 y hy; omega) ?_
      rw [if_pos hf.1]
      refine ite_f (by rfl) ?_
      rw [A.len]
      refine V.int1 nw g (by simp [degs]; omega) fun u' h3 V3 n3 g3 f3 => ?_
      -- the builder lies on
      have B3 : Bld h h3 b ((out.take i).map listB).flatten := by
        obtain ⟨q', v', B', m1, m2⟩ := B
        have nou : ∀ k T c, h2 k = some (.raw T c) → ¬ u.on k := by
          rintro k T c hk ⟨a, ha, rfl⟩
          obtain ⟨_, c', hc, _⟩ := V.blk a ha
          rw [hk] at hc; cases hc
        refine ⟨q', v', ⟨f3 _ _ B'.blk (nou _ _ _ B'.blk), B'.own, B'.len, ?_⟩, m1, m2⟩
        rcases B'.buf with hh | ⟨gb, rest, e1, e2, e3, e4⟩
        · exact .inl hh
        · exact .inr ⟨gb, rest, e1, e2, f3 _ _ e3 (nou _ _ _ e3), e4⟩
      have hll := lists_len (out.take i)
      have hml := manyS_le (out := out) i
      have hlb := listB_len out[i]
      refine bld_write B3 g3 (by rw [mkB_size, List.length_take] at *; omega) fun h4 B4 g4 n4 => ?_
      rw [mkB_data, lists_take hlt] at B4
      rw [degs_take hlt] at V3
      rw [add_i64 (by omega) (by omega)]
      exact hk _ _ ⟨i + 1, rfl, by omega, B4, V3.nr n4, n3, g4⟩ (by show (out.length - ((i : Int) + 1)).toNat < (out.length - (i : Int)).toNat; omega)
    · have e := of_decide_eq_false e
      have ht : out.take i = out := List.take_of_length_le (by omega)
      rw [ht] at B V
      have hI : I64 (degs out) := by
        intro n hn
        obtain ⟨l, hl, rfl⟩ := List.mem_map.1 hn
        have := hxl l hl
        omega
      have hw : wl (degs out) ≤ 32 := wl_le.2 fun n hn => by
        obtain ⟨l, hl, rfl⟩ := List.mem_map.1 hn
        have := hxl l hl
        exact (width_le (by decide)).2 ⟨by omega, by omega⟩
      have hdl : (degs out).length = out.length := by simp [degs]
      refine Width_spec V.arr (by omega) hI ?_
      refine Pack_spec V.arr (by omega) hI fun h3 g3 => ?_
      have epk : packR (degs out) (wl (degs out) : Nat) = (packB (wl (degs out)) (degs out), 0) := by
        unfold packR
        rw [if_neg (by omega)]; rfl
      rw [epk]
      dsimp only
      refine ite_f (by rfl) (with_u ?_)
      dsimp only
      have S : St h b ((out.map listB).flatten) v out (UInt8.ofNat (wl (degs out))) none true h3 := ⟨g.trans g3, fun _ => B.ext g3, (R.ext g).ext g3, fun x hx => by cases hx⟩
      have hxn : x = (x.toNat : Int) := (Int.toNat_of_nonneg x0).symm
      have hyn : y = (y.toNat : Int) := (Int.toNat_of_nonneg (by omega)).symm
      have hx1 : x.toNat ≤ 9223372036854775807 := by omega
      have hy1 : y.toNat ≤ 9223372036854775807 := by omega
      have hcw : cnv .u8 ((wl (degs out) : Nat) : Int) = ((UInt8.ofNat (wl (degs out))).toNat : Int) := cnv_low (by omega)
      have l1 := putN_len x.toNat
      have l2 := putN_len y.toNat
      have l3 := putN_len (manyS out)
      have l4 := lists_len out
      have l5 : (packB (wl (degs out)) (degs out)).size ≤ 10000 := by
        unfold packB
        rw [mkB_size, Bits.bytes_len, hdl]
        have : out.length * wl (degs out) ≤ 256 * 32 := Nat.mul_le_mul hlen hw
        omega
      have l6 : manyS out ≤ 9223372036854775807 := by omega
      have ht2 : ((out.map listB).flatten).length ≤ 140737488355328 := by omega
      have fin : ∀ h', Ext h h' → Q (mkB (encS ⟨x, y, out⟩), 0) h' := fun h' e => by simpa using hQ h' e
      clear hQ hk V nw B
      have hpb := size_data (packB (wl (degs out)) (degs out))
      have e2 : (ByteArray.mk #[115, 104]).size = 2 := rfl
      have catE : ByteArray.mk #[115, 104] ++ mkB (putN x.toNat) ++ mkB (putN y.toNat) ++ mkB [UInt8.ofNat (wl (degs out))] ++ packB (wl (degs out)) (degs out) ++ mkB ((out.map listB).flatten) ++ mkB (putN (manyS out)) = mkB (headS ⟨x, y, out⟩ ++ restS ⟨x, y, out⟩) := by
        apply ba_ext
        simp only [app_data, mkB_data, headS, restS, List.append_assoc]
      have hz : (headS ⟨x, y, out⟩ ++ restS ⟨x, y, out⟩).length ≤ 1000000000 := by
        simp only [headS, restS, List.length_append, List.length_cons, List.length_nil, hpb]
        omega
      clear g3 epk hI
      repeat' first
        | refine both_i ?_ ?_
        | refine must_i (by simp only [app_size, mkB_size, e2, List.length_cons, List.length_nil]; omega) ?_
        | refine St.put (by assumption) hxn hx1 fun _ _ => ?_
        | refine St.put (by assumption) hyn hy1 fun _ _ => ?_
        | refine St.put (by assumption) rfl l6 fun _ _ => ?_
        | refine St.new1 (by assumption) hcw fun _ _ _ => ?_
        | refine St.text (by assumption) ?_
        | refine St.str (by assumption) ht2 fun _ _ => ?_
        | refine St.many (by assumption) hm hl ?_
        | (rw [catE]; exact St.shut (by assumption) hz fun _ e => fin _ e)
end Go.Cz.S
namespace Go.Cz.S
open Go Go.Cz Go.Cz.Crc
set_option maxRecDepth 10000
set_option linter.unusedSimpArgs false
set_option linter.unusedVariables false
abbrev Rdr (h : H) (r : Nat) (z : ByteArray) (at_ : Int) (bad : Bool) : Prop := Obj h r [.string z, .int .i64 at_, .bool bad]
theorem loadS_obj {h : H} {b j : Nat} {z : ByteArray} {cs : List Value} (o : Obj h b cs) (hv : cs[j]? = some (.string z)) {K : ByteArray → HProp} (hK : K z h) : loadS ((at0 b).add j) K h := loadS_i (o.ld hv) hK
theorem loadI_obj {h : H} {b j : Nat} {n : Int} {cs : List Value} (o : Obj h b cs) (hv : cs[j]? = some (.int .i64 n)) {K : Int → HProp} (hK : K n h) : loadI .i64 ((at0 b).add j) K h := loadI_i (o.ld hv) hK
theorem loadB_obj {h : H} {b j : Nat} {n : Bool} {cs : List Value} (o : Obj h b cs) (hv : cs[j]? = some (.bool n)) {K : Bool → HProp} (hK : K n h) : loadB ((at0 b).add j) K h := loadB_i (o.ld hv) hK
variable {h : H} {r : Nat} {z : ByteArray} {at_ : Int} {bad : Bool}
theorem skip_i (R : Rdr h r z at_ bad) (hz : z.size ≤ 1000000) (ha : 0 ≤ at_ ∧ at_ ≤ z.size) {n : Int} (hn : 0 ≤ n ∧ n ≤ 1000000000) {Q : Unit → HProp}
    (h1 : n ≤ z.size - at_ → ∀ h', Rdr h' r z (at_ + n) bad → Fr (fun k => k = r) h h' → Q () h') (h2 : z.size - at_ < n → ∀ h', Rdr h' r z at_ true → Fr (fun k => k = r) h h' → Q () h') : shards_reader_skip (some (at0 r), n) Q h := by
  unfold shards_reader_skip
  simp only [ltI_eq]
  refine deref_i (loadS_obj R rfl (deref_i (loadI_obj R rfl ?_)))
  rw [sub_i64 (by omega) (by omega)]
  refine ite_i (fun e => ?_) (fun e => ?_)
  · have e := of_decide_eq_true e
    exact deref_i (R.st (by simp) fun h' o f => h2 e h' o f)
  · have e := of_decide_eq_false e
    refine deref_i (loadI_obj R rfl (deref_i ?_))
    rw [add_i64 (by omega) (by omega)]
    exact R.st (by simp) fun h' o f => h1 (by omega) h' o f
theorem number_i (R : Rdr h r z at_ bad) (hz : z.size ≤ 1000000) (ha : 0 ≤ at_ ∧ at_ ≤ z.size) {Q : Int → HProp}
    (h1 : ∀ v n, getA z at_ = some (v, n) → ∀ h', Rdr h' r z (at_ + n) bad → Fr (fun k => k = r) h h' → Q v h') (h2 : getA z at_ = none → ∀ h', Rdr h' r z at_ true → Fr (fun k => k = r) h h' → Q 0 h') : shards_reader_number (some (at0 r)) Q h := by
  unfold shards_reader_number shards_reader_number_F
  refine deref_i (loadS_obj R rfl (deref_i (loadI_obj R rfl ?_)))
  refine Get_spec hz (by omega) ?_
  cases hg : getA z at_ with
  | none => exact ite_t (by rfl) (deref_i (R.st (by simp) fun h' o f => h2 hg h' o f))
  | some q =>
    obtain ⟨v, n⟩ := q
    exact ite_f (by rfl) (deref_i (R.st (by simp) fun h' o f => h1 v n hg h' o f))
theorem rlist_i (R : Rdr h r z at_ bad) (hz : z.size ≤ 1000000) (ha : 0 ≤ at_ ∧ at_ ≤ z.size) {Q : Sl → HProp}
    (h1 : ∀ l n, listA z at_ = some (l, n) → ∀ v h', Arr h' v (eI .i64) l → (∀ k, v.on k → h k = none ∧ ∃ o, h' k = some o) → Rdr h' r z (at_ + n) bad → Fr (fun k => k = r) h h' → Q v h') (h2 : listA z at_ = none → ∀ h', Rdr h' r z at_ true → Fr (fun k => k = r) h h' → Q ⟨none, 0, 0⟩ h') : shards_reader_list (some (at0 r)) Q h := by
  unfold shards_reader_list shards_reader_list_F
  simp only [eqI_eq]
  refine deref_i (loadS_obj R rfl (deref_i (loadI_obj R rfl ?_)))
  refine Decode_spec hz (by omega) (fun l n hg v h' V nw g => ?_) (fun hg h' g => ?_)
  · have R' : Rdr h' r z at_ bad := Obj.ext R g
    refine ite_f (by rfl) (deref_i (R'.st (by simp) fun h2 o f => ?_))
    have nr : ∀ b, v.on b → b ≠ r := fun b hb e => by
      subst e
      have := nw b hb
      unfold Rdr Obj at R
      rw [this] at R; cases R
    exact h1 l n hg v h2 (V.arr.fr f fun b hb e => nr b hb e) (fun k hk => ⟨nw k hk, by obtain ⟨o, ho⟩ := V.there hk; exact ⟨o, f k o ho (nr k hk)⟩⟩) o (g.fr.trans f)
  · have R' : Rdr h' r z at_ bad := Obj.ext R g
    exact ite_t (by rfl) (deref_i (R'.st (by simp) fun h3 o f => h2 hg h3 o (g.fr.trans f)))
theorem skip_u (R : Rdr h r z at_ bad) (hz : z.size ≤ 1000000) (ha : 0 ≤ at_ ∧ at_ ≤ z.size) {n : Int} (hn : 0 ≤ n ∧ n ≤ 1000000000) {Q : Unit → HProp}
    (hQ : ∀ (a1 : Int) (b1 : Bool) h', Rdr h' r z a1 b1 → Fr (fun k => k = r) h h' → 0 ≤ a1 ∧ a1 ≤ z.size → (n ≤ z.size - at_ → a1 = at_ + n ∧ b1 = bad) → (z.size - at_ < n → b1 = true) → Q () h') : shards_reader_skip (some (at0 r), n) Q h :=
  skip_i R hz ha hn (fun e h' o f => hQ _ _ h' o f (by omega) (fun _ => ⟨rfl, rfl⟩) (fun _ => by omega)) (fun e h' o f => hQ _ _ h' o f ha (fun _ => by omega) (fun _ => rfl))
theorem number_u (R : Rdr h r z at_ bad) (hz : z.size ≤ 1000000) (ha : 0 ≤ at_ ∧ at_ ≤ z.size) {Q : Int → HProp}
    (hQ : ∀ (v a1 : Int) (b1 : Bool) h', Rdr h' r z a1 b1 → Fr (fun k => k = r) h h' → 0 ≤ a1 ∧ a1 ≤ z.size → 0 ≤ v ∧ v ≤ 9223372036854775807 → (∀ (u n : Nat), getA z at_ = some (u, n) → v = u ∧ a1 = at_ + n ∧ b1 = bad) → (getA z at_ = none → b1 = true) → Q v h') : shards_reader_number (some (at0 r)) Q h :=
  number_i R hz ha (fun v n hg h' o f => hQ _ _ _ h' o f (by have := getA_len hg; omega) (by have := getA_len hg; omega) (fun u n' e => by rw [hg] at e; cases e; exact ⟨rfl, rfl, rfl⟩) (fun e => by rw [hg] at e; cases e))
    (fun hg h' o f => hQ _ _ _ h' o f ha (by decide) (fun u n' e => by rw [hg] at e; cases e) (fun _ => rfl))
theorem listA_facts {z : ByteArray} {at_ : Int} {l : List Int} {n : Nat} (h : listA z at_ = some (l, n)) : 0 ≤ at_ ∧ at_ + n ≤ z.size ∧ l.length ≤ z.size := by
  unfold listA at h
  split at h
  · rename_i hc
    have hd : (z.data.toList.drop at_.toNat).length = z.size - at_.toNat := by rw [List.length_drop, size_data]
    unfold unlist at h
    split at h
    · cases h
    · rename_i k m hg
      have hg := getN_len hg
      split at h
      · cases h
      · rename_i hk
        rw [List.length_drop] at hk
        obtain ⟨q, e1, e2⟩ := ungap_drop _ _ _ _ _ _ _ h
        obtain ⟨s, e3, _, e4, _⟩ := ungap_bd _ _ _ _ _ _ _ (by decide) h
        rw [List.length_drop] at e2
        rw [e3]
        simp
        omega
  · cases h
theorem rlist_u (R : Rdr h r z at_ bad) (hz : z.size ≤ 1000000) (ha : 0 ≤ at_ ∧ at_ ≤ z.size) {Q : Sl → HProp}
    (hQ : ∀ (v : Sl) (l : List Int) (a1 : Int) (b1 : Bool) h', Arr h' v (eI .i64) l → (∀ k, v.on k → h k = none ∧ ∃ o, h' k = some o) → l.length ≤ 1000000 → Rdr h' r z a1 b1 → Fr (fun k => k = r) h h' → 0 ≤ a1 ∧ a1 ≤ z.size → (∀ (k : List Int) (n : Nat), listA z at_ = some (k, n) → l = k ∧ a1 = at_ + n ∧ b1 = bad) → (listA z at_ = none → b1 = true) → Q v h') : shards_reader_list (some (at0 r)) Q h :=
  rlist_i R hz ha (fun l n hg v h' A nv o f => hQ v l _ _ h' A nv (by have := listA_facts hg; omega) o f (by have := listA_facts hg; omega) (fun u n' e => by rw [hg] at e; cases e; exact ⟨rfl, rfl, rfl⟩) (fun e => by rw [hg] at e; cases e))
    (fun hg h' o f => hQ _ [] _ _ h' (Vec.nil0).arr (fun k hk => by obtain ⟨a, ha, _⟩ := hk; cases ha) (by simp) o f ha (fun u n' e => by rw [hg] at e; cases e) (fun _ => rfl))
theorem encS_list (s : Shd) : encS s = [115, 104] ++ (putN s.a.toNat ++ (putN s.b.toNat ++ (UInt8.ofNat (wl (degs s.out)) :: ((packB (wl (degs s.out)) (degs s.out)).data.toList ++ ((s.out.map listB).flatten ++ (putN (manyS s.out) ++ crc4 (mkB (headS s ++ restS s)))))))) := by
  unfold encS sealed headS restS
  simp [List.append_assoc]
def tabL' (s : Shd) : Nat := (packB (wl (degs s.out)) (degs s.out)).data.toList.length
theorem getA_of {z : ByteArray} {p : List UInt8} {v : Nat} {q : List UInt8} (hz : z.data.toList = p ++ (putN v ++ q)) (hv : v ≤ 9223372036854775807) : getA z (p.length : Nat) = some (v, (putN v).length) := by
  have hl : z.size = p.length + (putN v ++ q).length := by rw [← size_data, hz, List.length_append]
  unfold getA
  rw [if_pos (by constructor <;> omega), hz, show ((p.length : Nat) : Int).toNat = p.length from rfl, List.drop_left, getN_put hv]
theorem listA_of {z : ByteArray} {p : List UInt8} {l : List Int} {q : List UInt8} (hz : z.data.toList = p ++ (listB l ++ q)) (hr : rises (-1) l = true) (hb : ∀ x ∈ l, x ≤ 9223372036854775806) (hl : l.length ≤ 1000000) : listA z (p.length : Nat) = some (l, (listB l).length) := by
  have hs : z.size = p.length + (listB l ++ q).length := by rw [← size_data, hz, List.length_append]
  unfold listA
  rw [if_pos (by constructor <;> omega), hz, show ((p.length : Nat) : Int).toNat = p.length from rfl, List.drop_left, unlist_listB hr hb hl]
def posT (s : Shd) : Nat := 2 + (putN s.a.toNat).length + (putN s.b.toNat).length
def posL (s : Shd) (i : Nat) : Nat := posT s + 1 + tabL' s + ((s.out.take i).map listB).flatten.length
theorem wl_small {s : Shd} (h : okShard s = true) : wl (degs s.out) ≤ 32 := wl_le.2 fun n hn => by
  unfold okShard at h
  simp only [Bool.and_eq_true, decide_eq_true_eq] at h
  obtain ⟨l, hl, rfl⟩ := List.mem_map.1 hn
  have h1 : l.length ≤ manyS s.out := by
    unfold manyS
    obtain ⟨u, v, e⟩ := List.append_of_mem hl
    rw [e]; simp; omega
  exact (width_le (by decide)).2 ⟨by omega, by omega⟩
theorem tab_len {s : Shd} : tabL' s = (s.out.length * wl (degs s.out) + 7) / 8 := by
  unfold tabL' packB
  rw [mkB_data, Bits.bytes_len]
  simp [degs]
theorem okShard_bd {s : Shd} (hs : okShard s = true) : 0 ≤ s.a ∧ s.a < s.b ∧ s.b ≤ 256 ∧ (s.out.length : Int) = s.b - s.a := by
  unfold okShard okPart at hs
  simp only [Bool.and_eq_true, decide_eq_true_eq] at hs
  exact ⟨hs.1.1.1.1.1, hs.1.1.1.1.2, hs.1.1.1.2, hs.1.1.2⟩
theorem read_a {s : Shd} {z : ByteArray} (hs : okShard s = true) (e : mkB (encS s) = z) : getA z 2 = some (s.a.toNat, (putN s.a.toNat).length) := by
  obtain ⟨q, hd⟩ : ∃ q, z.data.toList = [115, 104] ++ (putN s.a.toNat ++ q) := ⟨_, by rw [← e, mkB_data, encS_list]⟩
  have := okShard_bd hs
  exact getA_of (p := [115, 104]) hd (by omega)
theorem read_b {s : Shd} {z : ByteArray} (hs : okShard s = true) (e : mkB (encS s) = z) : getA z (2 + (putN s.a.toNat).length : Nat) = some (s.b.toNat, (putN s.b.toNat).length) := by
  obtain ⟨q, hd⟩ : ∃ q, z.data.toList = ([115, 104] ++ putN s.a.toNat) ++ (putN s.b.toNat ++ q) := ⟨_, by rw [← e, mkB_data, encS_list, List.append_assoc]⟩
  have := okShard_bd hs
  have := getA_of (p := [115, 104] ++ putN s.a.toNat) hd (by omega)
  rw [List.length_append] at this
  exact this
theorem read_w {s : Shd} {z : ByteArray} (e : mkB (encS s) = z) : z.data.toList[posT s]? = some (UInt8.ofNat (wl (degs s.out))) ∧ posT s + 1 + tabL' s ≤ z.size := by
  obtain ⟨q, hd⟩ : ∃ q, z.data.toList = ([115, 104] ++ putN s.a.toNat ++ putN s.b.toNat) ++ (UInt8.ofNat (wl (degs s.out)) :: ((packB (wl (degs s.out)) (degs s.out)).data.toList ++ q)) := ⟨_, by rw [← e, mkB_data, encS_list, List.append_assoc, List.append_assoc]⟩
  have hp : ([115, 104] ++ putN s.a.toNat ++ putN s.b.toNat : List UInt8).length = posT s := by unfold posT; simp; omega
  refine ⟨?_, ?_⟩
  · rw [hd, List.getElem?_append_right (by omega), hp, Nat.sub_self]; rfl
  · rw [← size_data, hd, List.length_append, hp]
    unfold tabL'
    simp
    omega
theorem read_l {s : Shd} {z : ByteArray} (hs : okShard s = true) (e : mkB (encS s) = z) {i : Nat} (hi : i < s.out.length) : listA z (posL s i : Nat) = some (s.out[i], (listB s.out[i]).length) ∧ posL s (i + 1) = posL s i + (listB s.out[i]).length := by
  have hsp : (s.out.map listB).flatten = ((s.out.take i).map listB).flatten ++ (listB s.out[i] ++ ((s.out.drop (i + 1)).map listB).flatten) := by
    have e1 : s.out = s.out.take i ++ s.out[i] :: s.out.drop (i + 1) := by rw [← List.drop_eq_getElem_cons hi, List.take_append_drop]
    conv => lhs; rw [e1]
    rw [List.map_append, List.map_cons, List.flatten_append, List.flatten_cons]
  have hd : z.data.toList = ([115, 104] ++ putN s.a.toNat ++ putN s.b.toNat ++ [UInt8.ofNat (wl (degs s.out))] ++ (packB (wl (degs s.out)) (degs s.out)).data.toList ++ ((s.out.take i).map listB).flatten) ++ (listB s.out[i] ++ (((s.out.drop (i + 1)).map listB).flatten ++ (putN (manyS s.out) ++ crc4 (mkB (headS s ++ restS s))))) := by
    rw [← e, mkB_data, encS_list, hsp]
    simp [List.append_assoc]
  have hp : ([115, 104] ++ putN s.a.toNat ++ putN s.b.toNat ++ [UInt8.ofNat (wl (degs s.out))] ++ (packB (wl (degs s.out)) (degs s.out)).data.toList ++ ((s.out.take i).map listB).flatten : List UInt8).length = posL s i := by
    unfold posL posT tabL'
    simp only [List.length_append, List.length_cons, List.length_nil]
  have hk := hs
  unfold okShard at hk
  simp only [Bool.and_eq_true, decide_eq_true_eq] at hk
  have hf := okList_facts (okLists_take.1 hk.2 i hi)
  have hil2 : s.out[i].length ≤ 4096 := by
    have h1 := manyS_take hi
    have h2 := manyS_le (out := s.out) (i + 1)
    omega
  have := listA_of hd hf.1 (fun x hx => by have := hf.2 x hx; omega) (by omega)
  rw [hp] at this
  refine ⟨this, ?_⟩
  unfold posL
  rw [← lists_take hi, List.length_append]
  omega
theorem sts2 {h : H} {c : Nat} {x y v w : Value} (o : Obj h c [x, y]) {K : HProp} (hK : ∀ h', Obj h' c [v, w] → Fr (fun k => k = c) h h' → K h') : storesW ⟨c, 0, none⟩ [v, w] K h := by
  unfold Obj at o
  unfold storesW
  simp only [o]
  exact ⟨trivial, by simp, hK _ (by unfold Obj; rw [set_same]; rfl) Fr.set⟩
theorem ne_new {h : H} {b c : Nat} {cs : List Value} (o : Obj h b cs) (hc : h c = none) : c ≠ b := fun e => by subst e; unfold Obj at o; rw [hc] at o; cases o
theorem part_i (R : Rdr h r z 0 false) (hz : z.size ≤ 1000000) {Q : Int × Int → HProp}
    (hQ : ∀ (x y at2 : Int) (bd : Bool) h', Rdr h' r z at2 bd → Fr (fun k => k = r) h h' → 0 ≤ at2 ∧ at2 ≤ z.size → (x = 0 ∧ y = 0 ∨ okPart x y = true) →
      (∀ s, okShard s = true → mkB (encS s) = z → bd = false ∧ x = s.a ∧ y = s.b ∧ at2 = posL s 0) → Q (x, y) h') : shards_shard_part (some (at0 r)) Q h := by
  unfold shards_shard_part shards_shard_part_F
  simp only [leI_eq]
  refine deref_i ?_
  rw [add0]
  refine skip_u R hz (by omega) (by decide) fun a1 b1 h1 R1 f1 ha1 g1 g1' => ?_
  have G1 : ∀ s, okShard s = true → mkB (encS s) = z → b1 = false ∧ a1 = 2 := fun s hs e => by
    have h2 := getA_len (read_a hs e)
    have := g1 (by omega)
    exact ⟨this.2, by omega⟩
  -- behind the two numbers, and the place in which they lie
  refine with_i (fun (p : Option Addr) h4 => ∃ (c : Nat) (x y a3 : Int) (b3 : Bool), p = some (at0 c) ∧ c ≠ r ∧ h c = none ∧ Obj h4 c [.int .i64 x, .int .i64 y] ∧ Rdr h4 r z a3 b3 ∧ Fr (fun k => k = r) h h4 ∧ 0 ≤ a3 ∧ a3 ≤ z.size ∧ 0 ≤ x ∧ 0 ≤ y ∧
    ∀ s, okShard s = true → mkB (encS s) = z → b3 = false ∧ x = s.a ∧ y = s.b ∧ a3 = posT s) (fun k hk => ?_) ?_
  · refine deref_i (deref_i ?_)
    rw [add0]
    have G2 : ∀ (v1 a2 : Int) (b2 : Bool), (∀ (u n : Nat), getA z a1 = some (u, n) → v1 = u ∧ a2 = a1 + n ∧ b2 = b1) → ∀ (v2 a3 : Int) (b3 : Bool), (∀ (u n : Nat), getA z a2 = some (u, n) → v2 = u ∧ a3 = a2 + n ∧ b3 = b2) →
        ∀ s, okShard s = true → mkB (encS s) = z → b3 = false ∧ v1 = s.a ∧ v2 = s.b ∧ a3 = posT s := by
      intro v1 a2 b2 e1 v2 a3 b3 e2 s hs he
      obtain ⟨hb1, hA1⟩ := G1 s hs he
      subst hA1
      obtain ⟨q1, q2, q3⟩ := e1 _ _ (read_a hs he)
      have rb := read_b hs he
      rw [show ((2 + (putN s.a.toNat).length : Nat) : Int) = a2 by omega] at rb
      obtain ⟨q4, q5, q6⟩ := e2 _ _ rb
      have := okShard_bd hs
      refine ⟨by rw [q6, q3]; exact hb1, by omega, by omega, ?_⟩
      unfold posT; omega
    have fin : ∀ (c : Nat) (v1 v2 a3 : Int) (b3 : Bool) (h5 : H), c ≠ r → h c = none → Obj h5 c [.int .i64 v1, .int .i64 v2] → Rdr h5 r z a3 b3 → Fr (fun k => k = r) h h5 → 0 ≤ a3 ∧ a3 ≤ z.size → 0 ≤ v1 → 0 ≤ v2 →
        (∀ s, okShard s = true → mkB (encS s) = z → b3 = false ∧ v1 = s.a ∧ v2 = s.b ∧ a3 = posT s) → k (some (at0 c)) h5 := fun c v1 v2 a3 b3 h5 q1 q2 q3 q4 q5 q6 q7 q8 q9 => hk _ _ ⟨c, v1, v2, a3, b3, rfl, q1, q2, q3, q4, q5, q6.1, q6.2, q7, q8, q9⟩
    have newr : ∀ {h2 : H} {c : Nat}, Fr (fun k => k = r) h h2 → h2 c = none → c ≠ r → h c = none := fun {h2 c} f hc hne => by
      cases e : h c with
      | none => rfl
      | some o => have := f c o e hne; rw [hc] at this; cases this
    have frs : ∀ {h2 h3 : H} {c : Nat}, Fr (fun k => k = r) h h2 → h c = none → Fr (fun k => k = c) h2 h3 → Fr (fun k => k = r) h h3 := fun {h2 h3 c} f hc g k o hk hne => g k o (f k o hk hne) (fun e => by subst e; rw [hc] at hk; cases hk)
    refine both_i ?_ ?_
    · refine number_u R1 hz ha1 fun v1 a2 b2 h2 R2 f2 ha2 hv1 e1 _ => both_i ?_ ?_
      · refine number_u R2 hz ha2 fun v2 a3 b3 h3 R3 f3 ha3 hv2 e2 _ => ?_
        refine Obj.new fun c h4 o4 hc g4 => ?_
        have hcr := ne_new R3 hc
        have f03 := (f1.trans f2).trans f3
        have hc0 := newr f03 hc hcr
        refine sts2 o4 fun h5 o5 f5 => ?_
        exact fin c v1 v2 a3 b3 h5 hcr hc0 o5 ((R3.ext g4).fr f5 fun e => hcr e.symm) (frs (f03.trans g4.fr) hc0 f5) ha3 hv1.1 hv2.1 (G2 _ _ _ e1 _ _ _ e2)
      · refine Obj.new fun c h3 o3 hc g3 => ?_
        have hcr := ne_new R2 hc
        have f02 := f1.trans f2
        have hc0 := newr f02 hc hcr
        refine number_u (R2.ext g3) hz ha2 fun v2 a3 b3 h4 R4 f4 ha3 hv2 e2 _ => ?_
        refine sts2 (o3.fr f4 hcr) fun h5 o5 f5 => ?_
        exact fin c v1 v2 a3 b3 h5 hcr hc0 o5 (R4.fr f5 fun e => hcr e.symm) (frs ((f02.trans g3.fr).trans f4) hc0 f5) ha3 hv1.1 hv2.1 (G2 _ _ _ e1 _ _ _ e2)
    · refine Obj.new fun c h2 o2 hc g2 => ?_
      have hcr := ne_new R1 hc
      have hc0 := newr f1 hc hcr
      refine number_u (R1.ext g2) hz ha1 fun v1 a2 b2 h3 R3 f3 ha2 hv1 e1 _ => ?_
      refine number_u R3 hz ha2 fun v2 a3 b3 h4 R4 f4 ha3 hv2 e2 _ => ?_
      refine sts2 ((o2.fr f3 hcr).fr f4 hcr) fun h5 o5 f5 => ?_
      exact fin c v1 v2 a3 b3 h5 hcr hc0 o5 (R4.fr f5 fun e => hcr e.symm) (frs (((f1.trans g2.fr).trans f3).trans f4) hc0 f5) ha3 hv1.1 hv2.1 (G2 _ _ _ e1 _ _ _ e2)
  · rintro p h4 ⟨c, x, y, a3, b3, rfl, hcr, hc0, oc, R4, f4, ha3, ha3', hx0, hy0, G3⟩
    refine with_i (fun (q : Bool) h5 => h5 = h4 ∧ (q = false → b3 = false ∧ okPart x y = true ∧ a3 < z.size) ∧ (∀ s, okShard s = true → mkB (encS s) = z → q = false)) (fun k hk => ?_) ?_
    · refine deref_i ?_
      rw [add0]
      refine loadB_obj R4 rfl (ite_i (fun e => ?_) (fun e => ?_))
      · exact hk _ _ ⟨rfl, (fun e => by cases e), fun s hs he => by have := (G3 s hs he).1; rw [e] at this; cases this⟩
      · refine deref_i (loadI_obj (j := 0) oc rfl (loadI_obj (j := 1) oc rfl (may_i ?_)))
        refine ite_i (fun e2 => ?_) (fun e2 => ?_)
        · have e2 : okPart x y = false := by simpa using e2
          refine hk _ _ ⟨rfl, (fun e => by cases e), fun s hs he => ?_⟩
          obtain ⟨_, q1, q2, _⟩ := G3 s hs he
          have := okShard_bd hs
          unfold okPart at e2
          rw [decide_eq_true (by omega), decide_eq_true (by omega), decide_eq_true (by omega)] at e2
          cases e2
        · have e2 : okPart x y = true := by simpa using e2
          refine deref_i ?_
          rw [add0]
          refine loadI_obj R4 rfl (deref_i ?_)
          rw [add0]
          refine loadS_obj R4 rfl (hk _ _ ⟨rfl, fun e3 => ⟨by simpa using e, e2, by have := of_decide_eq_false e3; omega⟩, fun s hs he => ?_⟩)
          obtain ⟨_, _, _, q3⟩ := G3 s hs he
          have := (read_w he).2
          exact decide_eq_false (by omega)
    · rintro q h5 ⟨rfl, hq1, hq2⟩
      refine ite_i (fun e => ?_) (fun e => ?_)
      · refine deref_i ?_
        rw [add0]
        refine R4.st (by simp) fun h6 o6 f6 => ?_
        refine hQ 0 0 a3 true h6 o6 (f4.trans f6) ⟨ha3, ha3'⟩ (.inl ⟨rfl, rfl⟩) fun s hs he => ?_
        have := hq2 s hs he
        rw [e] at this; cases this
      · obtain ⟨hb3, hp, hlt⟩ := hq1 e
        have hp' := hp
        unfold okPart at hp'
        simp only [Bool.and_eq_true, decide_eq_true_eq] at hp'
        refine deref_i ?_
        rw [add0]
        refine loadS_obj R4 rfl (deref_i ?_)
        rw [add0]
        refine loadI_obj R4 rfl ?_
        have hc := getD_some (l := z.data.toList) (i := a3.toNat) (by rw [size_data]; omega)
        generalize hcw : z.data.toList.getD a3.toNat 0 = c8 at hc
        have hc8 := c8.toNat_lt
        refine byte_i ha3 hc (deref_i (deref_i (loadI_obj (j := 1) oc rfl (deref_i (loadI_obj (j := 0) oc rfl (must_i (by decide) ?_))))))
        rw [add0, cnv_i64 (by omega) (by omega), sub_i64 (by omega) (by omega)]
        have hb : 0 ≤ (y - x) * (c8.toNat : Int) ∧ (y - x) * (c8.toNat : Int) ≤ 256 * 255 := by
          refine ⟨Int.mul_nonneg (by omega) (by omega), Int.mul_le_mul (by omega) (by omega) (by omega) (by omega)⟩
        rw [mul_i64 (by omega) (by omega), add_i64 (a := (y - x) * (c8.toNat : Int)) (b := 7) (by omega) (by omega), quo_i64 (a := (y - x) * (c8.toNat : Int) + 7) (b := 8) (by omega) (by omega) (by omega), add_i64 (by omega) (by omega)]
        refine skip_u R4 hz ⟨ha3, ha3'⟩ (by omega) fun a5 b5 h6 R6 f6 ha5 g5 _ => ?_
        refine deref_i (loadI_obj (j := 0) (oc.fr f6 hcr) rfl (loadI_obj (j := 1) (oc.fr f6 hcr) rfl ?_))
        refine hQ x y a5 b5 h6 R6 (f4.trans f6) ha5 (.inr hp) fun s hs he => ?_
        obtain ⟨_, q1, q2, q3⟩ := G3 s hs he
        obtain ⟨w1, w2⟩ := read_w he
        rw [q3, show ((posT s : Nat) : Int).toNat = posT s from rfl, w1] at hc
        have hwl := wl_small hs
        have e8 : c8.toNat = wl (degs s.out) := by
          cases hc
          rw [UInt8.toNat_ofNat']; omega
        have hob := okShard_bd hs
        have et : ((y - x) * (c8.toNat : Int) + 7) / 8 = (tabL' s : Nat) := by
          rw [tab_len, e8]
          have : y - x = (s.out.length : Int) := by omega
          rw [this]
          push_cast
          rfl
        rw [et] at g5
        obtain ⟨q4, q5⟩ := g5 (by omega)
        refine ⟨by rw [q5]; exact hb3, q1, q2, ?_⟩
        rw [q4, q3]
        unfold posL
        simp
        omega
structure Rd2 (h0 h : H) (r : Nat) (v : Sl) (out : List (List Int)) : Prop where
  ex : ∃ svs : List Sl, Vec h v eL svs ∧ svs.length = out.length ∧ (∀ (i : Nat) (w : Sl) (l : List Int), svs[i]? = some w → out[i]? = some l → Arr h w (eI .i64) l) ∧ ∀ w ∈ svs, ∀ k, w.on k → (∃ o, h k = some o) ∧ ¬ v.on k ∧ k ≠ r ∧ h0 k = none
  new : New h0 v
  nr : ∀ k, v.on k → k ≠ r
theorem Rd2.rows {h0 h : H} {r : Nat} {v : Sl} {out : List (List Int)} (R : Rd2 h0 h r v out) : Rows2 h v out := by
  obtain ⟨⟨svs, V, hl, hr, _⟩, _, _⟩ := R
  exact ⟨svs, V.arr, hl, hr⟩
def RowsN (h0 h : H) (v : Sl) (out : List (List Int)) : Prop := ∃ svs : List Sl, Arr h v eL svs ∧ svs.length = out.length ∧ (∀ (i : Nat) (w : Sl) (l : List Int), svs[i]? = some w → out[i]? = some l → Arr h w (eI .i64) l) ∧ New h0 v ∧ ∀ w ∈ svs, New h0 w
theorem RowsN.ext {h0 h h' : H} {v : Sl} {out : List (List Int)} (R : RowsN h0 h v out) (e : Ext h h') : RowsN h0 h' v out := by
  obtain ⟨svs, A, hl, hr, n1, n2⟩ := R
  exact ⟨svs, A.ext e, hl, fun i w l h1 h2 => (hr i w l h1 h2).ext e, n1, n2⟩
theorem Rd2.rowsN {h0 h : H} {r : Nat} {v : Sl} {out : List (List Int)} (R : Rd2 h0 h r v out) : RowsN h0 h v out := by
  obtain ⟨⟨svs, V, hl, hr, hb⟩, nw, _⟩ := R
  exact ⟨svs, V.arr, hl, hr, nw, fun w hw k hk => (hb w hw k hk).2.2.2⟩
theorem Rd2.fr {h0 h h' : H} {r : Nat} {v : Sl} {out : List (List Int)} (R : Rd2 h0 h r v out) (f : Fr (fun k => k = r) h h') : Rd2 h0 h' r v out := by
  obtain ⟨⟨svs, V, hl, hr, hb⟩, nw, nr⟩ := R
  refine ⟨⟨svs, V.fr f fun b hb => nr b hb, hl, fun i w l h1 h2 => (hr i w l h1 h2).fr f fun b hw => (hb w (List.mem_of_getElem? h1) b hw).2.2.1, fun w hw k hk => ?_⟩, nw, nr⟩
  obtain ⟨⟨o, ho⟩, h2, h3, h4⟩ := hb w hw k hk
  exact ⟨⟨o, f k o ho h3⟩, h2, h3, h4⟩
theorem Rd2.add {h0 h : H} {r : Nat} {v : Sl} {out : List (List Int)} (R : Rd2 h0 h r v out) (g : ∀ k, h k = none → h0 k = none) {cs : List Value} (o : Obj h r cs) {w : Sl} {l : List Int} (A : Arr h w (eI .i64) l) (hw : ∀ k, w.on k → (∃ o, h k = some o) ∧ ¬ v.on k ∧ k ≠ r ∧ h0 k = none) (hl : out.length ≤ 1000000)
    {K : Sl → HProp} (hK : ∀ u h', Rd2 h0 h' r u (out ++ [l]) → Fr v.on h h' → K u h') : appendW v [.slice none 0 0] 24 1 [.slice w.a w.len w.cap] K h := by
  obtain ⟨⟨svs, V, hsl, hr, hb⟩, nw, nr⟩ := R
  refine Vec.append V (m := [w]) rfl rfl rfl (by omega) fun u h' V' f ub => hK u h' ⟨⟨svs ++ [w], V', by simp [hsl], ?_, ?_⟩, ?_, ?_⟩ f
  · intro i w' l' h1 h2
    by_cases hi : i < svs.length
    · rw [List.getElem?_append_left hi] at h1
      rw [List.getElem?_append_left (by omega)] at h2
      exact (hr i w' l' h1 h2).fr f fun b hb' => (hb w' (List.mem_of_getElem? h1) b hb').2.1
    · rw [List.getElem?_append_right (by omega)] at h1
      rw [List.getElem?_append_right (by omega)] at h2
      have hi0 : i - svs.length = 0 := by
        have := (List.getElem?_eq_some_iff.1 h1).1
        simp at this; omega
      rw [hi0] at h1
      rw [show i - out.length = 0 by omega] at h2
      simp at h1 h2
      subst h1; subst h2
      exact A.fr f fun b hb' => (hw b hb').2.1
  · intro w' hw' k hk
    have base : (∃ o, h k = some o) ∧ ¬ v.on k ∧ k ≠ r ∧ h0 k = none := by
      rcases List.mem_append.1 hw' with h1 | h1
      · exact hb w' h1 k hk
      · simp at h1; subst h1; exact hw k hk
    obtain ⟨⟨o', ho⟩, h2, h3⟩ := base
    refine ⟨⟨o', f k o' ho h2⟩, fun hu => ?_, h3⟩
    rcases ub k hu with h4 | h4
    · exact h2 h4
    · rw [ho] at h4; cases h4
  · intro b hb'
    rcases ub b hb' with h4 | h4
    · exact nw b h4
    · exact g b h4
  · intro k hk e
    rcases ub k hk with h4 | h4
    · exact nr k h4 e
    · subst e; unfold Obj at o; rw [h4] at o; cases o
theorem shDecode_i {z : ByteArray} {h : H} (hz : z.size ≤ 1000000) {Q : Int × Int × Sl × Int → HProp}
    (h1 : ∀ s, okShard s = true → mkB (encS s) = z → ∀ v h', RowsN h h' v s.out → Ext h h' → Q (s.a, s.b, v, 0) h') (h2 : (∀ s, okShard s = true → mkB (encS s) ≠ z) → ∀ h', Ext h h' → Q (0, 0, ⟨none, 0, 0⟩, 10) h') : shards_Decode z Q h := by
  unfold shards_Decode shards_Decode_F
  simp only [ltI_eq, eqI_eq]
  refine Obj.new fun r hA oA hr gA => ?_
  refine part_i oA hz fun x y a1 b1 hB oB fB ha1 hxy G => ?_
  have extB : Ext h hB := Ext.of_new gA fB fun k hk => by subst hk; exact hr
  have hsub : sub .i64 y x = y - x ∧ y - x ≤ 256 := by
    rcases hxy with ⟨rfl, rfl⟩ | hp
    · exact ⟨sub_i64 (by decide) (by decide), by decide⟩
    · unfold okPart at hp
      simp only [Bool.and_eq_true, decide_eq_true_eq] at hp
      exact ⟨sub_i64 (by omega) (by omega), by omega⟩
  rw [hsub.1]
  have hx0 : -9223372036854775808 ≤ x ∧ x ≤ 9223372036854775807 := by
    rcases hxy with ⟨rfl, rfl⟩ | hp
    · decide
    · unfold okPart at hp
      simp only [Bool.and_eq_true, decide_eq_true_eq] at hp
      omega
  refine loop_i (fun (s : Int × Int × Int × Sl) h' => ∃ (i : Nat) (out : List (List Int)) (a2 : Int) (b2 : Bool), s.1 = i ∧ s.2.1 = x ∧ s.2.2.1 = y ∧ out.length = i ∧ ((i : Int) ≤ y - x ∨ i = 0) ∧ (∀ l ∈ out, l.length ≤ 1000000) ∧ Rd2 h h' r s.2.2.2 out ∧ Rdr h' r z a2 b2 ∧ Ext h h' ∧ 0 ≤ a2 ∧ a2 ≤ z.size ∧
      (∀ s, okShard s = true → mkB (encS s) = z → b2 = false ∧ x = s.a ∧ y = s.b ∧ a2 = posL s i ∧ out = s.out.take i)) (fun s => (y - x - s.1).toNat)
    ⟨0, [], a1, b1, rfl, rfl, rfl, rfl, .inr rfl, by simp, ⟨⟨[], Vec.nil0, rfl, by simp, by simp⟩, New.nil0, fun k hk => by obtain ⟨a, ha, _⟩ := hk; cases ha⟩, oB, extB, ha1.1, ha1.2, fun s hs he => by obtain ⟨q1, q2, q3, q4⟩ := G s hs he; exact ⟨q1, q2, q3, q4, rfl⟩⟩ ?_
  rintro ⟨i', x', y', v⟩ hC ⟨i, out, a2, b2, hi, hx', hy', hol, hiy, hml, R, o2, gC, ha2, ha2', G2⟩ k hk
  simp only at hi hx' hy' R
  subst hi; subst hx'; subst hy'
  dsimp only
  refine ite_i (fun e => ?_) (fun e => ?_)
  · have e := of_decide_eq_true e
    rw [add0]
    refine rlist_u o2 hz ⟨ha2, ha2'⟩ fun w l a3 b3 hD A nw hll o3 f3 ha3 g3 _ => ?_
    have R3 := R.fr f3
    have gD : Ext h hD := Ext.of_new gC f3 fun k hk => by subst hk; exact hr
    have noneD : ∀ k, hD k = none → h k = none := fun k hk => gD.none hk
    have NW : ∀ b, w.on b → (∃ o, hD b = some o) ∧ ¬ v.on b ∧ b ≠ r ∧ h b = none := by
      intro b hb
      refine ⟨(nw b hb).2, fun hv => ?_, fun e => ?_, gC.none (nw b hb).1⟩
      · obtain ⟨⟨svs, V, _⟩, _, _⟩ := R
        obtain ⟨o', ho'⟩ := V.there hv
        rw [(nw b hb).1] at ho'; cases ho'
      · subst e
        unfold Rdr Obj at o2
        rw [(nw b hb).1] at o2; cases o2
    refine R3.add noneD o3 A NW (by omega) fun u hE RE fE => ?_
    · rw [add_i64 (by omega) (by omega)]
      refine hk _ _ ⟨i + 1, out ++ [l], a3, b3, rfl, rfl, rfl, by simp [hol], .inl (by omega), ?_, RE, o3.fr fE fun hv => R3.nr _ hv rfl, Ext.of_new gD fE fun k hk => R3.new k hk, ha3.1, ha3.2, fun s hs he => ?_⟩ (by show (y' - x' - ((i : Int) + 1)).toNat < (y' - x' - (i : Int)).toNat; omega)
      · intro m hm
        rcases List.mem_append.1 hm with h | h
        · exact hml m h
        · simp at h; subst h; exact hll
      · obtain ⟨q1, q2, q3, q4, q5⟩ := G2 s hs he
        have hob := okShard_bd hs
        have hlt : i < s.out.length := by omega
        obtain ⟨rl, rp⟩ := read_l hs he hlt
        rw [← q4] at rl
        obtain ⟨q6, q7, q8⟩ := g3 _ _ rl
        refine ⟨by rw [q8]; exact q1, q2, q3, by rw [q7, rp, q4]; omega, ?_⟩
        rw [q6, q5, List.take_succ_eq_append_getElem hlt]
  · have e := of_decide_eq_false e
    rw [add0]
    refine loadB_obj o2 rfl (ite_i (fun e2 => ?_) (fun e2 => ?_))
    · refine h2 (fun s hs he => ?_) hC gC
      have := (G2 s hs he).1
      rw [e2] at this; cases this
    · have hil : i ≤ 256 := by omega
      have hmany : manyS out ≤ 1000000000 := by
        have : ∀ (o : List (List Int)), (∀ l ∈ o, l.length ≤ 1000000) → manyS o ≤ 1000000 * o.length := by
          intro o
          induction o with
          | nil => intro _; simp [manyS]
          | cons l r ih =>
            intro h
            have h1 := h l (List.mem_cons_self ..)
            have h2 := ih fun m hm => h m (List.mem_cons_of_mem _ hm)
            have : manyS (l :: r) = l.length + manyS r := by simp [manyS]
            rw [this, List.length_cons]; omega
        have := this out hml
        omega
      refine shEncode_i R.rows hx0 hmany (by omega) hml fun hD gD => ?_
      have gCD := gC.trans gD
      have key : (okShard ⟨x', y', out⟩ = true ∧ mkB (encS ⟨x', y', out⟩) = z) ∨ (∀ s, okShard s = true → mkB (encS s) ≠ z) := by
        by_cases hg : okShard ⟨x', y', out⟩ = true ∧ mkB (encS ⟨x', y', out⟩) = z
        · exact .inl hg
        · refine .inr fun s hs he => hg ?_
          obtain ⟨_, q2, q3, _, q5⟩ := G2 s hs he
          have hob := okShard_bd hs
          have : (⟨x', y', out⟩ : Shd) = s := by
            rw [List.take_of_length_le (by omega)] at q5
            rw [q2, q3, q5]
          rw [this]; exact ⟨hs, he⟩
      rcases key with ⟨hk1, hk2⟩ | hno
      · rw [if_pos hk1, hk2]
        refine with_i (fun (q : Bool) h5 => h5 = hD ∧ q = false) (fun k hk => ite_f (by rfl) (hk _ _ ⟨rfl, ?_⟩)) ?_
        · rw [eqS_eq]; simp
        · rintro q h5 ⟨rfl, rfl⟩
          exact ite_f rfl (h1 ⟨x', y', out⟩ hk1 hk2 v _ (R.rowsN.ext gD) gCD)
      · refine with_i (fun (q : Bool) h5 => h5 = hD ∧ q = true) (fun k hk => ?_) ?_
        · cases hok : okShard ⟨x', y', out⟩ with
          | false =>
            exact ite_t (by rfl) (hk _ _ ⟨rfl, rfl⟩)
          | true =>
            refine ite_f (by rfl) (hk _ _ ⟨rfl, ?_⟩)
            rw [eqS_eq]
            have := hno _ hok
            simpa using this
        · rintro q h5 ⟨rfl, rfl⟩
          exact ite_t rfl (h2 hno _ gCD)
end Go.Cz.S
