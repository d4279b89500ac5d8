/- Part of the proof of a law of 28: an engine that runs a function over an abstract heap, and what the functions compute; own work. -/
import Derived.Test.YtpmojjeehmadpaaP28m
set_option linter.unusedVariables false
set_option linter.unusedSimpArgs false
set_option linter.unusedSectionVars false
namespace Go.Cz.S
set_option maxRecDepth 100000
set_option maxHeartbeats 1000000
set_option linter.unusedSimpArgs false
set_option linter.unusedVariables false

/-! ## Turn: what all need as much -/
def setN (d : Int) (e : Ent) : Ent := { e with need := d }
section
variable {d : Int} {all : List Ent}
theorem hit_map {p : Ent → Bool} (hp : ∀ e, p (setN d e) = p e) (j : Nat) : hit p (all.map (setN d)) j = hit p all j := by
  unfold hit
  rw [List.getElem?_map]
  cases all[j]? with
  | none => rfl
  | some e => exact hp e
theorem ids_map {p : Ent → Bool} (hp : ∀ e, p (setN d e) = p e) : ids p (all.map (setN d)) = ids p all := by
  unfold ids idsT
  rw [List.length_map]
  congr 2
  funext j
  exact hit_map hp j
theorem upd_map {f : Ent → Ent} (hf : ∀ e, f (setN d e) = setN d (f e)) (id : Int) : upd f (all.map (setN d)) id = (upd f all id).map (setN d) := by
  unfold upd
  rw [List.getElem?_map]
  cases all[(id - 1).toNat]? with
  | none => rfl
  | some e => simp only [Option.map_some, hf, List.map_set]
theorem foldl_map {f : Ent → Ent} (hf : ∀ e, f (setN d e) = setN d (f e)) : ∀ (l : List Int) (all : List Ent), l.foldl (upd f) (all.map (setN d)) = (l.foldl (upd f) all).map (setN d)
  | [], all => rfl
  | x :: r, all => by rw [List.foldl_cons, upd_map hf, foldl_map hf r, List.foldl_cons]
theorem getE_map (id : Int) : getE (all.map (setN d)) id = (getE all id).map (setN d) := by
  unfold getE
  split
  · rfl
  · rw [List.getElem?_map]
theorem ahead_map : aheadC (all.map (setN d)) = aheadC all := by
  funext x y
  unfold aheadC
  rw [getE_map, getE_map]
  cases getE all x <;> cases getE all y <;> rfl
theorem poll_map (id : Int) : pollF (all.map (setN d)) id = pollF all id := by
  unfold pollF
  rw [getE_map]
  cases getE all id <;> rfl
theorem need_map {id : Int} {j : Nat} (hid : id = ((j + 1 : Nat) : Int)) (hj : j < all.length) : needAt (all.map (setN d)) id = d := by
  subst hid
  unfold needAt
  rw [show (((j + 1 : Nat) : Int) - 1).toNat = j by omega, List.getElem?_map, List.getElem?_eq_getElem hj]
  rfl
theorem fold_need (h0 : 0 ≤ d) : ∀ (l : List Int) (a : Int), 0 ≤ a → a + (l.length : Int) * d ≤ 9000000000000000000 → (∀ x ∈ l, ∃ j : Nat, x = ((j + 1 : Nat) : Int) ∧ j < all.length) →
    l.foldl (fun n id => add .i64 n (needAt (all.map (setN d)) id)) a = a + (l.length : Int) * d
  | [], a, _, _, _ => by simp
  | x :: r, a, a0, hb, hx => by
    obtain ⟨j, hj, hjl⟩ := hx x (List.mem_cons_self ..)
    rw [List.foldl_cons, need_map hj hjl]
    have hm : ((x :: r).length : Int) * d = d + (r.length : Int) * d := by
      rw [List.length_cons, Int.natCast_succ, Int.add_mul]; omega
    rw [hm] at hb ⊢
    have hnn : 0 ≤ (r.length : Int) * d := Int.mul_nonneg (by omega) h0
    rw [add_i64 (by omega) (by omega), fold_need h0 r (a + d) (by omega) (by omega) fun y hy => hx y (List.mem_cons_of_mem _ hy)]
    omega
theorem used_map (h0 : 0 ≤ d) (hb : ((ids isA all).length : Int) * d ≤ 9000000000000000000) : usedF (all.map (setN d)) = ((ids isA all).length : Int) * d := by
  unfold usedF
  rw [ids_map (fun e => rfl), fold_need h0 _ 0 (Int.le_refl _) (by omega) fun x hx => ids_on x hx]
  omega
theorem tick1_map : tick1 (all.map (setN d)) = (tick1 all).map (setN d) := by
  unfold tick1
  rw [ids_map (fun e => rfl), foldl_map (f := incE) (fun e => rfl)]
/-- admission where so many fit -/
def admit1G (cap : Nat) (all : List Ent) : Option (List Ent) :=
  if (ids isA all).length < cap then
    if (ids isQ all).length = 0 then none else some (upd runE all (minF (aheadC all) (ids isQ all)))
  else none
def admitNG (cap : Nat) : Nat → List Ent → List Ent
  | 0, all => all
  | g + 1, all => match admit1G cap all with | none => all | some all' => admitNG cap g all'
def tickG (cap : Nat) (all : List Ent) : Res :=
  let all2 := admitNG cap (ids isQ (tick1 all)).length (tick1 all)
  if (ids isA all2).length = 0 then ⟨(1, 0, 0, 0), 0, all2⟩
  else ⟨(2, 0, 0, 0), 0, (ids isA all2).foldl (upd expE) all2⟩
def stepG (cap : Nat) (all : List Ent) : Res5 :=
  if (ids isX all).length = 0 then ⟨((tickG cap all).ev.1, (tickG cap all).ev.2.1, (tickG cap all).ev.2.2.1, (tickG cap all).ev.2.2.2, 0), 0, (tickG cap all).all⟩
  else match (ids isX all)[0]? with
    | some id => ⟨(3, 0, id, 0, 0), 0, upd (serveE 1 0) all id⟩
    | none => ⟨(0, 0, 0, 0, 2), 0, all⟩
/-- so many of that much fit into 4000 -/
def Fits (cap : Nat) (d : Int) : Prop := 1 ≤ cap ∧ cap ≤ 4 ∧ 256 ≤ d ∧ d ≤ 4000 ∧ (cap : Int) * d ≤ 4000 ∧ (cap = 4 ∨ 4000 < ((cap : Int) + 1) * d)
theorem admit1_map {cap : Nat} (F : Fits cap d) : admit1 4000 (all.map (setN d)) = (admit1G cap all).map (List.map (setN d)) := by
  obtain ⟨c1, c4, d0, d1, f1, f2⟩ := F
  unfold admit1 admit1G
  rw [ids_map (p := isA) (fun e => rfl), ids_map (p := isQ) (fun e => rfl), ahead_map]
  have hcap : cap = 1 ∨ cap = 2 ∨ cap = 3 ∨ cap = 4 := by omega
  by_cases hq : (ids isQ all).length = 0
  · simp [hq]
  · have hne : ids isQ all ≠ [] := fun e => hq (by rw [e]; rfl)
    obtain ⟨j, e, hx, hj, he, _⟩ := mem_ids (minF_mem (aheadC all) _ hne)
    rw [need_map hx hj, upd_map (f := runE) (fun e => rfl)]
    by_cases hc : (ids isA all).length < 4
    · have hu : usedF (all.map (setN d)) = ((ids isA all).length : Int) * d := used_map (by omega) (by
        have : (ids isA all).length = 0 ∨ (ids isA all).length = 1 ∨ (ids isA all).length = 2 ∨ (ids isA all).length = 3 := by omega
        rcases this with h | h | h | h <;> rw [h] <;> omega)
      rw [if_pos hc, if_neg hq, hu]
      have hn : (ids isA all).length = 0 ∨ (ids isA all).length = 1 ∨ (ids isA all).length = 2 ∨ (ids isA all).length = 3 := by omega
      by_cases hk : (ids isA all).length < cap
      · rw [if_pos hk, if_neg hq, if_neg]
        · rfl
        · have : ((ids isA all).length : Int) * d + d ≤ 4000 := by
            rcases hcap with rfl | rfl | rfl | rfl <;> rcases hn with h | h | h | h <;> rw [h] at hk ⊢ <;> omega
          have h0 : 0 ≤ ((ids isA all).length : Int) * d := Int.mul_nonneg (by omega) (by omega)
          rw [sub_i64 (by omega) (by omega)]
          omega
      · rw [if_neg hk, if_pos]
        · rfl
        · have : 4000 < ((ids isA all).length : Int) * d + d := by
            rcases hcap with rfl | rfl | rfl | rfl <;> rcases hn with h | h | h | h <;> rw [h] at hk ⊢ <;> omega
          have h0 : 0 ≤ ((ids isA all).length : Int) * d := Int.mul_nonneg (by omega) (by omega)
          have h1 : ((ids isA all).length : Int) * d ≤ 100000 := by rcases hn with h | h | h | h <;> rw [h] <;> omega
          rw [sub_i64 (by omega) (by omega)]
          omega
    · rw [if_neg hc, if_neg (by omega)]
      rfl
theorem admitN_map {cap : Nat} (F : Fits cap d) : ∀ (g : Nat) (all : List Ent), admitN 4000 g (all.map (setN d)) = (admitNG cap g all).map (setN d)
  | 0, all => rfl
  | g + 1, all => by
    unfold admitN admitNG
    rw [admit1_map F]
    cases admit1G cap all with
    | none => rfl
    | some all' => exact admitN_map F g all'
def turnC : Cfg := ⟨3, 1, 4000, []⟩
theorem rem1 (x : Int) : rem x 1 = 0 := by unfold rem; exact Int.tmod_one x
theorem serve_map (e : Ent) : serveE 1 0 (setN d e) = setN d (serveE 1 0 e) := by
  unfold serveE
  simp only [ne_eq, not_true_eq_false, if_false]
  by_cases h1 : add .i64 e.had 1 < 1
  · rw [if_pos (show add .i64 (setN d e).had 1 < 1 from h1), if_pos h1]; rfl
  · rw [if_neg (show ¬ add .i64 (setN d e).had 1 < 1 from h1), if_neg h1]
    by_cases h2 : add .i64 e.round 1 = e.takes
    · rw [if_pos (show add .i64 (setN d e).round 1 = (setN d e).takes from h2), if_pos h2]; rfl
    · rw [if_neg (show ¬ add .i64 (setN d e).round 1 = (setN d e).takes from h2), if_neg h2]; rfl
theorem step_map {cap : Nat} (F : Fits cap d) : stepF turnC 0 (all.map (setN d)) 0 0 = ⟨(stepG cap all).ev, 0, (stepG cap all).all.map (setN d)⟩ := by
  have ht : ∀ pos, tickF turnC pos (all.map (setN d)) 0 = ⟨(tickG cap all).ev, if (tickG cap all).ev.1 = 1 then pos else 0, (tickG cap all).all.map (setN d)⟩ := by
    intro pos
    unfold tickF tickG admitF
    simp only [tick1_map]
    rw [ids_map (p := isQ) (fun e => rfl), show turnC.tot = 4000 from rfl, admitN_map F, ids_map (p := isA) (fun e => rfl)]
    split
    · rfl
    · rw [if_neg (by decide), show turnC.k = 1 from rfl, rem1, foldl_map (f := expE) (fun e => rfl)]
      rfl
  unfold stepF stepG
  rw [ids_map (p := isX) (fun e => rfl), ht]
  split
  · simp
  · rename_i hz
    rw [if_neg (by omega), show (0 : Int).toNat = 0 from rfl]
    cases (ids isX all)[0]? with
    | none => rfl
    | some id => simp only [show turnC.k = 1 from rfl]; rw [upd_map serve_map]
theorem step_map' {cap : Nat} (F : Fits cap d) (pos : Int) : (stepF turnC pos (all.map (setN d)) 0 0).ev.1 = (stepG cap all).ev.1 ∧ (stepF turnC pos (all.map (setN d)) 0 0).ev.2.2.2.2 = (stepG cap all).ev.2.2.2.2 ∧ (stepF turnC pos (all.map (setN d)) 0 0).all = (stepG cap all).all.map (setN d) := by
  have h0 := step_map (all := all) F
  have ht : ∀ pos, (tickF turnC pos (all.map (setN d)) 0).ev = (tickF turnC 0 (all.map (setN d)) 0).ev ∧ (tickF turnC pos (all.map (setN d)) 0).all = (tickF turnC 0 (all.map (setN d)) 0).all := by
    intro pos
    unfold tickF
    simp only [show turnC.k = 1 from rfl, rem1]
    split
    · exact ⟨rfl, rfl⟩
    · exact ⟨rfl, rfl⟩
  unfold stepF at h0 ⊢
  by_cases hz : (ids isX (all.map (setN d))).length = 0
  · rw [if_pos hz] at h0 ⊢
    simp only [(ht pos).1, (ht pos).2]
    have a := congrArg Res5.ev h0
    have b := congrArg Res5.all h0
    simp only at a b
    rw [← a]
    exact ⟨rfl, rfl, b⟩
  · rw [if_neg hz] at h0 ⊢
    by_cases hp : (0 : Int) < 0 ∨ ((ids isX (all.map (setN d))).length : Int) ≤ 0
    · rw [if_pos hp] at h0 ⊢
      have a := congrArg Res5.ev h0
      have b := congrArg Res5.all h0
      simp only at a b
      rw [← a]
      exact ⟨rfl, rfl, b⟩
    · rw [if_neg hp] at h0 ⊢
      cases hq : (ids isX (all.map (setN d)))[(0 : Int).toNat]? with
      | none =>
        rw [hq] at h0
        have a := congrArg Res5.ev h0
        have b := congrArg Res5.all h0
        simp only at a b
        rw [← a]
        exact ⟨rfl, rfl, b⟩
      | some id =>
        rw [hq] at h0
        have a := congrArg Res5.ev h0
        have b := congrArg Res5.all h0
        simp only at a b
        rw [← a]
        exact ⟨rfl, rfl, b⟩
end
def inner1 (all : List Ent) (st : Option (Int × Int)) (j : Nat) : Option (Int × Int) := match st with
  | none => none
  | some (last, run) =>
    if (pollF all ((j : Int) + 1)).1 ≠ 1 ∧ last < (j : Int) + 1 then (if (j : Int) + 1 ≠ last + 1 then none else some ((j : Int) + 1, if (pollF all ((j : Int) + 1)).1 = 2 then run + 1 else run))
    else some (last, if (pollF all ((j : Int) + 1)).1 = 2 then run + 1 else run)
def innerF (all : List Ent) (n : Nat) (last : Int) : Option (Int × Int) := (List.range n).foldl (inner1 all) (some (last, 0))
def chk (cap n : Nat) : Nat → List Ent → Int → Bool
  | 0, _, _ => false
  | f + 1, all, last => decide ((stepG cap all).ev.2.2.2.2 = 0) && (if (stepG cap all).ev.1 = 1 then decide (last = n) else match innerF (stepG cap all).all n last with
    | none => false
    | some (last', run) => decide (run ≤ cap) && decide (run = (ids isA (stepG cap all).all).length) && chk cap n f (stepG cap all).all last')
set_option maxHeartbeats 4000000 in
theorem chk_all : ∀ n : Fin 8, ∀ c : Fin 4, chk (c.val + 1) (n.val + 1) 200 (List.replicate (n.val + 1) (newE 2 2 0 0 2)) 0 = true := by
  unfold chk
  decide +kernel
end Go.Cz.S
