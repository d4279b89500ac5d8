/- Part of the proof of a law of 29: an engine that runs a function over an abstract heap, and what the functions compute; own work. -/
import Derived.Test.YtaoocldgpnmfkaaGreatDoorGB
import Derived.OpenShut
import Derived.SizedLaws
import Derived.Carry
import Derived.ProofKit
set_option linter.unusedVariables false
set_option linter.unusedSimpArgs false
set_option linter.unusedSectionVars false
namespace Go.Cz
open Go
set_option linter.unusedSimpArgs false
set_option linter.unusedVariables false
inductive Lf where
  | i (k : IntKind) | b | s | sl (e : List Lf)
def lfTy : Lf → Ty
  | .i k => .o (.i k) | .b => .o .b | .s => .o .s | .sl _ => .o .sl
def SV.ofA : Value → SV
  | .int k n => .i k n | .bool c => .b c | .string z => .s z | .slice a l c => .sl ⟨a, l, c⟩ | _ => .und
mutual
def Rd (h : H) : Lf → SV → Prop
  | .i k, x => ∃ n, x = .i k n ∧ (Lit.int k n).wf = true
  | .b, x => ∃ c, x = .b c
  | .s, x => ∃ z, x = .s z ∧ z.size ≤ maxLen
  | .sl e, x => ∃ v : Sl, x = .sl v ∧ v.len ≤ v.cap ∧ v.cap ≤ maxLen ∧ (v.a = none → v.cap = 0) ∧
      ∃ rows : List (List Value), rows.length = v.len ∧ h.row? v.a (v.len * e.length) = some rows.flatten ∧ ∀ r ∈ rows, RdL h e (r.map SV.ofA)
def RdL (h : H) : List Lf → List SV → Prop
  | [], vs => vs = []
  | x :: r, vs => ∃ v us, vs = v :: us ∧ Rd h x v ∧ RdL h r us
end
/-- all that lies there, as a part that nobody writes -/
def heapRO (W : World) : H := fun b => match W.heap[b]? with
  | some (.cells c _ _) => some (.cells c.toList false)
  | _ => none
theorem hpart_ro (P : Program) (W : World) : Hpart P W (heapRO W) := by
  constructor
  intro b o hb
  unfold heapRO at hb
  split at hb
  · rename_i c' T fz h
    cases hb
    exact ⟨T, fz, by simp [h], fun h => by cases h⟩
  · cases hb
theorem calm_ro (W : World) (b : Nat) : calm (heapRO W) b := by
  intro o hb
  unfold heapRO at hb
  split at hb
  · cases hb; exact ⟨_, rfl⟩
  · cases hb
/-- fields that lie one behind the other -/
def fieldsL (P : Program) (f : TypeId → Option (List Lf)) : List Field → Nat → Option (List Lf)
  | [], _ => some []
  | x :: r, o => match f x.type, fieldsL P f r (o + P.cellsOf x.type) with
    | some l, some m => if Nat.beq x.offset o && Nat.beq l.length (P.cellsOf x.type) then some (l ++ m) else none
    | _, _ => none
def leavesT (P : Program) : Nat → TypeId → Option (List Lf)
  | 0, _ => none
  | d + 1, t => match P.underlying t with
    | some .bool => some [.b]
    | some (.int k) => some [.i k]
    | some .string => some [.s]
    | some (.slice e) => match leavesT P d e with | some l => if Nat.beq l.length (P.cellsOf e) then some [.sl l] else none | none => none
    | some (.struct fs) => match fieldsL P (leavesT P d) fs.toList 0 with | some l => if Nat.beq l.length (P.cellsOf t) then some l else none | none => none
    | some (.array n e) => match leavesT P d e with | some l => if Nat.beq l.length (P.cellsOf e) && Nat.beq (n * P.cellsOf e) (P.cellsOf t) then some (List.replicate n l).flatten else none | none => none
    | _ => none
theorem RdL_append {h : H} : ∀ {l m : List Lf} {vs us : List SV}, RdL h l vs → RdL h m us → RdL h (l ++ m) (vs ++ us)
  | [], m, vs, us, h1, h2 => by simp only [RdL] at h1; subst h1; exact h2
  | x :: r, m, vs, us, h1, h2 => by
    simp only [RdL] at h1
    obtain ⟨v, ws, rfl, h3, h4⟩ := h1
    simp only [List.cons_append, RdL]
    exact ⟨v, ws ++ us, rfl, h3, RdL_append h4 h2⟩
theorem RdL_length {h : H} : ∀ {l : List Lf} {vs : List SV}, RdL h l vs → l.length = vs.length
  | [], vs, h1 => by simp only [RdL] at h1; subst h1; rfl
  | x :: r, vs, h1 => by
    simp only [RdL] at h1
    obtain ⟨v, ws, rfl, h3, h4⟩ := h1
    simp [RdL_length h4]
theorem mapM_list {α β : Type} {f : α → Option β} : ∀ {l : List α} {r : List β}, l.mapM f = some r → r.length = l.length ∧ ∀ (i : Nat) (x : α), l[i]? = some x → ∃ y, r[i]? = some y ∧ f x = some y
  | [], r, h => by
    simp at h; subst h; simp
  | x :: l, r, h => by
    rw [List.mapM_cons] at h
    cases hx : f x with
    | none => simp [hx] at h
    | some y =>
      cases hl : l.mapM f with
      | none => simp [hx, hl] at h
      | some q =>
        simp [hx, hl] at h
        subst h
        obtain ⟨h1, h2⟩ := mapM_list hl
        refine ⟨by simp [h1], fun i x' hi => ?_⟩
        cases i with
        | zero => simp at hi; subst hi; exact ⟨y, by simp, hx⟩
        | succ i => simpa using h2 i x' (by simpa using hi)
section
variable {HH : Type} {enc : TypeId × Value → HH} {P : Program} {W : World} {spare : Nat → Bool} {held : Bool}
theorem cells?_ro {a : Addr} {n : Nat} {cs : List Value} (h : W.cells? 0 a n = some cs) : cs.length = n ∧ ∀ i v, cs[i]? = some v → W.cell? (a.add i) = some v := by
  unfold World.cells? at h
  split at h
  · obtain ⟨h1, h2⟩ := mapM_list h
    have hl : cs.length = n := by simpa using h1
    refine ⟨hl, fun i v hv => ?_⟩
    have hi : i < n := by rw [← hl]; exact (List.getElem?_eq_some_iff.1 hv).1
    obtain ⟨y, hy, hf⟩ := h2 i i (by simp [hi])
    rw [hv] at hy; cases hy; exact hf
  · cases h
/-- cells of the world, side by side, are a row of the part that nobody writes -/
theorem row_ro {a : Addr} {cs : List Value} (h : ∀ i v, cs[i]? = some v → W.cell? (a.add i) = some v) : (heapRO W).row? (some a) cs.length = some cs := by
  unfold H.row?
  split
  · rename_i h0
    rw [List.length_eq_zero_iff.1 h0]
  · rename_i h0
    have hpos : 0 < cs.length := Nat.pos_of_ne_zero h0
    have e0 := h 0 cs[0] (by simp [hpos])
    simp only
    have hsp : a.spot = none := by
      cases hs : a.spot with
      | none => rfl
      | some q =>
        have : (a.add 0).spot = some q := by unfold Addr.add; split <;> simp_all
        simp only [World.cell?] at e0
        split at e0
        · simp [this] at e0
        · cases e0
    have eadd : ∀ i, a.add i = ⟨a.block, a.off + i, none⟩ := by
      intro i; cases a; unfold Addr.add; split <;> simp_all
    rw [eadd] at e0
    cases hb : W.heap[a.block]? with
    | none => simp [World.cell?, hb] at e0
    | some o =>
      cases o with
      | cells c T fz =>
        have hc : ∀ i, i < cs.length → c[a.off + i]? = cs[i]? := by
          intro i hi
          have := h i cs[i] (by simp [hi])
          rw [eadd] at this
          simp [World.cell?, hb] at this
          simp [this, hi]
        have hle : a.off + cs.length ≤ c.size := by
          have := hc (cs.length - 1) (by omega)
          rw [List.getElem?_eq_getElem (by omega : cs.length - 1 < cs.length)] at this
          have := (Array.getElem?_eq_some_iff.1 this).1
          omega
        simp only [heapRO, hb]
        simp only [hsp, Option.isSome_none, Bool.false_eq_true, if_false]
        rw [if_pos (by simpa using hle)]
        congr 1
        apply List.ext_getElem?
        intro i
        rw [List.getElem?_take]
        split
        · rename_i hi
          rw [List.getElem?_drop]
          simpa using hc i hi
        · rename_i hi
          rw [List.getElem?_eq_none (by omega)]
      | _ => simp [World.cell?, hb] at e0
theorem fields_rd {d fuel : Nat} (ih : ∀ t l cs x, leavesT P d t = some l → DataW.trod enc P W 0 spare held fuel t cs = some x → RdL (heapRO W) l (cs.map SV.ofA)) {cs : List Value} :
    ∀ (fs : List Field) (o : Nat) (l : List Lf) (xs : List (DataW HH × List MemPlace)), fieldsL P (leavesT P d) fs o = some l →
      fs.mapM (fun f => DataW.trod enc P W 0 spare held fuel f.type ((cs.drop f.offset).take (P.cellsOf f.type))) = some xs →
      RdL (heapRO W) l (((cs.drop o).take l.length).map SV.ofA) ∧ (l ≠ [] → o + l.length ≤ cs.length)
  | [], o, l, xs, hl, hx => by
    simp [fieldsL] at hl
    subst hl
    simp [RdL]
  | f :: fs, o, l, xs, hl, hx => by
    simp only [fieldsL] at hl
    cases h1 : leavesT P d f.type with
    | none => simp [h1] at hl
    | some l1 =>
    cases h2 : fieldsL P (leavesT P d) fs (o + P.cellsOf f.type) with
    | none => simp [h1, h2] at hl
    | some m =>
    simp only [h1, h2] at hl
    split at hl
    case isFalse => cases hl
    rename_i hc
    simp only [Bool.and_eq_true] at hc
    have ho := Nat.eq_of_beq_eq_true hc.1
    have hn := Nat.eq_of_beq_eq_true hc.2
    cases hl
    rw [List.mapM_cons] at hx
    cases hx1 : DataW.trod enc P W 0 spare held fuel f.type ((cs.drop f.offset).take (P.cellsOf f.type)) with
    | none => simp [hx1] at hx
    | some y =>
    cases hx2 : fs.mapM (fun f => DataW.trod enc P W 0 spare held fuel f.type ((cs.drop f.offset).take (P.cellsOf f.type))) with
    | none => simp [hx1, hx2] at hx
    | some ys =>
    have r1 := ih _ _ _ _ h1 hx1
    obtain ⟨r2, r3⟩ := fields_rd ih fs _ _ _ h2 hx2
    have hlen := RdL_length r1
    rw [ho] at r1 hlen
    simp at hlen
    have e : (cs.drop o).take (l1 ++ m).length = (cs.drop o).take (P.cellsOf f.type) ++ (cs.drop (o + P.cellsOf f.type)).take m.length := by
      rw [List.length_append, hn, List.take_add, List.drop_drop]
    refine ⟨?_, ?_⟩
    · rw [e, List.map_append]
      exact RdL_append r1 r2
    · intro _
      simp only [List.length_append]
      by_cases hm : m = []
      · subst hm; simp
        by_cases hl1 : l1 = []
        · subst hl1
          simp at hn
          simp_all
        · have : 0 < l1.length := List.length_pos_iff.2 hl1
          omega
      · have := r3 hm; omega
theorem reps_rd {fuel e : Nat} {l : List Lf} (hn : l.length = P.cellsOf e) (ih : ∀ cs x, DataW.trod enc P W 0 spare held fuel e cs = some x → RdL (heapRO W) l (cs.map SV.ofA)) {cs : List Value} :
    ∀ (n o : Nat), cs.length = (o + n) * P.cellsOf e →
      (∀ i, o ≤ i → i < o + n → ∃ x, DataW.trod enc P W 0 spare held fuel e ((cs.drop (i * P.cellsOf e)).take (P.cellsOf e)) = some x) →
      RdL (heapRO W) (List.replicate n l).flatten ((cs.drop (o * P.cellsOf e)).map SV.ofA)
  | 0, o, h1, h2 => by
    simp [RdL, h1]
  | n + 1, o, h1, h2 => by
    obtain ⟨x, hx⟩ := h2 o (Nat.le_refl _) (by omega)
    have r1 := ih _ _ hx
    have r2 := reps_rd hn ih (cs := cs) n (o + 1) (by rw [h1]; congr 1; omega) (fun i h3 h4 => h2 i (by omega) (by omega))
    have e1 : cs.drop (o * P.cellsOf e) = (cs.drop (o * P.cellsOf e)).take (P.cellsOf e) ++ cs.drop ((o + 1) * P.cellsOf e) := by
      rw [Nat.succ_mul, ← List.drop_drop, List.take_append_drop]
    rw [e1, List.map_append]
    simp only [List.replicate_succ, List.flatten_cons]
    exact RdL_append r1 r2
theorem trod_rd : ∀ (d : Nat) (t : TypeId) (l : List Lf) (fuel : Nat) (cs : List Value) (x : DataW HH × List MemPlace), leavesT P d t = some l → DataW.trod enc P W 0 spare held fuel t cs = some x → RdL (heapRO W) l (cs.map SV.ofA)
  | 0, t, l, fuel, cs, x, hl, hx => by simp [leavesT] at hl
  | d + 1, t, l, 0, cs, x, hl, hx => by simp [DataW.trod] at hx
  | d + 1, t, l, fuel + 1, cs, x, hl, hx => by
    have ih : ∀ t l cs x, leavesT P d t = some l → DataW.trod enc P W 0 spare held fuel t cs = some x → RdL (heapRO W) l (cs.map SV.ofA) := fun t l cs x => trod_rd d t l fuel cs x
    rw [DataW.trod_step] at hx
    unfold leavesT at hl
    cases hu : P.underlying t with
    | none => simp [hu] at hl
    | some D =>
    simp only [hu] at hl
    unfold DataW.trodStep at hx
    cases D <;> simp only [] at hl <;> try (cases hl; done)
    case bool =>
      cases hl
      simp only [hu] at hx
      split at hx <;> (first | (cases hx; done) | (rename_i h; cases h; done) | skip)
      simp [RdL, Rd, SV.ofA]
    case int k =>
      cases hl
      simp only [hu] at hx
      split at hx <;> (first | (cases hx; done) | (rename_i h; cases h; done) | skip)
      rename_i k1 k2 n h
      cases h
      split at hx
      · rename_i h1; obtain ⟨rfl, h1⟩ := h1
        simp [RdL, Rd, SV.ofA, h1]
      · cases hx
    case string =>
      cases hl
      simp only [hu] at hx
      split at hx <;> (first | (cases hx; done) | (rename_i h; cases h; done) | skip)
      split at hx
      · rename_i h1
        simp [RdL, Rd, SV.ofA, h1]
      · cases hx
    case slice e =>
      cases h1 : leavesT P d e with
      | none => simp [h1] at hl
      | some le =>
      simp only [h1] at hl
      split at hl
      case isFalse => cases hl
      rename_i hn
      have hn := Nat.eq_of_beq_eq_true hn
      cases hl
      simp only [hu] at hx
      split at hx <;> (first | (cases hx; done) | (rename_i h; cases h; done) | skip)
      · simp [RdL, Rd, SV.ofA, H.row?]
      · rename_i e' a len cap h
        cases h
        split at hx
        case isFalse => cases hx
        rename_i hc
        cases he : (List.range len).mapM (fun i => (W.cells? 0 (a.add (i * P.cellsOf e)) (P.cellsOf e)).bind (DataW.trod enc P W 0 spare held fuel e)) with
        | none => simp [he] at hx
        | some elems =>
        obtain ⟨k1, k2⟩ := mapM_list he
        have hrow : ∀ i, i < len → ∃ cs : List Value, cs.length = P.cellsOf e ∧ (∀ j v, cs[j]? = some v → W.cell? (a.add (i * P.cellsOf e + j)) = some v) ∧ RdL (heapRO W) le (cs.map SV.ofA) := by
          intro i hi
          obtain ⟨y, _, hy⟩ := k2 i i (by simp [hi])
          cases hcs : W.cells? 0 (a.add (i * P.cellsOf e)) (P.cellsOf e) with
          | none => simp [hcs] at hy
          | some cs =>
            simp [hcs] at hy
            obtain ⟨q1, q2⟩ := cells?_ro hcs
            refine ⟨cs, q1, fun j v hj => ?_, ih _ _ _ _ h1 hy⟩
            have := q2 j v hj
            rw [Addr.add_add] at this
            exact this
        have hrows : ∀ m, m ≤ len → ∃ rows : List (List Value), rows.length = m ∧ rows.flatten.length = m * P.cellsOf e ∧ (∀ j v, rows.flatten[j]? = some v → W.cell? (a.add j) = some v) ∧ ∀ r ∈ rows, RdL (heapRO W) le (r.map SV.ofA) := by
          intro m
          induction m with
          | zero => intro _; exact ⟨[], by simp⟩
          | succ m im =>
            intro hm
            obtain ⟨rows, p1, p2, p3, p4⟩ := im (by omega)
            obtain ⟨cs, q1, q2, q3⟩ := hrow m (by omega)
            refine ⟨rows ++ [cs], by simp [p1], by simp [p2, q1, Nat.succ_mul], ?_, ?_⟩
            · intro j v hj
              simp only [List.flatten_append, List.flatten_cons, List.flatten_nil, List.append_nil] at hj
              by_cases hj2 : j < rows.flatten.length
              · rw [List.getElem?_append_left hj2] at hj
                exact p3 j v hj
              · rw [List.getElem?_append_right (by omega)] at hj
                have := q2 _ v hj
                rw [p2] at this hj2
                rw [show m * P.cellsOf e + (j - m * P.cellsOf e) = j by omega] at this
                exact this
            · intro r hr
              rcases List.mem_append.1 hr with hr | hr
              · exact p4 r hr
              · simp at hr; subst hr; exact q3
        obtain ⟨rows, p1, p2, p3, p4⟩ := hrows len (Nat.le_refl _)
        simp only [List.map_cons, List.map_nil, SV.ofA, RdL, Rd]
        refine ⟨_, _, rfl, ⟨_, rfl, hc.2.1, hc.2.2, (fun h => by cases h), rows, p1, ?_, p4⟩, rfl⟩
        have := row_ro p3
        rw [p2, ← hn] at this
        exact this
    case struct fs =>
      cases h1 : fieldsL P (leavesT P d) fs.toList 0 with
      | none => simp [h1] at hl
      | some l' =>
      simp only [h1] at hl
      split at hl
      case isFalse => cases hl
      rename_i hn
      have hn := Nat.eq_of_beq_eq_true hn
      cases hl
      simp only [hu] at hx
      split at hx
      case isFalse => cases hx
      rename_i hc
      cases hm : fs.toList.mapM (fun f => DataW.trod enc P W 0 spare held fuel f.type ((cs.drop f.offset).take (P.cellsOf f.type))) with
      | none => simp [hm] at hx
      | some xs =>
      have := (fields_rd ih fs.toList 0 _ xs h1 hm).1
      rw [List.drop_zero, hn, ← hc, List.take_length] at this
      exact this
    case array n e =>
      cases h1 : leavesT P d e with
      | none => simp [h1] at hl
      | some le =>
      simp only [h1] at hl
      split at hl
      case isFalse => cases hl
      rename_i hn
      simp only [Bool.and_eq_true] at hn
      have hct := (Nat.eq_of_beq_eq_true hn.2).symm
      have hn := Nat.eq_of_beq_eq_true hn.1
      cases hl
      simp only [hu] at hx
      split at hx
      case isFalse => cases hx
      rename_i hc
      cases hm : (List.range n).mapM (fun i => DataW.trod enc P W 0 spare held fuel e ((cs.drop (i * P.cellsOf e)).take (P.cellsOf e))) with
      | none => simp [hm] at hx
      | some xs =>
      obtain ⟨k1, k2⟩ := mapM_list hm
      have := reps_rd hn (fun cs x => ih _ _ cs x h1) (cs := cs) n 0 (by rw [hc, hct]; simp) (fun i _ hi => by
        obtain ⟨y, _, hy⟩ := k2 i i (by rw [Nat.zero_add] at hi; simp [hi])
        exact ⟨y, hy⟩)
      simpa using this
def argsT (P : Program) : List TypeId → Option (List (Bool × List Lf))
  | [] => some []
  | t :: r => match leavesT P 8 t, argsT P r with
    | some l, some m => if isAggT P t || Nat.beq l.length 1 then some ((isAggT P t, l) :: m) else none
    | _, _ => none
def shA : Bool × List Lf → Sh
  | (true, l) => .agg (l.map lfTy)
  | (false, x :: _) => .leaf (lfTy x)
  | (false, []) => .leaf (.o .b)
def fitV (x : Ty) (s : SV) : Prop := ∃ d : x.den, SV.of x d = s
theorem tup_of : ∀ (ts : List Ty) (l : List SV), l.length = ts.length → (∀ (i : Nat) x s, ts[i]? = some x → l[i]? = some s → fitV x s) → ∃ t : Tup ts, unpackL ts t = l
  | [], [], _, _ => ⟨(), rfl⟩
  | [x], [s], _, h => by
    obtain ⟨d, hd⟩ := h 0 x s rfl rfl
    exact ⟨d, by simp [unpackL, hd]⟩
  | x :: y :: r, s :: q :: m, hl, h => by
    obtain ⟨d, hd⟩ := h 0 x s rfl rfl
    obtain ⟨t, ht⟩ := tup_of (y :: r) (q :: m) (by simpa using hl) (fun i x s h1 h2 => h (i + 1) x s (by simpa using h1) (by simpa using h2))
    exact ⟨(d, t), by simp [unpackL, hd, ht]⟩
  | [], s :: _, h, _ => by simp at h
  | [x], [], h, _ => by simp at h
  | [x], _ :: _ :: _, h, _ => by simp at h
  | x :: y :: r, [], h, _ => by simp at h
  | x :: y :: r, [_], h, _ => by simp at h
theorem Rd_fit {h : H} {x : Lf} {s : SV} (hr : Rd h x s) : fitV (lfTy x) s := by
  cases x <;> simp only [Rd] at hr
  case i k => obtain ⟨n, rfl, _⟩ := hr; exact ⟨n, rfl⟩
  case b => obtain ⟨n, rfl⟩ := hr; exact ⟨n, rfl⟩
  case s => obtain ⟨n, rfl, _⟩ := hr; exact ⟨n, rfl⟩
  case sl e => obtain ⟨v, rfl, _⟩ := hr; exact ⟨v, rfl⟩
theorem RdL_fit {h : H} : ∀ {l : List Lf} {vs : List SV}, RdL h l vs → ∀ (i : Nat) x s, (l.map lfTy)[i]? = some x → vs[i]? = some s → fitV x s
  | [], vs, h1, i, x, s, h2, h3 => by simp at h2
  | y :: r, vs, h1, i, x, s, h2, h3 => by
    simp only [RdL] at h1
    obtain ⟨v, ws, rfl, h4, h5⟩ := h1
    cases i with
    | zero => simp at h2 h3; subst h2; subst h3; exact Rd_fit h4
    | succ i => exact RdL_fit h5 i x s (by simpa using h2) (by simpa using h3)
theorem rel_ofA {P : Program} {β : Nat → Nat} {h : H} {x : Lf} {v : Value} (hr : Rd h x (SV.ofA v)) : rel P β (SV.ofA v) v := by
  cases x <;> simp only [Rd] at hr <;> cases v <;> simp_all [SV.ofA, rel]
theorem relL_ofA {P : Program} {β : Nat → Nat} {h : H} : ∀ {l : List Lf} {vs : List Value}, RdL h l (vs.map SV.ofA) → relL P β (vs.map SV.ofA) vs
  | [], [], _ => by simp [relL]
  | [], v :: r, h1 => by simp [RdL] at h1
  | x :: l, [], h1 => by simp [RdL] at h1
  | x :: l, v :: r, h1 => by
    simp only [List.map_cons, RdL] at h1
    obtain ⟨_, _, e, h2, h3⟩ := h1
    cases e
    exact relL_cons.2 ⟨_, _, rfl, rel_ofA h2, relL_ofA h3⟩
theorem args_rd {HH : Type} {enc : TypeId × Value → HH} {P : Program} {W : World} : ∀ {ts : List TypeId} {vs : List Value} {ds : List (DataW HH)} {p : List MemPlace} {ads : List (Bool × List Lf)},
    DataW.TrodAll enc P W 0 (fun _ => true) true ts vs ds p → argsT P ts = some ads → (∀ (j : Nat) t v, ts[j]? = some t → vs[j]? = some v → ∃ b, Value.okWide P W .any b t v) →
    ∃ ls : List SV, RdL (heapRO W) (ads.flatMap (·.2)) ls ∧ relL P (fun _ => 0) (shape (ads.map shA) ls) vs ∧ (tysOf (ads.map shA)) = (ads.flatMap (·.2)).map lfTy
  | [], vs, ds, p, ads, hA, ha, hok => by
    obtain ⟨rfl, rfl, rfl⟩ := ChangeShapes.trodAll_nil hA
    simp [argsT] at ha; subst ha
    exact ⟨[], by simp [RdL], by simp [shape, relL], by simp [tysOf]⟩
  | t :: ts, vs, ds, p, ads, hA, ha, hok => by
    obtain ⟨v, vs', d, ds', p1, q1, rfl, rfl, rfl, ⟨fuel, hT⟩, hR⟩ := ChangeShapes.trodAll_cons hA
    simp only [argsT] at ha
    cases h1 : leavesT P 8 t with
    | none => simp [h1] at ha
    | some l =>
    cases h2 : argsT P ts with
    | none => simp [h1, h2] at ha
    | some m =>
    simp only [h1, h2] at ha
    split at ha
    case isFalse => cases ha
    rename_i hc
    cases ha
    obtain ⟨ls, r1, r2, r3⟩ := args_rd hR h2 (fun j t v h3 h4 => hok (j + 1) t v (by simpa using h3) (by simpa using h4))
    have rd := trod_rd 8 t l fuel _ _ h1 hT
    obtain ⟨b0, ok⟩ := hok 0 t v rfl rfl
    have hlen := RdL_length rd
    have rr := relL_ofA (P := P) (β := fun _ => 0) rd
    refine ⟨v.cells.toList.map SV.ofA ++ ls, by simpa using RdL_append rd r1, ?_, ?_⟩
    · cases hg : isAggT P t with
      | true =>
        simp only [List.map_cons, shA, shape, List.length_map]
        rw [hlen]
        simp only [List.take_left, List.drop_left]
        have : ∃ cs, v = .agg cs := by
          unfold isAggT at hg
          unfold Value.okWide at ok
          split at hg
          · rename_i fs hu; rw [hu] at ok; obtain ⟨cs, e, _⟩ := ok; exact ⟨cs, e⟩
          · rename_i n e hu; rw [hu] at ok; obtain ⟨cs, e, _⟩ := ok; exact ⟨cs, e⟩
          · cases hg
        obtain ⟨cs, rfl⟩ := this
        refine relL_cons.2 ⟨_, _, rfl, ?_, r2⟩
        simp only [rel]
        exact ⟨cs, rfl, by simpa [Value.cells] using rr⟩
      | false =>
        simp [hg] at hc
        match l, hc with
        | [x], _ =>
          simp only [List.map_cons, shA, shape]
          have hv : v.cells.toList = [v] := by
            cases v <;> try rfl
            case agg cs =>
              exfalso
              unfold isAggT at hg
              unfold Value.okWide at ok
              split at ok
              · rename_i fs hu; simp [hu] at hg
              · rename_i n e hu; simp [hu] at hg
              · unfold Cell.okWide at ok
                split at ok <;> first | (exact ok.elim) | skip
                all_goals (try (unfold Cell.ok at ok; split at ok <;> first | (exact ok.elim) | skip))
                all_goals simp_all
          rw [hv] at rr rd ⊢
          simp only [List.map_cons, List.map_nil, List.cons_append, List.nil_append]
          simp only [List.map_cons, List.map_nil] at rr
          obtain ⟨_, _, e, h5, _⟩ := relL_cons.1 rr
          cases e
          exact relL_cons.2 ⟨_, _, rfl, h5, r2⟩
    · cases hg : isAggT P t with
      | true => simp [shA, tysOf, Sh.tys, r3]
      | false =>
        simp [hg] at hc
        match l, hc with
        | [x], _ => simp [shA, tysOf, Sh.tys, r3]
end
theorem trodAll_back {HH : Type} {enc : TypeId × Value → HH} {P : Program} {W W' : World} (hl : laidOutB P = true) (hb : RowKit.Below W.heap.size W W') : ∀ {ts : List TypeId} {vs : List Value} {ds : List (DataW HH)} {ps : List MemPlace},
    DataW.TrodAll enc P W 0 (fun _ => true) true ts vs ds ps → (ts.all fun t => P.readableRec t && decide (t < P.types.size)) = true →
    DataW.TrodAll enc P W' 0 (fun b => decide (b < W.heap.size)) true ts vs ds ps
  | [], vs, ds, ps, hA, _ => by
    obtain ⟨rfl, rfl, rfl⟩ := ChangeShapes.trodAll_nil hA
    exact ChangeShapes.trodAll_mk0
  | t :: ts, vs, ds, ps, hA, hr => by
    obtain ⟨v, vs', d, ds', p1, q1, rfl, rfl, rfl, hT, hR⟩ := ChangeShapes.trodAll_cons hA
    simp only [List.all_cons, Bool.and_eq_true, decide_eq_true_eq] at hr
    have lt : ∀ x ∈ p1, x.block < W.heap.size := by
      obtain ⟨m, hm⟩ := hT
      exact DataW.trod_lt m _ _ _ hm
    exact trodAll_cons_mk (RowKit.Below.trod hl hr.1.1 hr.1.2 hT hb lt) (trodAll_back hl hb hR hr.2)
/-- a law's call, out of its shallow form -/
theorem law_core {HH : Type} {enc : TypeId × Value → HH} {C : Checked} {f : FuncId} {fn : Func} {s : ChangeSpec} {bt : TypeId} {ads : List (Bool × List Lf)} {F : Tup (tysOf (ads.map shA)) → (Tup (tysOf [.leaf (.o .b)]) → HProp) → HProp}
    (hL : Linked C.prog ⟨f, ads.map shA, [.leaf (.o .b)], F⟩)
    (hads : argsT C.prog fn.params.toList = some ads) (hvars : s.vars = []) (hs : ∀ ds : List (DataW HH), ds.length = fn.params.size → s.fn HH ds = { results := [.lit (.bool true)], args := ds })
    (hrt : fn.resultTypes = #[bt]) (hbt : C.prog.underlying bt = some .bool) (laid : laidOutB C.prog = true) (hread : (fn.params.toList.all fun t => C.prog.readableRec t && decide (t < C.prog.types.size)) = true)
    (hF : ∀ h t, (∀ b, calm h b) → RdL h (ads.flatMap (·.2)) (unpackL (tysOf (ads.map shA)) t) → F t (fun r _ => @Eq Bool r true) h)
    (W : World) (base : Nat) (args : Array Value) (ds gs : List (DataW HH)) (before : List MemPlace)
    (hval : ∀ (j : Nat) t v, fn.params[j]? = some t → args[j]? = some v → Value.okWide C.prog W .any base t v) (hW : DataW.Whole enc C.prog fn.params.toList s.vars false W args.toList ds gs before) :
    Calls C.prog f args W fun e W' => ∃ v, e = .returned v ∧ s.post enc C.prog fn false true false false W args v W' := by
  have hW' := hW
  obtain ⟨p, q, hA, hV, rfl, hfz, hnd⟩ := hW
  rw [hvars] at hV
  obtain ⟨rfl, rfl⟩ := ChangeShapes.trodVars_none hV
  obtain ⟨ls, r1, r2, r3⟩ := args_rd hA hads (fun j t v h1 h2 => ⟨base, hval j t v (by simpa using h1) (by simpa using h2)⟩)
  obtain ⟨t, ht⟩ := tup_of (tysOf (ads.map shA)) ls (by rw [r3]; simp [RdL_length r1]) (by rw [r3]; exact RdL_fit r1)
  rw [← ht] at r1 r2
  have hc := hL.2 t args.toList _ (heapRO W) W r2 (hpart_ro C.prog W) (hF _ t (calm_ro W) r1)
  refine hc.mono fun e W' hh => ?_
  obtain ⟨r, v, h', rfl, hr, hQ, hp, hk⟩ := hh
  have hb : RowKit.Below W.heap.size W W' := ⟨hk.os, hk.tape, hk.output, hk.size, fun k hlt => (hk.old k hlt (calm_ro W k)).2⟩
  have hlen : ds.length = fn.params.size := by
    have : ∀ {ts : List TypeId} {vs : List Value} {ds : List (DataW HH)} {ps : List MemPlace}, DataW.TrodAll enc C.prog W 0 (fun _ => true) true ts vs ds ps → ds.length = ts.length := by
      intro ts
      induction ts with
      | nil => intro vs ds ps h; obtain ⟨_, rfl, _⟩ := ChangeShapes.trodAll_nil h; rfl
      | cons t ts ih =>
        intro vs ds ps h
        obtain ⟨_, _, _, _, _, _, _, rfl, _, _, h2⟩ := ChangeShapes.trodAll_cons h
        simp [ih h2]
    simpa using this hA
  have hv : v = .bool true := by
    have hr2 : rel C.prog (fun _ => 0) (.b r) v := hr
    simp only [rel] at hr2
    rw [hr2]
    exact congrArg _ hQ
  subst hv
  refine ⟨_, rfl, _, _, _, [], p, [], hW', ?_, ?_, ?_, hb.frame _, fun h => by cases h⟩
  · rw [List.append_nil, hs ds hlen, hrt]
    exact ChangeShapes.trodAll_mk1 (RowKit.shut_bool hbt true)
  · rw [List.append_nil, hs ds hlen]
    exact trodAll_back laid hb hA hread
  · rw [hvars, List.append_nil, hs ds hlen]
    rfl
/-- A LAW, OUT OF ITS SHALLOW FORM, where the row lists variables. -/
theorem law_lifted_laid {HH : Type} {enc : TypeId × Value → HH} {C : Checked} {os : Os} {f : FuncId} {fn : Func} {s : ChangeSpec} {conds : List PathCond} {bt : TypeId} {ads : List (Bool × List Lf)} {F : Tup (tysOf (ads.map shA)) → (Tup (tysOf [.leaf (.o .b)]) → HProp) → HProp} {X : World → Array Value → Prop}
    (hX : ∀ (w w' : World) (args : Array Value), w.heap = w'.heap → X w args → X w' args)
    (hL : Linked C.prog ⟨f, ads.map shA, [.leaf (.o .b)], F⟩) (own : ownKnob C.prog.godebug = none) (started : os.Started) (noInit : C.prog.inits.idxOf? f = none) (hfn : C.prog.funcs[f]? = some fn)
    (witness : ∃ (w : World) (tape : Tape) (i : Input), w.os = os ∧ (w.forCall tape i).Shaped C.prog ∧ i.vars = [] ∧ Input.okWide C.prog (w.forCall tape i) .any w.heap.size f i ∧
      ((s.pre enc C.prog fn conds false (w.forCall tape i).memory i.args ∧ X (w.forCall tape i).memory i.args) ∧ sizedMet enc C.prog fn (OpenSpec.ofChange s) false (w.forCall tape i).memory i.args) ∧ ({} : Assume).holds C.prog (lone (Frame.enter C.prog f i.args .normal) [] (w.forCall tape i)))
    (hads : argsT C.prog fn.params.toList = some ads) (hvars : s.vars = []) (hs : ∀ ds : List (DataW HH), ds.length = fn.params.size → s.fn HH ds = { results := [.lit (.bool true)], args := ds })
    (hrt : fn.resultTypes = #[bt]) (hbt : C.prog.underlying bt = some .bool) (laid : laidOutB C.prog = true) (hread : (fn.params.toList.all fun t => C.prog.readableRec t && decide (t < C.prog.types.size)) = true)
    (hF : ∀ h t, (∀ b, calm h b) → RdL h (ads.flatMap (·.2)) (unpackL (tysOf (ads.map shA)) t) → F t (fun r _ => @Eq Bool r true) h) :
    ReturnsInHanded {} C os f .any (fun w args => (s.pre enc C.prog fn conds false w args ∧ X w args) ∧ sizedMet enc C.prog fn (OpenSpec.ofChange s) false w args) (s.post enc C.prog fn false true false false) := by
  refine returnsInHanded_of_change_and hX own started noInit hfn witness ?_
  intro W base args ds gs before hval hW hcnd hsz _ _
  exact law_core hL hads hvars hs hrt hbt laid hread hF W base args ds gs before hval hW
end Go.Cz
