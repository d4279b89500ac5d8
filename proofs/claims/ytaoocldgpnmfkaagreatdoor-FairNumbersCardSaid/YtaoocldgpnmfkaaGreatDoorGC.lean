/- Part of the proof of a law of 29: an engine that runs a function over an abstract heap, and what the functions compute; own work. -/
import Derived.Test.YtaoocldgpnmfkaaGreatDoorGA
import Derived.Lib.TrimByte
import Derived.Lib.Join
import Derived.Lib.ItoaNum
set_option linter.unusedVariables false
set_option linter.unusedSimpArgs false
set_option linter.unusedSectionVars false
namespace Go.Cz
def u8s (l : List UInt8) : List Value := l.map fun b => Value.int .u8 b.toNat
/-- a text that is being made: its block, its buffer -/
structure BldAt (T e : TypeId) (h : H) (b : Nat) (q : Option Addr) (v : Sl) (t : List UInt8) : Prop where
  blk : h b = some (.raw T [.pointer q, .slice v.a v.len v.cap])
  own : q = none ∨ q = some ⟨b, 0, none⟩
  len : v.len = t.length
  buf : (v.a = none ∧ v.cap = 0 ∧ t = []) ∨ ∃ g rest, v.a = some ⟨g, 0, none⟩ ∧ g ≠ b ∧ h g = some (.raw e (u8s t ++ rest)) ∧ v.cap = t.length + rest.length
/-- the lock of sync.Once is let go: it is done -/
def storeDone (a : Addr) (K : HProp) : HProp := fun h => ∃ cs, h a.block = some (.cells cs true) ∧ (∃ x, cs[a.off]? = some x) ∧ cs[a.off + 1]? = some (.int .i32 1) ∧ K (h.set a.block (.cells ((cs.set a.off (.int .u32 1)).set (a.off + 1) (.int .i32 0)) true))
/-- sync.Once: done, or it is locked, f is done, it is done -/
def onceW (p : Option Addr) (f : (Unit → HProp) → HProp) (K : HProp) : HProp := fun h => ∃ a, p = some a ∧ a.spot = none ∧ ∃ cs, h a.block = some (.cells cs true) ∧ ∃ n, cs[a.off]? = some (.int .u32 n) ∧
  ((¬ n = 0 ∧ K h) ∨ (n = 0 ∧ cs[a.off + 1]? = some (.int .i32 0) ∧ f (fun _ => storeDone a K) (h.set a.block (.cells (cs.set (a.off + 1) (.int .i32 1)) true))))
attribute [irreducible] storeDone onceW
end Go.Cz
namespace Go.Cz
open Go
set_option linter.unusedSimpArgs false
set_option linter.unusedVariables false
theorem ite_i {c : Bool} {A B : HProp} {h : H} (ha : c = true → A h) (hb : c = false → B h) : iteW c A B h := by
  unfold iteW
  cases c
  · exact hb rfl
  · exact ha rfl
theorem ite_t {c : Bool} {A B : HProp} {h : H} (hc : c = true) (ha : A h) : iteW c A B h := ite_i (fun _ => ha) (fun e => by rw [hc] at e; cases e)
theorem ite_f {c : Bool} {A B : HProp} {h : H} (hc : c = false) (hb : B h) : iteW c A B h := ite_i (fun e => by rw [hc] at e; cases e) (fun _ => hb)
theorem with_i {α : Type} {k : α → HProp} {f : (α → HProp) → HProp} {h : H} (P : α → H → Prop) (hf : ∀ k, (∀ a h', P a h' → k a h') → f k h) (hk : ∀ a h', P a h' → k a h') : withK k f h := by
  unfold withK
  exact hf k hk
/-- a choice that leaves the heap alone -/
theorem with_b {α : Type} {k : α → HProp} {f : (α → HProp) → HProp} {h : H} (p : α) (hf : ∀ k : α → HProp, k p h → f k h) (hk : k p h) : withK k f h := by
  unfold withK
  exact hf k hk
theorem with_u {α : Type} {k : α → HProp} {f : (α → HProp) → HProp} {h : H} (hf : f k h) : withK k f h := by
  unfold withK
  exact hf
theorem loop_i {σ : Type} {s : σ} {body : σ → (σ → HProp) → HProp} {h : H} (I : σ → H → Prop) (μ : σ → Nat) (h0 : I s h)
    (hb : ∀ s h, I s h → ∀ k : σ → HProp, (∀ s' h', I s' h' → μ s' < μ s → k s' h') → body s k h) : loopW s body h := by
  unfold loopW
  exact ⟨I, fun s _ => μ s, h0, fun s h hI => hb s h hI _ fun s' h' h1 h2 => ⟨h1, h2⟩⟩
theorem wrap64 {n : Int} (h1 : -9223372036854775808 ≤ n) (h2 : n ≤ 9223372036854775807) : IntKind.i64.wrap n = n := by
  simp [IntKind.wrap, IntKind.bits, IntKind.signed]; omega
theorem add_i64 {a b : Int} (h1 : -9223372036854775808 ≤ a + b) (h2 : a + b ≤ 9223372036854775807) : add .i64 a b = a + b := by unfold add; exact wrap64 h1 h2
theorem sub_i64 {a b : Int} (h1 : -9223372036854775808 ≤ a - b) (h2 : a - b ≤ 9223372036854775807) : sub .i64 a b = a - b := by unfold sub; exact wrap64 h1 h2
theorem mul_i64 {a b : Int} (h1 : -9223372036854775808 ≤ a * b) (h2 : a * b ≤ 9223372036854775807) : mul .i64 a b = a * b := by unfold mul; exact wrap64 h1 h2
theorem ltI_eq (a b : Int) : ltI a b = decide (a < b) := by unfold ltI; rfl
theorem leI_eq (a b : Int) : leI a b = decide (a ≤ b) := by unfold leI; rfl
theorem eqI_eq (a b : Int) : eqI a b = decide (a = b) := by unfold eqI; rfl
theorem maxI_eq (a b : Int) : maxI a b = if a < b then b else a := by unfold maxI; rfl
theorem addadd (a : Addr) (m n : Nat) : (a.add m).add n = a.add (m + n) := by
  unfold Addr.add
  by_cases h1 : m = 0 <;> by_cases h2 : n = 0 <;> simp [h1, h2] <;> omega
theorem add_eq {a : Addr} (h : a.spot = none) (n : Nat) : a.add n = ⟨a.block, a.off + n, none⟩ := by
  cases a; unfold Addr.add; split <;> simp_all
/-- what lay there lies there, but for the blocks of S -/
def Fr (S : Nat → Prop) (h h' : H) : Prop := ∀ b o, h b = some o → ¬ S b → h' b = some o
abbrev Ext (h h' : H) : Prop := Fr (fun _ => False) h h'
theorem Fr.refl (S : Nat → Prop) (h : H) : Fr S h h := fun _ _ h _ => h
theorem Fr.mono {S T : Nat → Prop} {a b : H} (h : Fr S a b) (hs : ∀ k, S k → T k) : Fr T a b := fun k o hk ht => h k o hk (fun s => ht (hs k s))
theorem set_same (h : H) (b : Nat) (o : Blk) : h.set b o b = some o := if_pos rfl
theorem Ext.set {h : H} {b : Nat} {o : Blk} (hb : h b = none) : Ext h (h.set b o) := by
  intro k q hk _
  unfold H.set
  by_cases e : k = b
  · subst e; rw [hb] at hk; cases hk
  · rw [if_neg e]; exact hk
theorem Fr.set {h : H} {b : Nat} {o : Blk} : Fr (fun k => k = b) h (h.set b o) := by
  intro k q hk hs
  unfold H.set
  rw [if_neg hs]; exact hk
/-- blocks that are new since h -/
theorem Ext.of_new {S : Nat → Prop} {h0 h h' : H} (g : Ext h0 h) (f : Fr S h h') (hs : ∀ b, S b → h0 b = none) : Ext h0 h' := by
  intro b o hb _
  exact f b o (g b o hb (fun h => h)) (fun s => by rw [hs b s] at hb; cases hb)
theorem Ext.none {h0 h : H} (g : Ext h0 h) {b : Nat} (hb : h b = none) : h0 b = none := by
  cases e : h0 b with
  | none => rfl
  | some o => rw [g b o e (fun h => h)] at hb; cases hb
structure Enc (α : Type) where
  w : Nat
  f : α → List Value
  len : ∀ x, (f x).length = w
  ones : ∀ x, Go.Cz.ones (f x)
  pos : 0 < w
def Enc.all {α : Type} (E : Enc α) (l : List α) : List Value := l.flatMap E.f
theorem Enc.all_len {α : Type} (E : Enc α) : ∀ l : List α, (E.all l).length = l.length * E.w
  | [] => by simp [Enc.all]
  | x :: r => by
    have := E.all_len r
    simp only [Enc.all] at this
    simp only [Enc.all, List.flatMap_cons, List.length_append, List.length_cons, E.len, this, Nat.succ_mul]
    omega
theorem Enc.all_append {α : Type} (E : Enc α) (l m : List α) : E.all (l ++ m) = E.all l ++ E.all m := by simp [Enc.all]
theorem Enc.all_ones {α : Type} (E : Enc α) (l : List α) : Go.Cz.ones (E.all l) := by
  intro v hv
  simp only [Enc.all, List.mem_flatMap] at hv
  obtain ⟨x, _, hx⟩ := hv
  exact E.ones x v hx
theorem Enc.all_get {α : Type} (E : Enc α) : ∀ (l : List α) (i j : Nat) (x : α) (y : Value), l[i]? = some x → (E.f x)[j]? = some y → (E.all l)[i * E.w + j]? = some y
  | [], i, j, x, y, h1, h2 => by simp at h1
  | z :: r, 0, j, x, y, h1, h2 => by
    simp at h1; subst h1
    have hj : j < (E.f z).length := (List.getElem?_eq_some_iff.1 h2).1
    simp only [Enc.all, List.flatMap_cons, Nat.zero_mul, Nat.zero_add]
    rw [List.getElem?_append_left hj]; exact h2
  | z :: r, i + 1, j, x, y, h1, h2 => by
    simp only [Enc.all, List.flatMap_cons]
    rw [List.getElem?_append_right (by rw [E.len, Nat.succ_mul]; omega), E.len]
    have := E.all_get r i j x y (by simpa using h1) h2
    rw [show (i + 1) * E.w + j - E.w = i * E.w + j by rw [Nat.succ_mul]; omega]
    exact this
theorem Enc.all_take {α : Type} (E : Enc α) (l : List α) (n : Nat) : (E.all l).take (n * E.w) = E.all (l.take n) := by
  by_cases hn : n ≤ l.length
  · have e : E.all l = E.all (l.take n) ++ E.all (l.drop n) := by rw [← E.all_append, List.take_append_drop]
    rw [e]
    have hl : (E.all (l.take n)).length = n * E.w := by rw [E.all_len, List.length_take, Nat.min_eq_left hn]
    rw [← hl, List.take_left]
  · rw [List.take_of_length_le (by omega : l.length ≤ n), List.take_of_length_le]
    rw [E.all_len]
    exact Nat.mul_le_mul_right _ (by omega)
section
variable {α : Type}
/-- a slice that reads as a list -/
structure Arr (h : H) (v : Sl) (E : Enc α) (l : List α) : Prop where
  len : v.len = l.length
  le : v.len ≤ v.cap
  nil : v.a = none → v.cap = 0
  blk : ∀ a, v.a = some a → l ≠ [] → a.spot = none ∧ ∃ c wr, h a.block = some (.cells c wr) ∧ a.off + l.length * E.w ≤ c.length ∧ (c.drop a.off).take (l.length * E.w) = E.all l
/-- a slice with its room, that may be written -/
structure Vec (h : H) (v : Sl) (E : Enc α) (l : List α) : Prop where
  len : v.len = l.length
  le : v.len ≤ v.cap
  nil : v.a = none → v.cap = 0
  blk : ∀ a, v.a = some a → a.spot = none ∧ ∃ c, h a.block = some (.cells c true) ∧ a.off + v.cap * E.w ≤ c.length ∧ (c.drop a.off).take (l.length * E.w) = E.all l
theorem Vec.arr {h : H} {v : Sl} {E : Enc α} {l : List α} (V : Vec h v E l) : Arr h v E l := by
  refine ⟨V.len, V.le, V.nil, fun a ha _ => ?_⟩
  obtain ⟨h1, c, h2, h3, h4⟩ := V.blk a ha
  exact ⟨h1, c, true, h2, Nat.le_trans (Nat.add_le_add_left (Nat.mul_le_mul_right _ (by rw [← V.len]; exact V.le)) _) h3, h4⟩
def Sl.on (v : Sl) (b : Nat) : Prop := ∃ a, v.a = some a ∧ a.block = b
def New (h : H) (v : Sl) : Prop := ∀ b, v.on b → h b = none
theorem Arr.fr {S : Nat → Prop} {h h' : H} {v : Sl} {E : Enc α} {l : List α} (A : Arr h v E l) (f : Fr S h h') (hs : ∀ b, v.on b → ¬ S b) : Arr h' v E l := by
  refine ⟨A.len, A.le, A.nil, fun a ha hl => ?_⟩
  obtain ⟨h1, c, wr, h2, h3⟩ := A.blk a ha hl
  exact ⟨h1, c, wr, f _ _ h2 (hs _ ⟨a, ha, rfl⟩), h3⟩
theorem Arr.ext {h h' : H} {v : Sl} {E : Enc α} {l : List α} (A : Arr h v E l) (f : Ext h h') : Arr h' v E l := A.fr f fun _ _ h => h
/-- where an element lies -/
def Slot (v : Sl) (i w : Nat) (a : Addr) : Prop := ∃ b, v.a = some b ∧ a = b.add (i * w)
theorem index_i {v : Sl} {i : Int} {w : Nat} {K : Addr → HProp} {h : H} (h0 : 0 ≤ i) (h1 : i < v.len) (hn : v.a ≠ none) (hK : ∀ a, Slot v i.toNat w a → K a h) : indexW i v w K h := by
  unfold indexW
  cases ha : v.a with
  | none => exact absurd ha hn
  | some a => exact ⟨a, rfl, h0, h1, hK _ ⟨a, ha, rfl⟩⟩
theorem Arr.ne {h : H} {v : Sl} {E : Enc α} {l : List α} (A : Arr h v E l) (hl : l ≠ []) : v.a ≠ none := by
  intro ha
  have := A.nil ha
  have h1 := A.le
  have h2 := A.len
  have : 0 < l.length := List.length_pos_iff.2 hl
  omega
theorem Arr.index {h : H} {v : Sl} {E : Enc α} {l : List α} (A : Arr h v E l) {i : Int} {w : Nat} {K : Addr → HProp} (h0 : 0 ≤ i) (h1 : i < l.length) (hK : ∀ a, Slot v i.toNat w a → K a h) : indexW i v w K h :=
  index_i h0 (by rw [A.len]; exact h1) (A.ne (by intro e; subst e; simp at h1; omega)) hK
theorem Arr.cell {h : H} {v : Sl} {E : Enc α} {l : List α} (A : Arr h v E l) {i j : Nat} {a : Addr} {x : α} {y : Value} (hs : Slot v i E.w a) (hx : l[i]? = some x) (hy : (E.f x)[j]? = some y) : h.cell? (a.add j) = some y := by
  obtain ⟨b, hb, rfl⟩ := hs
  have hi := (List.getElem?_eq_some_iff.1 hx).1
  have hj := (List.getElem?_eq_some_iff.1 hy).1
  rw [E.len] at hj
  obtain ⟨h1, c, wr, h2, h3, h4⟩ := A.blk b hb (by intro e; subst e; simp at hi)
  rw [addadd, add_eq h1]
  simp only [H.cell?, h2]
  have hg := E.all_get l i j x y hx hy
  rw [← h4, List.getElem?_take, List.getElem?_drop] at hg
  have hlt : i * E.w + j < l.length * E.w := by
    have : (i + 1) * E.w ≤ l.length * E.w := Nat.mul_le_mul_right _ hi
    rw [Nat.succ_mul] at this; omega
  rw [if_pos hlt] at hg
  simpa [Nat.add_assoc] using hg
theorem loadI_i {a : Addr} {k : IntKind} {n : Int} {K : Int → HProp} {h : H} (hc : h.cell? a = some (.int k n)) (hK : K n h) : loadI k a K h := by
  unfold loadI; rw [hc]; exact ⟨rfl, hK⟩
theorem Arr.row {h : H} {v : Sl} {E : Enc α} {l : List α} (A : Arr h v E l) {w : Nat} (hw : w = E.w) {K : List Value → HProp} (hK : K (E.all l) h) : rowW v w K h := by
  subst hw
  unfold rowW
  refine ⟨E.all l, ?_, E.all_ones l, hK⟩
  rw [A.len]
  unfold H.row?
  by_cases hl : l = []
  · subst hl; simp [Enc.all]
  · have hpos : 0 < l.length := List.length_pos_iff.2 hl
    have := Nat.mul_pos hpos E.pos
    rw [if_neg (by omega)]
    cases ha : v.a with
    | none => exact absurd ha (A.ne hl)
    | some a =>
      obtain ⟨h1, c, wr, h2, h3, h4⟩ := A.blk a ha hl
      simp only [h2, h1, Option.isSome_none, Bool.false_eq_true, if_false, if_pos h3, h4]
theorem new_i {E : Enc α} {l : List α} {cs : List Value} {n : Nat} {K : Nat → HProp} {h : H} (hz : E.all l = cs) (hn : l.length = n)
    (hK : ∀ b h', Vec h' ⟨some ⟨b, 0, none⟩, n, n⟩ E l → New h ⟨some ⟨b, 0, none⟩, n, n⟩ → Ext h h' → K b h') : newW cs K h := by
  unfold newW
  intro b hb
  refine hK _ _ ⟨hn.symm, Nat.le_refl _, (fun h => by cases h), fun a ha => ?_⟩ ?_ (Ext.set hb)
  · cases ha
    refine ⟨rfl, _, set_same .., ?_, ?_⟩
    · rw [← hz, E.all_len, hn]; simp
    · rw [← hz, List.drop_zero, E.all_take, List.take_length]
  · intro b' hb'
    obtain ⟨a, ha, rfl⟩ := hb'
    cases ha; exact hb
theorem Vec.append {h : H} {v : Sl} {E : Enc α} {l : List α} (V : Vec h v E l) {m : List α} {z xs : List Value} {bytes n : Nat} {K : Sl → HProp} (hz : z.length = E.w) (hx : E.all m = xs) (hn : m.length = n)
    (hsz : (l.length + n) * bytes ≤ 140737488355328)
    (hK : ∀ u h', Vec h' u E (l ++ m) → Fr v.on h h' → (∀ b, u.on b → v.on b ∨ h b = none) → K u h') : appendW v z bytes n xs K h := by
  unfold appendW
  have hxl : xs.length = n * E.w := by rw [← hx, E.all_len, hn]
  split
  · rename_i hc
    have : m = [] := List.length_eq_zero_iff.1 (by omega)
    subst this
    exact hK v h (by simpa using V) (Fr.refl _ h) (fun b hb => .inl hb)
  · rename_i hc
    split
    · rename_i hroom
      cases ha : v.a with
      | none =>
        have := V.nil ha
        have := V.le
        omega
      | some a =>
        obtain ⟨h1, c, h2, h3, h4⟩ := V.blk a ha
        rw [hz, hxl]
        have hle : a.off + v.len * E.w + n * E.w ≤ c.length := by
          have : (v.len + n) * E.w ≤ v.cap * E.w := Nat.mul_le_mul_right _ hroom
          rw [Nat.add_mul] at this; omega
        refine ⟨a, c, rfl, h2, h1, hle, ?_⟩
        have hlen := V.len
        refine hK _ _ ⟨by simp [hlen, hn], by simpa using hroom, (fun e => by cases e), fun a' ha' => ?_⟩ ?_ ?_
        · cases ha'
          refine ⟨h1, _, set_same .., ?_, ?_⟩
          · simp only [List.length_append, List.length_take, List.length_drop]
            rw [Nat.min_eq_left (by omega)]
            simp only [hxl]; omega
          · have e1 : (c.take (a.off + v.len * E.w)).drop a.off = E.all l := by
              rw [List.drop_take, ← h4, hlen]; congr 1; omega
            rw [List.append_assoc, List.drop_append_of_le_length (by simp; omega), e1, List.length_append, E.all_append]
            rw [← List.append_assoc, List.take_append_of_le_length]
            · rw [List.take_of_length_le]
              · rw [hx]
              · rw [List.length_append, E.all_len, hxl, Nat.add_mul, hn]; omega
            · rw [List.length_append, E.all_len, hxl, Nat.add_mul, hn]; omega
        · exact Fr.set.mono fun k hk => ⟨a, ha, hk.symm⟩
        · intro b hb
          obtain ⟨a', ha', rfl⟩ := hb
          cases ha'
          exact .inl ⟨a, ha, rfl⟩
    · rename_i hroom
      have hlen := V.len
      refine ⟨E.all l, ?_, E.all_ones l, by rw [hlen]; exact hsz, ?_⟩
      · unfold H.row?
        rw [hz, hlen]
        by_cases hl : l = []
        · subst hl; simp [Enc.all]
        · have hpos : 0 < l.length := List.length_pos_iff.2 hl
          have := Nat.mul_pos hpos E.pos
          rw [if_neg (by omega)]
          cases ha : v.a with
          | none => exact absurd ha (V.arr.ne hl)
          | some a =>
            obtain ⟨h1, c, wr, h2, h3, h4⟩ := V.arr.blk a ha hl
            simp only [h2, h1, Option.isSome_none, Bool.false_eq_true, if_false, if_pos h3, h4]
      · intro cap' b hcap hb
        have hzl : ∀ k, (List.replicate k z).flatten.length = k * E.w := by
          intro k; simp [hz]
        refine hK _ _ ⟨by simp [hlen, hn], hcap, (fun e => by cases e), fun a' ha' => ?_⟩ ?_ ?_
        · cases ha'
          refine ⟨rfl, _, set_same .., ?_, ?_⟩
          · simp only [List.length_append, hzl, hxl, E.all_len]
            simp only [Nat.zero_add]
            rw [← hlen, ← Nat.add_mul, ← Nat.add_mul]
            exact Nat.mul_le_mul_right _ (by omega)
          · rw [List.drop_zero, List.length_append, E.all_append, hx]
            rw [List.take_append_of_le_length]
            · rw [List.take_of_length_le]
              rw [List.length_append, E.all_len, hxl, Nat.add_mul, hn]; omega
            · rw [List.length_append, E.all_len, hxl, Nat.add_mul, hn]; omega
        · exact Fr.mono (S := fun _ => False) (Ext.set hb) (fun _ h => h.elim)
        · intro b' hb'
          obtain ⟨a', ha', rfl⟩ := hb'
          cases ha'
          exact .inr hb
/-- ... of a slice that was made since h0 -/
theorem Vec.append_new {h0 h : H} {v : Sl} {E : Enc α} {l : List α} (V : Vec h v E l) (g : Ext h0 h) (nw : New h0 v) {m : List α} {z xs : List Value} {bytes n : Nat} {K : Sl → HProp} (hz : z.length = E.w) (hx : E.all m = xs) (hn : m.length = n)
    (hsz : (l.length + n) * bytes ≤ 140737488355328)
    (hK : ∀ u h', Vec h' u E (l ++ m) → Ext h0 h' → New h0 u → Fr v.on h h' → (∀ b, u.on b → v.on b ∨ h b = none) → K u h') : appendW v z bytes n xs K h := by
  refine V.append hz hx hn hsz fun u h' V' f hu => hK u h' V' (g.of_new f nw) ?_ f hu
  intro b hb
  rcases hu b hb with h1 | h1
  · exact nw b h1
  · exact g.none h1
def Obj (h : H) (b : Nat) (cs : List Value) : Prop := h b = some (.cells cs true)
abbrev at0 (b : Nat) : Addr := ⟨b, 0, none⟩
theorem keeps_i {a : Addr} {vs : List Value} {K : HProp} {h : H} (hc : ∀ j u, vs[j]? = some u → h.cell? (a.add j) = some u) (hK : K h) : keepsW a vs K h := by unfold keepsW; exact ⟨hc, hK⟩
theorem isNilP_none : isNilP none = true := by unfold isNilP; rfl
end
end Go.Cz
