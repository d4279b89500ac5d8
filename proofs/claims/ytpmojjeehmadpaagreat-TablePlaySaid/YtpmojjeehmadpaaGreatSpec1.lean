/- Part of the proof of a law of 28: an engine that runs a function over an abstract heap, and what the functions compute; own work. -/
import Derived.Test.YtpmojjeehmadpaaGreatEng1
set_option linter.unusedVariables false
set_option linter.unusedSimpArgs false
set_option linter.unusedSectionVars false
/- Laws of the words of the shallow functions: what must hold for each; slices as lists; frames. -/
namespace Go.Cz
open Go
set_option linter.unusedSimpArgs false
set_option linter.unusedVariables false

/-! ## control -/
theorem ite_i {c : Bool} {A B : HProp} {h : H} (ha : c = true → A h) (hb : c = false → B h) : iteW c A B h := by
  unfold iteW
  cases c
  · exact hb rfl
  · exact ha rfl
theorem ite_t {c : Bool} {A B : HProp} {h : H} (hc : c = true) (ha : A h) : iteW c A B h := ite_i (fun _ => ha) (fun e => by rw [hc] at e; cases e)
theorem ite_f {c : Bool} {A B : HProp} {h : H} (hc : c = false) (hb : B h) : iteW c A B h := ite_i (fun e => by rw [hc] at e; cases e) (fun _ => hb)
theorem with_i {α : Type} {k : α → HProp} {f : (α → HProp) → HProp} {h : H} (P : α → H → Prop) (hf : ∀ k, (∀ a h', P a h' → k a h') → f k h) (hk : ∀ a h', P a h' → k a h') : withK k f h := by
  unfold withK
  exact hf k hk
/-- a choice that leaves the heap alone -/
theorem with_b {α : Type} {k : α → HProp} {f : (α → HProp) → HProp} {h : H} (p : α) (hf : ∀ k : α → HProp, k p h → f k h) (hk : k p h) : withK k f h := by
  unfold withK
  exact hf k hk
theorem with_u {α : Type} {k : α → HProp} {f : (α → HProp) → HProp} {h : H} (hf : f k h) : withK k f h := by
  unfold withK
  exact hf
theorem loop_i {σ : Type} {s : σ} {body : σ → (σ → HProp) → HProp} {h : H} (I : σ → H → Prop) (μ : σ → Nat) (h0 : I s h)
    (hb : ∀ s h, I s h → ∀ k : σ → HProp, (∀ s' h', I s' h' → μ s' < μ s → k s' h') → body s k h) : loopW s body h := by
  unfold loopW
  exact ⟨I, fun s _ => μ s, h0, fun s h hI => hb s h hI _ fun s' h' h1 h2 => ⟨h1, h2⟩⟩
theorem must_i {c : Prop} {K : HProp} {h : H} (hc : c) (hK : K h) : mustW c K h := by unfold mustW; exact ⟨hc, hK⟩
theorem deref_i {a : Addr} {K : Addr → HProp} {h : H} (hK : K a h) : derefW (some a) K h := by unfold derefW; exact ⟨a, rfl, hK⟩
theorem both_i {A B : HProp} {h : H} (ha : A h) (hb : B h) : bothW A B h := by unfold bothW; exact ⟨ha, hb⟩

/-! ## arithmetic -/
theorem wrap64 {n : Int} (h1 : -9223372036854775808 ≤ n) (h2 : n ≤ 9223372036854775807) : IntKind.i64.wrap n = n := by
  simp [IntKind.wrap, IntKind.bits, IntKind.signed]; omega
theorem add_i64 {a b : Int} (h1 : -9223372036854775808 ≤ a + b) (h2 : a + b ≤ 9223372036854775807) : add .i64 a b = a + b := by unfold add; exact wrap64 h1 h2
theorem sub_i64 {a b : Int} (h1 : -9223372036854775808 ≤ a - b) (h2 : a - b ≤ 9223372036854775807) : sub .i64 a b = a - b := by unfold sub; exact wrap64 h1 h2
theorem mul_i64 {a b : Int} (h1 : -9223372036854775808 ≤ a * b) (h2 : a * b ≤ 9223372036854775807) : mul .i64 a b = a * b := by unfold mul; exact wrap64 h1 h2
theorem quo_i64 {a b : Int} (ha : 0 ≤ a) (hb : 0 < b) (h2 : a ≤ 9223372036854775807) : quo .i64 a b = a / b := by
  unfold quo
  rw [Int.tdiv_eq_ediv_of_nonneg ha]
  have := Int.ediv_le_self b ha
  have h3 := Int.ediv_nonneg ha (Int.le_of_lt hb)
  exact wrap64 (by omega) (by omega)
theorem rem_nn {a b : Int} (ha : 0 ≤ a) : rem a b = a % b := by unfold rem; exact Int.tmod_eq_emod_of_nonneg ha
theorem cnv_i64 {a : Int} (h1 : -9223372036854775808 ≤ a) (h2 : a ≤ 9223372036854775807) : cnv .i64 a = a := by unfold cnv; exact wrap64 h1 h2
theorem ltI_eq (a b : Int) : ltI a b = decide (a < b) := by unfold ltI; rfl
theorem leI_eq (a b : Int) : leI a b = decide (a ≤ b) := by unfold leI; rfl
theorem eqI_eq (a b : Int) : eqI a b = decide (a = b) := by unfold eqI; rfl
theorem minI_eq (a b : Int) : minI a b = if b < a then b else a := by unfold minI; rfl
theorem maxI_eq (a b : Int) : maxI a b = if a < b then b else a := by unfold maxI; rfl

/-! ## addresses -/
theorem add0 (a : Addr) : a.add 0 = a := by simp [Addr.add]
theorem addadd (a : Addr) (m n : Nat) : (a.add m).add n = a.add (m + n) := by
  unfold Addr.add
  by_cases h1 : m = 0 <;> by_cases h2 : n = 0 <;> simp [h1, h2] <;> omega
theorem add_eq {a : Addr} (h : a.spot = none) (n : Nat) : a.add n = ⟨a.block, a.off + n, none⟩ := by
  cases a; unfold Addr.add; split <;> simp_all

/-! ## frames -/
/-- what lay there lies there, but for the blocks of S -/
def Fr (S : Nat → Prop) (h h' : H) : Prop := ∀ b o, h b = some o → ¬ S b → h' b = some o
abbrev Ext (h h' : H) : Prop := Fr (fun _ => False) h h'
theorem Fr.refl (S : Nat → Prop) (h : H) : Fr S h h := fun _ _ h _ => h
theorem Ext.refl (h : H) : Ext h h := Fr.refl _ h
theorem Fr.trans {S : Nat → Prop} {a b c : H} (h : Fr S a b) (g : Fr S b c) : Fr S a c := fun k o hk hs => g k o (h k o hk hs) hs
theorem Ext.trans {a b c : H} (h : Ext a b) (g : Ext b c) : Ext a c := Fr.trans h g
theorem Fr.mono {S T : Nat → Prop} {a b : H} (h : Fr S a b) (hs : ∀ k, S k → T k) : Fr T a b := fun k o hk ht => h k o hk (fun s => ht (hs k s))
theorem Ext.fr {S : Nat → Prop} {a b : H} (h : Ext a b) : Fr S a b := h.mono fun _ h => h.elim
theorem set_same (h : H) (b : Nat) (o : Blk) : h.set b o b = some o := if_pos rfl
theorem Ext.set {h : H} {b : Nat} {o : Blk} (hb : h b = none) : Ext h (h.set b o) := by
  intro k q hk _
  unfold H.set
  by_cases e : k = b
  · subst e; rw [hb] at hk; cases hk
  · rw [if_neg e]; exact hk
theorem Fr.set {h : H} {b : Nat} {o : Blk} : Fr (fun k => k = b) h (h.set b o) := by
  intro k q hk hs
  unfold H.set
  rw [if_neg hs]; exact hk
/-- blocks that are new since h -/
theorem Ext.of_new {S : Nat → Prop} {h0 h h' : H} (g : Ext h0 h) (f : Fr S h h') (hs : ∀ b, S b → h0 b = none) : Ext h0 h' := by
  intro b o hb _
  exact f b o (g b o hb (fun h => h)) (fun s => by rw [hs b s] at hb; cases hb)
theorem Ext.none {h0 h : H} (g : Ext h0 h) {b : Nat} (hb : h b = none) : h0 b = none := by
  cases e : h0 b with
  | none => rfl
  | some o => rw [g b o e (fun h => h)] at hb; cases hb

/-! ## elements -/
structure Enc (α : Type) where
  w : Nat
  f : α → List Value
  len : ∀ x, (f x).length = w
  ones : ∀ x, Go.Cz.ones (f x)
  pos : 0 < w
def Enc.all {α : Type} (E : Enc α) (l : List α) : List Value := l.flatMap E.f
theorem Enc.all_len {α : Type} (E : Enc α) : ∀ l : List α, (E.all l).length = l.length * E.w
  | [] => by simp [Enc.all]
  | x :: r => by
    have := E.all_len r
    simp only [Enc.all] at this
    simp only [Enc.all, List.flatMap_cons, List.length_append, List.length_cons, E.len, this, Nat.succ_mul]
    omega
theorem Enc.all_append {α : Type} (E : Enc α) (l m : List α) : E.all (l ++ m) = E.all l ++ E.all m := by simp [Enc.all]
theorem Enc.all_ones {α : Type} (E : Enc α) (l : List α) : Go.Cz.ones (E.all l) := by
  intro v hv
  simp only [Enc.all, List.mem_flatMap] at hv
  obtain ⟨x, _, hx⟩ := hv
  exact E.ones x v hx
theorem Enc.all_get {α : Type} (E : Enc α) : ∀ (l : List α) (i j : Nat) (x : α) (y : Value), l[i]? = some x → (E.f x)[j]? = some y → (E.all l)[i * E.w + j]? = some y
  | [], i, j, x, y, h1, h2 => by simp at h1
  | z :: r, 0, j, x, y, h1, h2 => by
    simp at h1; subst h1
    have hj : j < (E.f z).length := (List.getElem?_eq_some_iff.1 h2).1
    simp only [Enc.all, List.flatMap_cons, Nat.zero_mul, Nat.zero_add]
    rw [List.getElem?_append_left hj]; exact h2
  | z :: r, i + 1, j, x, y, h1, h2 => by
    simp only [Enc.all, List.flatMap_cons]
    rw [List.getElem?_append_right (by rw [E.len, Nat.succ_mul]; omega), E.len]
    have := E.all_get r i j x y (by simpa using h1) h2
    rw [show (i + 1) * E.w + j - E.w = i * E.w + j by rw [Nat.succ_mul]; omega]
    exact this
theorem Enc.all_take {α : Type} (E : Enc α) (l : List α) (n : Nat) : (E.all l).take (n * E.w) = E.all (l.take n) := by
  by_cases hn : n ≤ l.length
  · have e : E.all l = E.all (l.take n) ++ E.all (l.drop n) := by rw [← E.all_append, List.take_append_drop]
    rw [e]
    have hl : (E.all (l.take n)).length = n * E.w := by rw [E.all_len, List.length_take, Nat.min_eq_left hn]
    rw [← hl, List.take_left]
  · rw [List.take_of_length_le (by omega : l.length ≤ n), List.take_of_length_le]
    rw [E.all_len]
    exact Nat.mul_le_mul_right _ (by omega)
theorem Enc.all_drop {α : Type} (E : Enc α) (l : List α) (n : Nat) : (E.all l).drop (n * E.w) = E.all (l.drop n) := by
  by_cases hn : n ≤ l.length
  · have e : E.all l = E.all (l.take n) ++ E.all (l.drop n) := by rw [← E.all_append, List.take_append_drop]
    rw [e]
    have hl : (E.all (l.take n)).length = n * E.w := by rw [E.all_len, List.length_take, Nat.min_eq_left hn]
    rw [← hl, List.drop_left]
  · rw [List.drop_eq_nil_of_le (by omega : l.length ≤ n), List.drop_eq_nil_of_le]
    · rfl
    · rw [E.all_len]
      exact Nat.mul_le_mul_right _ (by omega)
theorem Enc.all_set {α : Type} (E : Enc α) : ∀ (l : List α) (i : Nat) (x : α), i < l.length → E.all (l.set i x) = (E.all l).take (i * E.w) ++ E.f x ++ (E.all l).drop (i * E.w + E.w) := by
  intro l i x hi
  rw [E.all_take, show i * E.w + E.w = (i + 1) * E.w by rw [Nat.succ_mul], E.all_drop]
  rw [List.set_eq_take_append_cons_drop, if_pos hi]
  simp [Enc.all]

def eI (k : IntKind) : Enc Int := ⟨1, fun n => [.int k n], fun _ => rfl, fun n v hv => by simp at hv; subst hv; trivial, Nat.one_pos⟩
def eB : Enc Bool := ⟨1, fun n => [.bool n], fun _ => rfl, fun n v hv => by simp at hv; subst hv; trivial, Nat.one_pos⟩
def eS : Enc ByteArray := ⟨1, fun n => [.string n], fun _ => rfl, fun n v hv => by simp at hv; subst hv; trivial, Nat.one_pos⟩
def eL : Enc Sl := ⟨1, fun v => [.slice v.a v.len v.cap], fun _ => rfl, fun n v hv => by simp at hv; subst hv; trivial, Nat.one_pos⟩
/-- two whole numbers of 64 bits -/
def eP : Enc (Int × Int) := ⟨2, fun x => [.int .i64 x.1, .int .i64 x.2], fun _ => rfl, fun n v hv => by simp at hv; rcases hv with rfl | rfl <;> trivial, Nat.two_pos⟩

/-! ## slices as lists -/
section
variable {α : Type}
/-- a slice that reads as a list -/
structure Arr (h : H) (v : Sl) (E : Enc α) (l : List α) : Prop where
  len : v.len = l.length
  le : v.len ≤ v.cap
  nil : v.a = none → v.cap = 0
  blk : ∀ a, v.a = some a → l ≠ [] → a.spot = none ∧ ∃ c wr, h a.block = some (.cells c wr) ∧ a.off + l.length * E.w ≤ c.length ∧ (c.drop a.off).take (l.length * E.w) = E.all l
/-- a slice with its room, that may be written -/
structure Vec (h : H) (v : Sl) (E : Enc α) (l : List α) : Prop where
  len : v.len = l.length
  le : v.len ≤ v.cap
  nil : v.a = none → v.cap = 0
  blk : ∀ a, v.a = some a → a.spot = none ∧ ∃ c, h a.block = some (.cells c true) ∧ a.off + v.cap * E.w ≤ c.length ∧ (c.drop a.off).take (l.length * E.w) = E.all l
theorem Vec.arr {h : H} {v : Sl} {E : Enc α} {l : List α} (V : Vec h v E l) : Arr h v E l := by
  refine ⟨V.len, V.le, V.nil, fun a ha _ => ?_⟩
  obtain ⟨h1, c, h2, h3, h4⟩ := V.blk a ha
  exact ⟨h1, c, true, h2, Nat.le_trans (Nat.add_le_add_left (Nat.mul_le_mul_right _ (by rw [← V.len]; exact V.le)) _) h3, h4⟩
def Sl.on (v : Sl) (b : Nat) : Prop := ∃ a, v.a = some a ∧ a.block = b
def New (h : H) (v : Sl) : Prop := ∀ b, v.on b → h b = none
theorem Arr.fr {S : Nat → Prop} {h h' : H} {v : Sl} {E : Enc α} {l : List α} (A : Arr h v E l) (f : Fr S h h') (hs : ∀ b, v.on b → ¬ S b) : Arr h' v E l := by
  refine ⟨A.len, A.le, A.nil, fun a ha hl => ?_⟩
  obtain ⟨h1, c, wr, h2, h3⟩ := A.blk a ha hl
  exact ⟨h1, c, wr, f _ _ h2 (hs _ ⟨a, ha, rfl⟩), h3⟩
theorem Arr.ext {h h' : H} {v : Sl} {E : Enc α} {l : List α} (A : Arr h v E l) (f : Ext h h') : Arr h' v E l := A.fr f fun _ _ h => h
theorem Vec.fr {S : Nat → Prop} {h h' : H} {v : Sl} {E : Enc α} {l : List α} (A : Vec h v E l) (f : Fr S h h') (hs : ∀ b, v.on b → ¬ S b) : Vec h' v E l := by
  refine ⟨A.len, A.le, A.nil, fun a ha => ?_⟩
  obtain ⟨h1, c, h2, h3⟩ := A.blk a ha
  exact ⟨h1, c, f _ _ h2 (hs _ ⟨a, ha, rfl⟩), h3⟩
theorem Vec.ext {h h' : H} {v : Sl} {E : Enc α} {l : List α} (A : Vec h v E l) (f : Ext h h') : Vec h' v E l := A.fr f fun _ _ h => h
theorem Vec.there {h : H} {v : Sl} {E : Enc α} {l : List α} (A : Vec h v E l) {b : Nat} (hb : v.on b) : ∃ o, h b = some o := by
  obtain ⟨a, ha, rfl⟩ := hb
  obtain ⟨_, c, h2, _⟩ := A.blk a ha
  exact ⟨_, h2⟩
theorem Vec.nil0 {h : H} {E : Enc α} : Vec h ⟨none, 0, 0⟩ E [] := ⟨rfl, Nat.le_refl _, fun _ => rfl, fun a ha => by cases ha⟩
theorem New.nil0 {h : H} {n c : Nat} : New h ⟨none, n, c⟩ := fun b hb => by obtain ⟨a, ha, _⟩ := hb; cases ha
theorem New.mono {h0 h : H} {v : Sl} (g : Ext h0 h) (n : New h v) : New h0 v := fun b hb => g.none (n b hb)

/-! ### reading -/
/-- where an element lies -/
def Slot (v : Sl) (i w : Nat) (a : Addr) : Prop := ∃ b, v.a = some b ∧ a = b.add (i * w)
theorem index_i {v : Sl} {i : Int} {w : Nat} {K : Addr → HProp} {h : H} (h0 : 0 ≤ i) (h1 : i < v.len) (hn : v.a ≠ none) (hK : ∀ a, Slot v i.toNat w a → K a h) : indexW i v w K h := by
  unfold indexW
  cases ha : v.a with
  | none => exact absurd ha hn
  | some a => exact ⟨a, rfl, h0, h1, hK _ ⟨a, ha, rfl⟩⟩
theorem Arr.ne {h : H} {v : Sl} {E : Enc α} {l : List α} (A : Arr h v E l) (hl : l ≠ []) : v.a ≠ none := by
  intro ha
  have := A.nil ha
  have h1 := A.le
  have h2 := A.len
  have : 0 < l.length := List.length_pos_iff.2 hl
  omega
theorem Arr.index {h : H} {v : Sl} {E : Enc α} {l : List α} (A : Arr h v E l) {i : Int} {w : Nat} {K : Addr → HProp} (h0 : 0 ≤ i) (h1 : i < l.length) (hK : ∀ a, Slot v i.toNat w a → K a h) : indexW i v w K h :=
  index_i h0 (by rw [A.len]; exact h1) (A.ne (by intro e; subst e; simp at h1; omega)) hK
theorem Arr.cell {h : H} {v : Sl} {E : Enc α} {l : List α} (A : Arr h v E l) {i j : Nat} {a : Addr} {x : α} {y : Value} (hs : Slot v i E.w a) (hx : l[i]? = some x) (hy : (E.f x)[j]? = some y) : h.cell? (a.add j) = some y := by
  obtain ⟨b, hb, rfl⟩ := hs
  have hi := (List.getElem?_eq_some_iff.1 hx).1
  have hj := (List.getElem?_eq_some_iff.1 hy).1
  rw [E.len] at hj
  obtain ⟨h1, c, wr, h2, h3, h4⟩ := A.blk b hb (by intro e; subst e; simp at hi)
  rw [addadd, add_eq h1]
  simp only [H.cell?, h2]
  have hg := E.all_get l i j x y hx hy
  rw [← h4, List.getElem?_take, List.getElem?_drop] at hg
  have hlt : i * E.w + j < l.length * E.w := by
    have : (i + 1) * E.w ≤ l.length * E.w := Nat.mul_le_mul_right _ hi
    rw [Nat.succ_mul] at this; omega
  rw [if_pos hlt] at hg
  simpa [Nat.add_assoc] using hg
theorem loadI_i {a : Addr} {k : IntKind} {n : Int} {K : Int → HProp} {h : H} (hc : h.cell? a = some (.int k n)) (hK : K n h) : loadI k a K h := by
  unfold loadI; rw [hc]; exact ⟨rfl, hK⟩
theorem loadB_i {a : Addr} {n : Bool} {K : Bool → HProp} {h : H} (hc : h.cell? a = some (.bool n)) (hK : K n h) : loadB a K h := by
  unfold loadB; rw [hc]; exact hK
theorem loadS_i {a : Addr} {n : ByteArray} {K : ByteArray → HProp} {h : H} (hc : h.cell? a = some (.string n)) (hK : K n h) : loadS a K h := by
  unfold loadS; rw [hc]; exact hK
theorem loadP_i {a : Addr} {n : Option Addr} {K : Option Addr → HProp} {h : H} (hc : h.cell? a = some (.pointer n)) (hK : K n h) : loadP a K h := by
  unfold loadP; rw [hc]; exact hK
theorem loadL_i {a : Addr} {v : Sl} {K : Sl → HProp} {h : H} (hc : h.cell? a = some (.slice v.a v.len v.cap)) (hK : K v h) : loadL a K h := by
  unfold loadL; rw [hc]; exact hK
theorem Arr.row {h : H} {v : Sl} {E : Enc α} {l : List α} (A : Arr h v E l) {w : Nat} (hw : w = E.w) {K : List Value → HProp} (hK : K (E.all l) h) : rowW v w K h := by
  subst hw
  unfold rowW
  refine ⟨E.all l, ?_, E.all_ones l, hK⟩
  rw [A.len]
  unfold H.row?
  by_cases hl : l = []
  · subst hl; simp [Enc.all]
  · have hpos : 0 < l.length := List.length_pos_iff.2 hl
    have := Nat.mul_pos hpos E.pos
    rw [if_neg (by omega)]
    cases ha : v.a with
    | none => exact absurd ha (A.ne hl)
    | some a =>
      obtain ⟨h1, c, wr, h2, h3, h4⟩ := A.blk a ha hl
      simp only [h2, h1, Option.isSome_none, Bool.false_eq_true, if_false, if_pos h3, h4]

theorem Arr.slice {h : H} {v : Sl} {E : Enc α} {l : List α} (A : Arr h v E l) {w : Nat} (hw : w = E.w) {lo hi : Int} {K : Sl → HProp} (h0 : 0 ≤ lo) (h1 : lo ≤ hi) (h2 : hi ≤ l.length)
    (hK : ∀ u, Arr h u E ((l.drop lo.toNat).take (hi.toNat - lo.toNat)) → (∀ b, u.on b → v.on b) → u.len = hi.toNat - lo.toNat → u.cap = v.cap - lo.toNat → K u h) : sliceW v w lo hi K h := by
  subst hw
  unfold sliceW
  have hlen := A.len
  have hle := A.le
  refine ⟨h0, h1, by omega, hK _ ⟨?_, ?_, ?_, ?_⟩ ?_ rfl rfl⟩
  · simp; omega
  · show hi.toNat - lo.toNat ≤ v.cap - lo.toNat; omega
  · show (if v.cap = lo.toNat then v.a else v.a.map (·.add (lo.toNat * E.w))) = none → v.cap - lo.toNat = 0
    intro e
    split at e
    · omega
    · cases ha : v.a with
      | none => have := A.nil ha; omega
      | some a => rw [ha] at e; cases e
  · intro a ha hl
    have hpos : lo.toNat < l.length ∧ lo.toNat < hi.toNat := by
      have : 0 < ((l.drop lo.toNat).take (hi.toNat - lo.toNat)).length := List.length_pos_iff.2 hl
      simp at this; omega
    have hcap : v.cap ≠ lo.toNat := by omega
    rw [if_neg hcap] at ha
    cases hb : v.a with
    | none => rw [hb] at ha; cases ha
    | some b =>
      rw [hb] at ha
      cases ha
      obtain ⟨k1, c, wr, k2, k3, k4⟩ := A.blk b hb (by intro e; subst e; simp at hpos)
      have hll : ((l.drop lo.toNat).take (hi.toNat - lo.toNat)).length = hi.toNat - lo.toNat := by simp; omega
      have hm : lo.toNat * E.w + (hi.toNat - lo.toNat) * E.w ≤ l.length * E.w := by
        rw [← Nat.add_mul]; exact Nat.mul_le_mul_right _ (by omega)
      simp only [add_eq k1]
      refine ⟨trivial, c, wr, k2, ?_, ?_⟩
      · rw [hll]; show b.off + lo.toNat * E.w + _ ≤ _; omega
      · rw [hll]
        show (c.drop (b.off + lo.toNat * E.w)).take _ = _
        rw [← List.drop_drop, ← E.all_take, ← E.all_drop, ← k4, List.drop_take, List.take_take]
        congr 1; omega
  · rintro b ⟨a, ha, rfl⟩
    split at ha
    · exact ⟨a, ha, rfl⟩
    · cases hb : v.a with
      | none => rw [hb] at ha; cases ha
      | some b =>
        rw [hb] at ha; cases ha
        refine ⟨b, hb, ?_⟩
        simp only [Addr.add]; split <;> rfl

/-! ### making -/
theorem rep_all {E : Enc α} {x0 : α} {z : List Value} (hz : E.f x0 = z) : ∀ n, (List.replicate n z).flatten = E.all (List.replicate n x0)
  | 0 => by simp [Enc.all]
  | n + 1 => by
    have := rep_all (E := E) hz n
    simp only [List.replicate_succ, List.flatten_cons, Enc.all, List.flatMap_cons] at this ⊢
    rw [this, hz]
theorem make_i {E : Enc α} {x0 : α} {l c : Int} {z : List Value} {bytes : Nat} {K : Sl → HProp} {h : H} (hz : E.f x0 = z) (h0 : 0 ≤ l) (h1 : l ≤ c) (h2 : c * bytes ≤ 140737488355328) (h3 : c ≤ 140737488355328)
    (hK : ∀ v h', Vec h' v E (List.replicate l.toNat x0) → v.cap = c.toNat → New h v → Ext h h' → v.a ≠ none → K v h') : makeW l c z bytes K h := by
  unfold makeW
  refine ⟨h0, h1, h2, h3, fun b hb => hK _ _ ?_ rfl ?_ (Ext.set hb) (by simp)⟩
  · refine ⟨by simp, by simp; omega, (fun h => by cases h), fun a ha => ?_⟩
    cases ha
    refine ⟨rfl, _, set_same .., ?_, ?_⟩
    · rw [rep_all hz, E.all_len]; simp
    · rw [rep_all hz, List.drop_zero, List.length_replicate, E.all_take, List.take_replicate]
      congr 2; omega
  · intro b' hb'
    obtain ⟨a, ha, rfl⟩ := hb'
    cases ha; exact hb
theorem new_i {E : Enc α} {l : List α} {cs : List Value} {n : Nat} {K : Nat → HProp} {h : H} (hz : E.all l = cs) (hn : l.length = n)
    (hK : ∀ b h', Vec h' ⟨some ⟨b, 0, none⟩, n, n⟩ E l → New h ⟨some ⟨b, 0, none⟩, n, n⟩ → Ext h h' → K b h') : newW cs K h := by
  unfold newW
  intro b hb
  refine hK _ _ ⟨hn.symm, Nat.le_refl _, (fun h => by cases h), fun a ha => ?_⟩ ?_ (Ext.set hb)
  · cases ha
    refine ⟨rfl, _, set_same .., ?_, ?_⟩
    · rw [← hz, E.all_len, hn]; simp
    · rw [← hz, List.drop_zero, E.all_take, List.take_length]
  · intro b' hb'
    obtain ⟨a, ha, rfl⟩ := hb'
    cases ha; exact hb

/-! ### append -/
theorem Vec.append {h : H} {v : Sl} {E : Enc α} {l : List α} (V : Vec h v E l) {m : List α} {z xs : List Value} {bytes n : Nat} {K : Sl → HProp} (hz : z.length = E.w) (hx : E.all m = xs) (hn : m.length = n)
    (hsz : (l.length + n) * bytes ≤ 140737488355328)
    (hK : ∀ u h', Vec h' u E (l ++ m) → Fr v.on h h' → (∀ b, u.on b → v.on b ∨ h b = none) → K u h') : appendW v z bytes n xs K h := by
  unfold appendW
  have hxl : xs.length = n * E.w := by rw [← hx, E.all_len, hn]
  split
  · rename_i hc
    have : m = [] := List.length_eq_zero_iff.1 (by omega)
    subst this
    exact hK v h (by simpa using V) (Fr.refl _ h) (fun b hb => .inl hb)
  · rename_i hc
    split
    · rename_i hroom
      cases ha : v.a with
      | none =>
        have := V.nil ha
        have := V.le
        omega
      | some a =>
        obtain ⟨h1, c, h2, h3, h4⟩ := V.blk a ha
        rw [hz, hxl]
        have hle : a.off + v.len * E.w + n * E.w ≤ c.length := by
          have : (v.len + n) * E.w ≤ v.cap * E.w := Nat.mul_le_mul_right _ hroom
          rw [Nat.add_mul] at this; omega
        refine ⟨a, c, rfl, h2, h1, hle, ?_⟩
        have hlen := V.len
        refine hK _ _ ⟨by simp [hlen, hn], by simpa using hroom, (fun e => by cases e), fun a' ha' => ?_⟩ ?_ ?_
        · cases ha'
          refine ⟨h1, _, set_same .., ?_, ?_⟩
          · simp only [List.length_append, List.length_take, List.length_drop]
            rw [Nat.min_eq_left (by omega)]
            simp only [hxl]; omega
          · have e1 : (c.take (a.off + v.len * E.w)).drop a.off = E.all l := by
              rw [List.drop_take, ← h4, hlen]; congr 1; omega
            rw [List.append_assoc, List.drop_append_of_le_length (by simp; omega), e1, List.length_append, E.all_append]
            rw [← List.append_assoc, List.take_append_of_le_length]
            · rw [List.take_of_length_le]
              · rw [hx]
              · rw [List.length_append, E.all_len, hxl, Nat.add_mul, hn]; omega
            · rw [List.length_append, E.all_len, hxl, Nat.add_mul, hn]; omega
        · exact Fr.set.mono fun k hk => ⟨a, ha, hk.symm⟩
        · intro b hb
          obtain ⟨a', ha', rfl⟩ := hb
          cases ha'
          exact .inl ⟨a, ha, rfl⟩
    · rename_i hroom
      have hlen := V.len
      refine ⟨E.all l, ?_, E.all_ones l, by rw [hlen]; exact hsz, ?_⟩
      · unfold H.row?
        rw [hz, hlen]
        by_cases hl : l = []
        · subst hl; simp [Enc.all]
        · have hpos : 0 < l.length := List.length_pos_iff.2 hl
          have := Nat.mul_pos hpos E.pos
          rw [if_neg (by omega)]
          cases ha : v.a with
          | none => exact absurd ha (V.arr.ne hl)
          | some a =>
            obtain ⟨h1, c, wr, h2, h3, h4⟩ := V.arr.blk a ha hl
            simp only [h2, h1, Option.isSome_none, Bool.false_eq_true, if_false, if_pos h3, h4]
      · intro cap' b hcap hb
        have hzl : ∀ k, (List.replicate k z).flatten.length = k * E.w := by
          intro k; simp [hz]
        refine hK _ _ ⟨by simp [hlen, hn], hcap, (fun e => by cases e), fun a' ha' => ?_⟩ ?_ ?_
        · cases ha'
          refine ⟨rfl, _, set_same .., ?_, ?_⟩
          · simp only [List.length_append, hzl, hxl, E.all_len]
            simp only [Nat.zero_add]
            rw [← hlen, ← Nat.add_mul, ← Nat.add_mul]
            exact Nat.mul_le_mul_right _ (by omega)
          · rw [List.drop_zero, List.length_append, E.all_append, hx]
            rw [List.take_append_of_le_length]
            · rw [List.take_of_length_le]
              rw [List.length_append, E.all_len, hxl, Nat.add_mul, hn]; omega
            · rw [List.length_append, E.all_len, hxl, Nat.add_mul, hn]; omega
        · exact Fr.mono (S := fun _ => False) (Ext.set hb) (fun _ h => h.elim)
        · intro b' hb'
          obtain ⟨a', ha', rfl⟩ := hb'
          cases ha'
          exact .inr hb
/-- ... of a slice that was made since h0 -/
theorem Vec.append_new {h0 h : H} {v : Sl} {E : Enc α} {l : List α} (V : Vec h v E l) (g : Ext h0 h) (nw : New h0 v) {m : List α} {z xs : List Value} {bytes n : Nat} {K : Sl → HProp} (hz : z.length = E.w) (hx : E.all m = xs) (hn : m.length = n)
    (hsz : (l.length + n) * bytes ≤ 140737488355328)
    (hK : ∀ u h', Vec h' u E (l ++ m) → Ext h0 h' → New h0 u → Fr v.on h h' → (∀ b, u.on b → v.on b ∨ h b = none) → K u h') : appendW v z bytes n xs K h := by
  refine V.append hz hx hn hsz fun u h' V' f hu => hK u h' V' (g.of_new f nw) ?_ f hu
  intro b hb
  rcases hu b hb with h1 | h1
  · exact nw b h1
  · exact g.none h1

/-! ### writing -/
theorem Vec.stores {h : H} {v : Sl} {E : Enc α} {l : List α} (V : Vec h v E l) {i : Nat} {a : Addr} {x : α} {vs : List Value} {K : HProp} (hs : Slot v i E.w a) (hi : i < l.length) (hx : E.f x = vs)
    (hK : ∀ h', Vec h' v E (l.set i x) → Fr v.on h h' → K h') : storesW a vs K h := by
  obtain ⟨b, hb, rfl⟩ := hs
  obtain ⟨h1, c, h2, h3, h4⟩ := V.blk b hb
  have hvl : vs.length = E.w := by rw [← hx, E.len]
  have hcap : l.length ≤ v.cap := by rw [← V.len]; exact V.le
  have hle : i * E.w + E.w ≤ l.length * E.w := by
    have : (i + 1) * E.w ≤ l.length * E.w := Nat.mul_le_mul_right _ hi
    rw [Nat.succ_mul] at this; omega
  have hle2 : l.length * E.w ≤ v.cap * E.w := Nat.mul_le_mul_right _ hcap
  rw [add_eq h1]
  unfold storesW
  simp only [h2]
  refine ⟨trivial, by omega, hK _ ⟨by simp [V.len], V.le, V.nil, fun a ha => ?_⟩ (Fr.set.mono fun k hk => ⟨b, hb, hk.symm⟩)⟩
  rw [hb] at ha; cases ha
  refine ⟨h1, _, set_same .., ?_, ?_⟩
  · simp only [List.length_append, List.length_take, List.length_drop]; omega
  · rw [E.all_set l i x hi, List.length_set, ← h4, hx]
    rw [hvl]
    apply List.ext_getElem?
    intro j
    by_cases hj : j < l.length * E.w
    · rw [List.getElem?_take, if_pos hj, List.getElem?_drop]
      have m1 : min (b.off + i * E.w) c.length = b.off + i * E.w := by omega
      have m2 : min (i * E.w) (min (l.length * E.w) (c.length - b.off)) = i * E.w := by omega
      simp only [List.getElem?_append, List.length_append, List.length_take, List.length_drop, List.getElem?_take, List.getElem?_drop, hvl, m1, m2]
      by_cases hj1 : j < i * E.w
      · rw [if_pos (by omega), if_pos (by omega), if_pos (by omega), if_pos (by omega), if_pos (by omega), if_pos (by omega), if_pos (by omega)]
      · by_cases hj2 : j < i * E.w + E.w
        · rw [if_pos (by omega), if_neg (by omega), if_pos (by omega), if_neg (by omega)]
          congr 1; omega
        · rw [if_neg (by omega), if_neg (by omega), if_pos (by omega)]
          congr 1; omega
    · rw [List.getElem?_eq_none (by simp; omega), List.getElem?_eq_none (by simp; omega)]
theorem set_splice {c vs : List Value} {o j : Nat} {y : Value} (ho : o + vs.length ≤ c.length) (hj : j < vs.length) (hc : (c.drop o).take vs.length = vs) : c.take o ++ vs.set j y ++ c.drop (o + vs.length) = c.set (o + j) y := by
  apply List.ext_getElem?
  intro i
  have m1 : min o c.length = o := by omega
  have hg : ∀ i, i < vs.length → vs[i]? = c[o + i]? := by
    intro i hi
    conv => lhs; rw [← hc]
    rw [List.getElem?_take, if_pos hi, List.getElem?_drop]
  simp only [List.getElem?_append, List.length_append, List.length_take, List.length_drop, List.getElem?_take, List.getElem?_drop, List.length_set, m1, List.getElem?_set]
  by_cases h1 : i < o
  · rw [if_pos (by omega), if_pos h1, if_pos h1, if_neg (by omega)]
  · by_cases h2 : i < o + vs.length
    · rw [if_pos h2, if_neg h1]
      by_cases h3 : j = i - o
      · rw [if_pos h3, if_pos (by omega), if_pos (by omega), if_pos (by omega)]
      · rw [if_neg h3, if_neg (by omega), hg _ (by omega)]
        congr 1; omega
    · rw [if_neg h2, if_neg (by omega)]
      congr 1; omega
theorem Vec.store {h : H} {v : Sl} {E : Enc α} {l : List α} (V : Vec h v E l) {i j : Nat} {a : Addr} {x x' : α} {y : Value} {K : HProp} (hs : Slot v i E.w a) (hi : l[i]? = some x) (hj : j < E.w) (hx : E.f x' = (E.f x).set j y)
    (hK : ∀ h', Vec h' v E (l.set i x') → Fr v.on h h' → K h') : storeW (a.add j) y K h := by
  have hil := (List.getElem?_eq_some_iff.1 hi).1
  have := V.stores (K := K) hs hil (vs := E.f x') rfl hK
  obtain ⟨b, hb, rfl⟩ := hs
  obtain ⟨h1, c, h2, h3, h4⟩ := V.blk b hb
  have hcap : l.length ≤ v.cap := by rw [← V.len]; exact V.le
  have hle : i * E.w + E.w ≤ l.length * E.w := by
    have : (i + 1) * E.w ≤ l.length * E.w := Nat.mul_le_mul_right _ hil
    rw [Nat.succ_mul] at this; omega
  have hle2 : l.length * E.w ≤ v.cap * E.w := Nat.mul_le_mul_right _ hcap
  rw [addadd, add_eq h1]
  rw [add_eq h1] at this
  unfold storesW at this
  unfold storeW
  simp only [h2] at this ⊢
  obtain ⟨k1, k2, k3⟩ := this
  refine ⟨trivial, by omega, ?_⟩
  have e : (c.drop (b.off + i * E.w)).take (E.f x).length = E.f x := by
    have hg : ∀ j, j < (E.f x).length → c[b.off + i * E.w + j]? = (E.f x)[j]? := by
      intro j hj
      have hy : (E.f x)[j]? = some (E.f x)[j] := by simp [hj]
      have := E.all_get l i j x _ hi hy
      rw [← h4, List.getElem?_take, List.getElem?_drop] at this
      rw [E.len] at hj
      rw [if_pos (by omega)] at this
      rw [hy, ← this]; congr 1; omega
    apply List.ext_getElem?
    intro j
    rw [List.getElem?_take, List.getElem?_drop]
    split
    · rename_i hj; exact hg j hj
    · rename_i hj; rw [List.getElem?_eq_none (by omega)]
  have e2 := set_splice (c := c) (vs := E.f x) (o := b.off + i * E.w) (j := j) (y := y) (by rw [E.len]; omega) (by rw [E.len]; exact hj) e
  rw [hx, List.length_set, e2] at k3
  rw [show b.off + (i * E.w + j) = b.off + i * E.w + j by omega]
  exact k3

/-! ### texts and bytes -/
def byteInts (z : ByteArray) : List Int := z.data.toList.map fun b => (b.toNat : Int)
theorem byteVals_all (z : ByteArray) : byteVals z = (eI .u8).all (byteInts z) := by
  unfold byteVals
  simp only [Enc.all, byteInts, eI, List.flatMap_def, List.map_map]
  induction z.data.toList with
  | nil => rfl
  | cons b l ih => simp only [List.map_cons, List.flatten_cons, ← ih]; rfl
theorem eI_all (k : IntKind) (l : List Int) : (eI k).all l = l.map (Value.int k) := by
  induction l with
  | nil => rfl
  | cons b l ih => simp only [Enc.all, List.flatMap_cons, List.map_cons] at ih ⊢; rw [ih]; rfl
theorem byteInts_len (z : ByteArray) : (byteInts z).length = z.size := by unfold byteInts; rw [List.length_map, Array.length_toList]; rfl
theorem bytes_i {z : ByteArray} {K : Sl → HProp} {h : H} (hK : ∀ v h', Vec h' v (eI .u8) (byteInts z) → New h v → Ext h h' → K v h') : bytesW z K h := by
  unfold bytesW
  intro cap b hc hb
  refine hK _ _ ⟨(byteInts_len z).symm, hc, (fun e => by cases e), fun a ha => ?_⟩ ?_ (Ext.set hb)
  · cases ha
    refine ⟨rfl, _, set_same .., ?_, ?_⟩
    · rw [byteVals_all, List.length_append, Enc.all_len, byteInts_len, List.length_replicate]
      show 0 + cap * 1 ≤ z.size * 1 + (cap - z.size); omega
    · rw [byteVals_all, List.drop_zero, List.take_append_of_le_length (by rw [Enc.all_len]; exact Nat.le_refl _), Enc.all_take, List.take_length]
  · intro b' hb'
    obtain ⟨a, ha, rfl⟩ := hb'
    cases ha; exact hb
theorem Arr.text {h : H} {v : Sl} {l : List Int} (A : Arr h v (eI .u8) l) {K : ByteArray → HProp} (hK : K (textOf l) h) : textW v K h := by
  have := A.row (w := 1) (K := fun c h => (∃ ns : List Int, c = ns.map (Value.int .u8) ∧ K (textOf ns) h)) rfl ⟨l, eI_all .u8 l, hK⟩
  unfold rowW at this
  obtain ⟨c, h1, _, ns, rfl, h2⟩ := this
  unfold textW
  exact ⟨ns, by simpa using h1, h2⟩
theorem textOf_data (l : List Int) : (textOf l).data.toList = l.map fun n => UInt8.ofNat n.toNat := by unfold textOf; simp
theorem text_bytes (z : ByteArray) : textOf (byteInts z) = z := by
  cases z with
  | mk d =>
    unfold textOf
    congr 1
    apply Array.ext'
    simp only [byteInts, List.map_map]
    rw [show (fun n : Int => UInt8.ofNat n.toNat) ∘ (fun b : UInt8 => (b.toNat : Int)) = id by funext b; simp]
    simp
theorem byte_i {i : Int} {z : ByteArray} {b : UInt8} {K : Int → HProp} {h : H} (h0 : 0 ≤ i) (hb : z.data.toList[i.toNat]? = some b) (hK : K (b.toNat : Int) h) : byteW i z K h := by
  unfold byteW
  have hlt : i.toNat < z.size := by
    have := (List.getElem?_eq_some_iff.1 hb).1
    rw [Array.length_toList] at this
    exact this
  refine ⟨hlt, h0, ?_⟩
  have : z[i.toNat]'hlt = b := by
    have h2 := (List.getElem?_eq_some_iff.1 hb).2
    rw [Array.getElem_toList] at h2
    exact h2
  rw [this]; exact hK
theorem cut_i {z : ByteArray} {lo hi : Int} {K : ByteArray → HProp} {h : H} (h0 : 0 ≤ lo) (h1 : lo ≤ hi) (h2 : hi ≤ z.size) (hK : K (z.extract lo.toNat hi.toNat) h) : cutW z lo hi K h := by
  unfold cutW; exact ⟨h0, h1, h2, hK⟩
theorem extract_data (z : ByteArray) (a b : Nat) : (z.extract a b).data.toList = (z.data.toList.take b).drop a := by
  rw [ByteArray.data_extract]
  simp [Array.toList_extract, List.extract, List.drop_take]
theorem loop_n {σ : Type} {s : σ} {body : σ → (σ → HProp) → HProp} {h : H} (I : Nat → σ → H → Prop) (n : Nat) (h0 : I n s h)
    (hb : ∀ n s h, I n s h → ∀ k : σ → HProp, (∀ m s' h', m < n → I m s' h' → k s' h') → body s k h) : loopW s body h := by
  classical
  unfold loopW
  have least : ∀ (p : Nat → Prop), (∃ n, p n) → ∃ n, p n ∧ ∀ m, p m → n ≤ m := by
    intro p ⟨n, hn⟩
    induction n using Nat.strongRecOn with
    | ind n ih =>
      by_cases hm : ∃ m, m < n ∧ p m
      · obtain ⟨m, h1, h2⟩ := hm; exact ih m h1 h2
      · exact ⟨n, hn, fun m hp => by
          by_cases h : n ≤ m
          · exact h
          · exact absurd ⟨m, by omega, hp⟩ hm⟩
  let μ : σ → H → Nat := fun s h => if hx : ∃ n, I n s h then Classical.choose (least _ hx) else 0
  have hμ : ∀ s h (hx : ∃ n, I n s h), I (μ s h) s h ∧ ∀ m, I m s h → μ s h ≤ m := by
    intro s h hx
    have := Classical.choose_spec (least _ hx)
    simp only [μ, dif_pos hx]
    exact this
  refine ⟨fun s h => ∃ n, I n s h, μ, ⟨n, h0⟩, fun s h hI => ?_⟩
  obtain ⟨h1, h2⟩ := hμ s h hI
  refine hb _ s h h1 _ fun m s' h' hm hI' => ⟨⟨m, hI'⟩, ?_⟩
  obtain ⟨_, h4⟩ := hμ s' h' ⟨m, hI'⟩
  exact Nat.lt_of_le_of_lt (h4 m hI') hm

/-! ### one block -/
def Obj (h : H) (b : Nat) (cs : List Value) : Prop := h b = some (.cells cs true)
abbrev at0 (b : Nat) : Addr := ⟨b, 0, none⟩
theorem at0_add (b j : Nat) : (at0 b).add j = ⟨b, j, none⟩ := by rw [add_eq rfl]; simp
theorem Obj.ld {h : H} {b j : Nat} {cs : List Value} {v : Value} (o : Obj h b cs) (hv : cs[j]? = some v) : h.cell? ((at0 b).add j) = some v := by
  rw [at0_add]
  unfold Obj at o
  simp [H.cell?, o, hv]
theorem Obj.st {h : H} {b j : Nat} {cs : List Value} {v : Value} {K : HProp} (o : Obj h b cs) (hj : j < cs.length) (hK : ∀ h', Obj h' b (cs.set j v) → Fr (fun k => k = b) h h' → K h') : storeW ((at0 b).add j) v K h := by
  rw [at0_add]
  unfold Obj at o
  unfold storeW
  simp only [o]
  exact ⟨trivial, hj, hK _ (set_same ..) Fr.set⟩
theorem Obj.new {cs : List Value} {K : Nat → HProp} {h : H} (hK : ∀ b h', Obj h' b cs → h b = none → Ext h h' → K b h') : newW cs K h := by
  unfold newW
  intro b hb
  exact hK b _ (set_same ..) hb (Ext.set hb)
theorem Obj.fr {S : Nat → Prop} {h h' : H} {b : Nat} {cs : List Value} (o : Obj h b cs) (f : Fr S h h') (hs : ¬ S b) : Obj h' b cs := f b _ o hs
theorem Obj.ext {h h' : H} {b : Nat} {cs : List Value} (o : Obj h b cs) (f : Ext h h') : Obj h' b cs := f b _ o (fun h => h)
theorem keeps_i {a : Addr} {vs : List Value} {K : HProp} {h : H} (hc : ∀ j u, vs[j]? = some u → h.cell? (a.add j) = some u) (hK : K h) : keepsW a vs K h := by unfold keepsW; exact ⟨hc, hK⟩
theorem keeps1 {a : Addr} {v : Value} {K : HProp} {h : H} (hc : h.cell? a = some v) (hK : K h) : keepsW a [v] K h := by
  refine keeps_i (fun j u hu => ?_) hK
  cases j with
  | zero => simp at hu; subst hu; rw [add0]; exact hc
  | succ j => simp at hu
theorem isNilP_some (a : Addr) : isNilP (some a) = false := by unfold isNilP; rfl
theorem isNilP_none : isNilP none = true := by unfold isNilP; rfl

theorem toList_loop (z : ByteArray) : ∀ (n i : Nat) (r : List UInt8), z.size - i = n → ByteArray.toList.loop z i r = r.reverse ++ z.data.toList.drop i := by
  intro n
  induction n with
  | zero =>
    intro i r h
    rw [ByteArray.toList.loop]
    have : ¬ i < z.size := by omega
    rw [if_neg this, List.drop_eq_nil_of_le]
    · simp
    · rw [Array.length_toList]; show z.size ≤ i; omega
  | succ n ih =>
    intro i r h
    rw [ByteArray.toList.loop]
    have hi : i < z.size := by omega
    rw [if_pos hi, ih _ _ (by omega)]
    have h2 : i < z.data.toList.length := by rw [Array.length_toList]; exact hi
    rw [List.drop_eq_getElem_cons h2]
    have : z.get! i = z.data.toList[i] := by
      have h3 : i < z.data.size := hi
      have e : z.get! i = z.data[i]! := by cases z; rfl
      rw [e, getElem!_pos z.data i h3, Array.getElem_toList]
    simp [this]
theorem baToList (z : ByteArray) : z.toList = z.data.toList := by
  unfold ByteArray.toList
  rw [toList_loop z _ 0 [] rfl]; simp
theorem ba_ext {a b : ByteArray} (h : a.data.toList = b.data.toList) : a = b := by
  cases a; cases b
  congr 1
  exact Array.ext' h
theorem eqS_eq (a b : ByteArray) : eqS a b = decide (a = b) := by
  unfold eqS
  rw [baToList, baToList]
  rw [Bool.eq_iff_iff, beq_iff_eq, decide_eq_true_iff]
  exact ⟨ba_ext, fun h => by rw [h]⟩
theorem size_data (z : ByteArray) : z.data.toList.length = z.size := by rw [Array.length_toList]; rfl

theorem slice0 {v : Sl} {w : Nat} {hi : Int} {K : Sl → HProp} {h : H} (h0 : 0 ≤ hi) (h1 : hi ≤ v.cap) (h2 : 0 < v.cap) (hK : K ⟨v.a, hi.toNat, v.cap⟩ h) : sliceW v w 0 hi K h := by
  unfold sliceW
  refine ⟨Int.le_refl _, h0, h1, ?_⟩
  have e1 : ¬ v.cap = (0 : Int).toNat := by simp; omega
  rw [if_neg e1]
  have e2 : v.a.map (fun x => x.add ((0 : Int).toNat * w)) = v.a := by
    cases v.a <;> simp [add0]
  rw [e2]
  simpa using hK
theorem Arr.take {h : H} {v : Sl} {E : Enc α} {l : List α} (A : Arr h v E l) {n : Nat} (hn : n ≤ l.length) : Arr h ⟨v.a, n, v.cap⟩ E (l.take n) := by
  have hle := A.le
  have hlen := A.len
  refine ⟨by simp; omega, by show n ≤ v.cap; omega, A.nil, fun a ha hl => ?_⟩
  have hpos : 0 < (l.take n).length := List.length_pos_iff.2 hl
  simp at hpos
  obtain ⟨k1, c, wr, k2, k3, k4⟩ := A.blk a ha (by intro e; subst e; simp at hpos)
  have hll : (l.take n).length = n := by simp; omega
  have hm : n * E.w ≤ l.length * E.w := Nat.mul_le_mul_right _ hn
  refine ⟨k1, c, wr, k2, by rw [hll]; omega, ?_⟩
  rw [hll, ← E.all_take, ← k4, List.take_take]
  congr 1; omega

theorem Obj.ld0 {h : H} {b : Nat} {cs : List Value} {v : Value} (o : Obj h b cs) (hv : cs[0]? = some v) : h.cell? (at0 b) = some v := by
  have := o.ld (j := 0) hv
  rw [add0] at this; exact this
theorem Obj.st0 {h : H} {b : Nat} {cs : List Value} {v : Value} {K : HProp} (o : Obj h b cs) (hj : 0 < cs.length) (hK : ∀ h', Obj h' b (cs.set 0 v) → Fr (fun k => k = b) h h' → K h') : storeW (at0 b) v K h := by
  have := o.st (j := 0) (v := v) hj hK
  rw [add0] at this; exact this
end
end Go.Cz
