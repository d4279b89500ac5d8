/- Part of the proof of a law of 1312: an engine that runs a function over an abstract heap, and what the functions compute; own work. -/
import Derived.Test.YtbefcngilihcoaaGreatDoorGA
import Derived.Lib.TrimByte
import Derived.Lib.Join
import Derived.Lib.ItoaNum
set_option linter.unusedVariables false
set_option linter.unusedSimpArgs false
set_option linter.unusedSectionVars false
namespace Go.Cz
def flat2 : List (Int × Int) → List Value
  | [] => []
  | x :: r => .int .i64 x.1 :: .int .i64 x.2 :: flat2 r
def ltP (x y : Int × Int) : Bool := decide (x.1 < y.1 ∨ x.1 = y.1 ∧ x.2 < y.2)
def leP (x y : Int × Int) : Bool := !ltP y x
def sortPW (v : Sl) (K : HProp) : HProp := fun h => ∃ l : List (Int × Int), l.length = v.len ∧ l.length < 4611686018427387904 ∧ h.row? v.a (v.len * 2) = some (flat2 l) ∧
  (l = [] → K h) ∧ (l ≠ [] → ∃ a, v.a = some a ∧ storesW a (flat2 (l.mergeSort leP)) K h)
def collectPW (v : Sl) (K : Sl → HProp) : HProp := fun h => ∃ l : List (Int × Int), l.length = v.len ∧ l.length * 16 ≤ 140737488351232 ∧ h.row? v.a (v.len * 2) = some (flat2 l) ∧
  (l = [] → K ⟨none, 0, 0⟩ h) ∧ (l ≠ [] → ∀ (cap' : Nat) (rest : List Value) (b : Nat), l.length ≤ cap' → rest.length = (cap' - l.length) * 2 → h b = none →
    K ⟨some ⟨b, 0, none⟩, l.length, cap'⟩ (h.set b (.cells (flat2 l ++ rest) true)))
def u8s (l : List UInt8) : List Value := l.map fun b => Value.int .u8 b.toNat
def repeatW (s : ByteArray) (n : Int) (K : ByteArray → HProp) : HProp := fun h => 0 ≤ n ∧ n ≤ 9223372036854775807 ∧ s.size * n.toNat ≤ 140737488355328 ∧ K ⟨(List.replicate n.toNat s.data.toList).flatten.toArray⟩ h
def trimW (s cut : ByteArray) (K : ByteArray → HProp) : HProp := fun h => ∃ c : UInt8, cut = ⟨#[c]⟩ ∧ c.toNat < 128 ∧ s.size ≤ 9223372036854775807 ∧ K ⟨(Lib.trimB s.data.toList c).toArray⟩ h
def joinW (v : Sl) (sep : ByteArray) (K : ByteArray → HProp) : HProp := fun h => ∃ xs : List ByteArray, xs.length = v.len ∧ v.len ≤ v.cap ∧ v.len ≤ 140737488355328 ∧ h.row? v.a v.len = some (xs.map Value.string) ∧
  (Lib.join (xs.map (·.data.toList)) sep.data.toList).length ≤ 140737488355328 ∧ K ⟨(Lib.join (xs.map (·.data.toList)) sep.data.toList).toArray⟩ h
def itoaW (n : Int) (K : ByteArray → HProp) : HProp := fun h => 0 ≤ n ∧ n < 100 ∧ K ⟨(Lib.decDigits n.toNat).toArray⟩ h
def sortIW (v : Sl) (K : HProp) : HProp := fun h => ∃ l : List Int, l.length = v.len ∧ l.length < 4611686018427387904 ∧ h.row? v.a v.len = some (l.map (Value.int .i64)) ∧
  (l = [] → K h) ∧ (l ≠ [] → ∃ a, v.a = some a ∧ storesW a ((l.mergeSort fun x y => decide (x ≤ y)).map (Value.int .i64)) K h)
structure BldAt (T e : TypeId) (h : H) (b : Nat) (q : Option Addr) (v : Sl) (t : List UInt8) : Prop where
  blk : h b = some (.raw T [.pointer q, .slice v.a v.len v.cap])
  own : q = none ∨ q = some ⟨b, 0, none⟩
  len : v.len = t.length
  buf : (v.a = none ∧ v.cap = 0 ∧ t = []) ∨ ∃ g rest, v.a = some ⟨g, 0, none⟩ ∧ g ≠ b ∧ h g = some (.raw e (u8s t ++ rest)) ∧ v.cap = t.length + rest.length
def writeStrW (T e : TypeId) (p : Option Addr) (s : ByteArray) (K : Int → HProp) : HProp := fun h => ∃ b q v t, p = some ⟨b, 0, none⟩ ∧ BldAt T e h b q v t ∧ t.length + s.size ≤ 140737488355328 ∧
  (v.a = none → s.size = 0 → K s.size (h.set b (.raw T [.pointer (some ⟨b, 0, none⟩), .slice v.a v.len v.cap]))) ∧
  (∀ g rest, v.a = some ⟨g, 0, none⟩ → h g = some (.raw e (u8s t ++ rest)) → s.size ≤ rest.length →
    K s.size ((h.set g (.raw e (u8s (t ++ s.data.toList) ++ rest.drop s.size))).set b (.raw T [.pointer (some ⟨b, 0, none⟩), .slice v.a (v.len + s.size) v.cap]))) ∧
  (∀ g rest, h g = none → 
    K s.size ((h.set g (.raw e (u8s (t ++ s.data.toList) ++ rest))).set b (.raw T [.pointer (some ⟨b, 0, none⟩), .slice (some ⟨g, 0, none⟩) (v.len + s.size) (v.len + s.size + rest.length)])))
def bldTextW (T e : TypeId) (p : Option Addr) (K : ByteArray → HProp) : HProp := fun h => ∃ b q v t, p = some ⟨b, 0, none⟩ ∧ BldAt T e h b q v t ∧ t.length ≤ 140737488355328 ∧
  (t = [] → K ⟨#[]⟩ h) ∧ (∀ g rest, t ≠ [] → v.a = some ⟨g, 0, none⟩ → h g = some (.raw e (u8s t ++ rest)) → K ⟨t.toArray⟩ (h.set g (.cells (u8s t ++ rest) false)))
def leB (x y : List UInt8) : Bool := decide (x ≤ y)
def strs (l : List (List UInt8)) : List Value := l.map fun x => .string ⟨x.toArray⟩
def sortedKeysW (box : Option Addr) (K : Sl → HProp) : HProp := fun h => ∃ B r, box = some ⟨B, 0, none⟩ ∧ h.cell? ⟨B, 0, none⟩ = some (.map r) ∧ match r with
  | none => K ⟨none, 0, 0⟩ h
  | some m => match h m with
    | some (.map es ck) => ∃ ks : List (List UInt8), es.map (·.key) = strs ks ∧ ks.Nodup ∧ (es.map (·.born)).Nodup ∧ (∀ e ∈ es, e.born < ck) ∧ (∀ k ∈ ks, k.length ≤ 9223372036854775807) ∧ ks.length * 16 ≤ 140737488351232 ∧ (ks = [] → K ⟨none, 0, 0⟩ h) ∧
      (ks ≠ [] → ∀ (cap' : Nat) (rest : List Value) (b : Nat), ks.length ≤ cap' → rest.length = cap' - ks.length → h b = none → K ⟨some ⟨b, 0, none⟩, ks.length, cap'⟩ (h.set b (.cells (strs (ks.mergeSort leB) ++ rest) true)))
    | _ => False
end Go.Cz
namespace Go.Cz
open Go
set_option linter.unusedSimpArgs false
set_option linter.unusedVariables false
theorem ite_i {c : Bool} {A B : HProp} {h : H} (ha : c = true → A h) (hb : c = false → B h) : iteW c A B h := by
  unfold iteW
  cases c
  · exact hb rfl
  · exact ha rfl
theorem ite_t {c : Bool} {A B : HProp} {h : H} (hc : c = true) (ha : A h) : iteW c A B h := ite_i (fun _ => ha) (fun e => by rw [hc] at e; cases e)
theorem ite_f {c : Bool} {A B : HProp} {h : H} (hc : c = false) (hb : B h) : iteW c A B h := ite_i (fun e => by rw [hc] at e; cases e) (fun _ => hb)
theorem with_i {α : Type} {k : α → HProp} {f : (α → HProp) → HProp} {h : H} (P : α → H → Prop) (hf : ∀ k, (∀ a h', P a h' → k a h') → f k h) (hk : ∀ a h', P a h' → k a h') : withK k f h := by
  unfold withK
  exact hf k hk
theorem with_b {α : Type} {k : α → HProp} {f : (α → HProp) → HProp} {h : H} (p : α) (hf : ∀ k : α → HProp, k p h → f k h) (hk : k p h) : withK k f h := by
  unfold withK
  exact hf k hk
theorem with_u {α : Type} {k : α → HProp} {f : (α → HProp) → HProp} {h : H} (hf : f k h) : withK k f h := by
  unfold withK
  exact hf
theorem loop_i {σ : Type} {s : σ} {body : σ → (σ → HProp) → HProp} {h : H} (I : σ → H → Prop) (μ : σ → Nat) (h0 : I s h)
    (hb : ∀ s h, I s h → ∀ k : σ → HProp, (∀ s' h', I s' h' → μ s' < μ s → k s' h') → body s k h) : loopW s body h := by
  unfold loopW
  exact ⟨I, fun s _ => μ s, h0, fun s h hI => hb s h hI _ fun s' h' h1 h2 => ⟨h1, h2⟩⟩
theorem must_i {c : Prop} {K : HProp} {h : H} (hc : c) (hK : K h) : mustW c K h := by unfold mustW; exact ⟨hc, hK⟩
theorem deref_i {a : Addr} {K : Addr → HProp} {h : H} (hK : K a h) : derefW (some a) K h := by unfold derefW; exact ⟨a, rfl, hK⟩
theorem both_i {A B : HProp} {h : H} (ha : A h) (hb : B h) : bothW A B h := by unfold bothW; exact ⟨ha, hb⟩
theorem wrap64 {n : Int} (h1 : -9223372036854775808 ≤ n) (h2 : n ≤ 9223372036854775807) : IntKind.i64.wrap n = n := by
  simp [IntKind.wrap, IntKind.bits, IntKind.signed]; omega
theorem add_i64 {a b : Int} (h1 : -9223372036854775808 ≤ a + b) (h2 : a + b ≤ 9223372036854775807) : add .i64 a b = a + b := by unfold add; exact wrap64 h1 h2
theorem sub_i64 {a b : Int} (h1 : -9223372036854775808 ≤ a - b) (h2 : a - b ≤ 9223372036854775807) : sub .i64 a b = a - b := by unfold sub; exact wrap64 h1 h2
theorem mul_i64 {a b : Int} (h1 : -9223372036854775808 ≤ a * b) (h2 : a * b ≤ 9223372036854775807) : mul .i64 a b = a * b := by unfold mul; exact wrap64 h1 h2
theorem quo_i64 {a b : Int} (ha : 0 ≤ a) (hb : 0 < b) (h2 : a ≤ 9223372036854775807) : quo .i64 a b = a / b := by
  unfold quo
  rw [Int.tdiv_eq_ediv_of_nonneg ha]
  have := Int.ediv_le_self b ha
  have h3 := Int.ediv_nonneg ha (Int.le_of_lt hb)
  exact wrap64 (by omega) (by omega)
theorem rem_nn {a b : Int} (ha : 0 ≤ a) : rem a b = a % b := by unfold rem; exact Int.tmod_eq_emod_of_nonneg ha
theorem cnv_i64 {a : Int} (h1 : -9223372036854775808 ≤ a) (h2 : a ≤ 9223372036854775807) : cnv .i64 a = a := by unfold cnv; exact wrap64 h1 h2
theorem ltI_eq (a b : Int) : ltI a b = decide (a < b) := by unfold ltI; rfl
theorem leI_eq (a b : Int) : leI a b = decide (a ≤ b) := by unfold leI; rfl
theorem eqI_eq (a b : Int) : eqI a b = decide (a = b) := by unfold eqI; rfl
theorem minI_eq (a b : Int) : minI a b = if b < a then b else a := by unfold minI; rfl
theorem maxI_eq (a b : Int) : maxI a b = if a < b then b else a := by unfold maxI; rfl
theorem add0 (a : Addr) : a.add 0 = a := by simp [Addr.add]
theorem addadd (a : Addr) (m n : Nat) : (a.add m).add n = a.add (m + n) := by
  unfold Addr.add
  by_cases h1 : m = 0 <;> by_cases h2 : n = 0 <;> simp [h1, h2] <;> omega
theorem add_eq {a : Addr} (h : a.spot = none) (n : Nat) : a.add n = ⟨a.block, a.off + n, none⟩ := by
  cases a; unfold Addr.add; split <;> simp_all
def Fr (S : Nat → Prop) (h h' : H) : Prop := ∀ b o, h b = some o → ¬ S b → h' b = some o
abbrev Ext (h h' : H) : Prop := Fr (fun _ => False) h h'
theorem Fr.refl (S : Nat → Prop) (h : H) : Fr S h h := fun _ _ h _ => h
theorem Ext.refl (h : H) : Ext h h := Fr.refl _ h
theorem Fr.trans {S : Nat → Prop} {a b c : H} (h : Fr S a b) (g : Fr S b c) : Fr S a c := fun k o hk hs => g k o (h k o hk hs) hs
theorem Ext.trans {a b c : H} (h : Ext a b) (g : Ext b c) : Ext a c := Fr.trans h g
theorem Fr.mono {S T : Nat → Prop} {a b : H} (h : Fr S a b) (hs : ∀ k, S k → T k) : Fr T a b := fun k o hk ht => h k o hk (fun s => ht (hs k s))
theorem Ext.fr {S : Nat → Prop} {a b : H} (h : Ext a b) : Fr S a b := h.mono fun _ h => h.elim
theorem set_same (h : H) (b : Nat) (o : Blk) : h.set b o b = some o := if_pos rfl
theorem Ext.set {h : H} {b : Nat} {o : Blk} (hb : h b = none) : Ext h (h.set b o) := by
  intro k q hk _
  unfold H.set
  by_cases e : k = b
  · subst e; rw [hb] at hk; cases hk
  · rw [if_neg e]; exact hk
theorem Fr.set {h : H} {b : Nat} {o : Blk} : Fr (fun k => k = b) h (h.set b o) := by
  intro k q hk hs
  unfold H.set
  rw [if_neg hs]; exact hk
theorem Ext.of_new {S : Nat → Prop} {h0 h h' : H} (g : Ext h0 h) (f : Fr S h h') (hs : ∀ b, S b → h0 b = none) : Ext h0 h' := by
  intro b o hb _
  exact f b o (g b o hb (fun h => h)) (fun s => by rw [hs b s] at hb; cases hb)
theorem Ext.none {h0 h : H} (g : Ext h0 h) {b : Nat} (hb : h b = none) : h0 b = none := by
  cases e : h0 b with
  | none => rfl
  | some o => rw [g b o e (fun h => h)] at hb; cases hb
structure Enc (α : Type) where
  w : Nat
  f : α → List Value
  len : ∀ x, (f x).length = w
  ones : ∀ x, Go.Cz.ones (f x)
  pos : 0 < w
def Enc.all {α : Type} (E : Enc α) (l : List α) : List Value := l.flatMap E.f
theorem Enc.all_len {α : Type} (E : Enc α) : ∀ l : List α, (E.all l).length = l.length * E.w
  | [] => by simp [Enc.all]
  | x :: r => by
    have := E.all_len r
    simp only [Enc.all] at this
    simp only [Enc.all, List.flatMap_cons, List.length_append, List.length_cons, E.len, this, Nat.succ_mul]
    omega
theorem Enc.all_append {α : Type} (E : Enc α) (l m : List α) : E.all (l ++ m) = E.all l ++ E.all m := by simp [Enc.all]
theorem Enc.all_ones {α : Type} (E : Enc α) (l : List α) : Go.Cz.ones (E.all l) := by
  intro v hv
  simp only [Enc.all, List.mem_flatMap] at hv
  obtain ⟨x, _, hx⟩ := hv
  exact E.ones x v hx
theorem Enc.all_get {α : Type} (E : Enc α) : ∀ (l : List α) (i j : Nat) (x : α) (y : Value), l[i]? = some x → (E.f x)[j]? = some y → (E.all l)[i * E.w + j]? = some y
  | [], i, j, x, y, h1, h2 => by simp at h1
  | z :: r, 0, j, x, y, h1, h2 => by
    simp at h1; subst h1
    have hj : j < (E.f z).length := (List.getElem?_eq_some_iff.1 h2).1
    simp only [Enc.all, List.flatMap_cons, Nat.zero_mul, Nat.zero_add]
    rw [List.getElem?_append_left hj]; exact h2
  | z :: r, i + 1, j, x, y, h1, h2 => by
    simp only [Enc.all, List.flatMap_cons]
    rw [List.getElem?_append_right (by rw [E.len, Nat.succ_mul]; omega), E.len]
    have := E.all_get r i j x y (by simpa using h1) h2
    rw [show (i + 1) * E.w + j - E.w = i * E.w + j by rw [Nat.succ_mul]; omega]
    exact this
theorem Enc.all_take {α : Type} (E : Enc α) (l : List α) (n : Nat) : (E.all l).take (n * E.w) = E.all (l.take n) := by
  by_cases hn : n ≤ l.length
  · have e : E.all l = E.all (l.take n) ++ E.all (l.drop n) := by rw [← E.all_append, List.take_append_drop]
    rw [e]
    have hl : (E.all (l.take n)).length = n * E.w := by rw [E.all_len, List.length_take, Nat.min_eq_left hn]
    rw [← hl, List.take_left]
  · rw [List.take_of_length_le (by omega : l.length ≤ n), List.take_of_length_le]
    rw [E.all_len]
    exact Nat.mul_le_mul_right _ (by omega)
theorem Enc.all_drop {α : Type} (E : Enc α) (l : List α) (n : Nat) : (E.all l).drop (n * E.w) = E.all (l.drop n) := by
  by_cases hn : n ≤ l.length
  · have e : E.all l = E.all (l.take n) ++ E.all (l.drop n) := by rw [← E.all_append, List.take_append_drop]
    rw [e]
    have hl : (E.all (l.take n)).length = n * E.w := by rw [E.all_len, List.length_take, Nat.min_eq_left hn]
    rw [← hl, List.drop_left]
  · rw [List.drop_eq_nil_of_le (by omega : l.length ≤ n), List.drop_eq_nil_of_le]
    · rfl
    · rw [E.all_len]
      exact Nat.mul_le_mul_right _ (by omega)
theorem Enc.all_set {α : Type} (E : Enc α) : ∀ (l : List α) (i : Nat) (x : α), i < l.length → E.all (l.set i x) = (E.all l).take (i * E.w) ++ E.f x ++ (E.all l).drop (i * E.w + E.w) := by
  intro l i x hi
  rw [E.all_take, show i * E.w + E.w = (i + 1) * E.w by rw [Nat.succ_mul], E.all_drop]
  rw [List.set_eq_take_append_cons_drop, if_pos hi]
  simp [Enc.all]
def eI (k : IntKind) : Enc Int := ⟨1, fun n => [.int k n], fun _ => rfl, fun n v hv => by simp at hv; subst hv; trivial, Nat.one_pos⟩
def eS : Enc ByteArray := ⟨1, fun n => [.string n], fun _ => rfl, fun n v hv => by simp at hv; subst hv; trivial, Nat.one_pos⟩
def eL : Enc Sl := ⟨1, fun v => [.slice v.a v.len v.cap], fun _ => rfl, fun n v hv => by simp at hv; subst hv; trivial, Nat.one_pos⟩
def eP : Enc (Int × Int) := ⟨2, fun x => [.int .i64 x.1, .int .i64 x.2], fun _ => rfl, fun n v hv => by simp at hv; rcases hv with rfl | rfl <;> trivial, Nat.two_pos⟩
section
variable {α : Type}
structure Arr (h : H) (v : Sl) (E : Enc α) (l : List α) : Prop where
  len : v.len = l.length
  le : v.len ≤ v.cap
  nil : v.a = none → v.cap = 0
  blk : ∀ a, v.a = some a → l ≠ [] → a.spot = none ∧ ∃ c wr, h a.block = some (.cells c wr) ∧ a.off + l.length * E.w ≤ c.length ∧ (c.drop a.off).take (l.length * E.w) = E.all l
structure Vec (h : H) (v : Sl) (E : Enc α) (l : List α) : Prop where
  len : v.len = l.length
  le : v.len ≤ v.cap
  nil : v.a = none → v.cap = 0
  blk : ∀ a, v.a = some a → a.spot = none ∧ ∃ c, h a.block = some (.cells c true) ∧ a.off + v.cap * E.w ≤ c.length ∧ (c.drop a.off).take (l.length * E.w) = E.all l
theorem Vec.arr {h : H} {v : Sl} {E : Enc α} {l : List α} (V : Vec h v E l) : Arr h v E l := by
  refine ⟨V.len, V.le, V.nil, fun a ha _ => ?_⟩
  obtain ⟨h1, c, h2, h3, h4⟩ := V.blk a ha
  exact ⟨h1, c, true, h2, Nat.le_trans (Nat.add_le_add_left (Nat.mul_le_mul_right _ (by rw [← V.len]; exact V.le)) _) h3, h4⟩
def Sl.on (v : Sl) (b : Nat) : Prop := ∃ a, v.a = some a ∧ a.block = b
def New (h : H) (v : Sl) : Prop := ∀ b, v.on b → h b = none
theorem Arr.fr {S : Nat → Prop} {h h' : H} {v : Sl} {E : Enc α} {l : List α} (A : Arr h v E l) (f : Fr S h h') (hs : ∀ b, v.on b → ¬ S b) : Arr h' v E l := by
  refine ⟨A.len, A.le, A.nil, fun a ha hl => ?_⟩
  obtain ⟨h1, c, wr, h2, h3⟩ := A.blk a ha hl
  exact ⟨h1, c, wr, f _ _ h2 (hs _ ⟨a, ha, rfl⟩), h3⟩
theorem Arr.ext {h h' : H} {v : Sl} {E : Enc α} {l : List α} (A : Arr h v E l) (f : Ext h h') : Arr h' v E l := A.fr f fun _ _ h => h
theorem Vec.fr {S : Nat → Prop} {h h' : H} {v : Sl} {E : Enc α} {l : List α} (A : Vec h v E l) (f : Fr S h h') (hs : ∀ b, v.on b → ¬ S b) : Vec h' v E l := by
  refine ⟨A.len, A.le, A.nil, fun a ha => ?_⟩
  obtain ⟨h1, c, h2, h3⟩ := A.blk a ha
  exact ⟨h1, c, f _ _ h2 (hs _ ⟨a, ha, rfl⟩), h3⟩
theorem Vec.ext {h h' : H} {v : Sl} {E : Enc α} {l : List α} (A : Vec h v E l) (f : Ext h h') : Vec h' v E l := A.fr f fun _ _ h => h
theorem Vec.there {h : H} {v : Sl} {E : Enc α} {l : List α} (A : Vec h v E l) {b : Nat} (hb : v.on b) : ∃ o, h b = some o := by
  obtain ⟨a, ha, rfl⟩ := hb
  obtain ⟨_, c, h2, _⟩ := A.blk a ha
  exact ⟨_, h2⟩
theorem Vec.nil0 {h : H} {E : Enc α} : Vec h ⟨none, 0, 0⟩ E [] := ⟨rfl, Nat.le_refl _, fun _ => rfl, fun a ha => by cases ha⟩
theorem New.nil0 {h : H} {n c : Nat} : New h ⟨none, n, c⟩ := fun b hb => by obtain ⟨a, ha, _⟩ := hb; cases ha
theorem New.mono {h0 h : H} {v : Sl} (g : Ext h0 h) (n : New h v) : New h0 v := fun b hb => g.none (n b hb)
def Slot (v : Sl) (i w : Nat) (a : Addr) : Prop := ∃ b, v.a = some b ∧ a = b.add (i * w)
theorem index_i {v : Sl} {i : Int} {w : Nat} {K : Addr → HProp} {h : H} (h0 : 0 ≤ i) (h1 : i < v.len) (hn : v.a ≠ none) (hK : ∀ a, Slot v i.toNat w a → K a h) : indexW i v w K h := by
  unfold indexW
  cases ha : v.a with
  | none => exact absurd ha hn
  | some a => exact ⟨a, rfl, h0, h1, hK _ ⟨a, ha, rfl⟩⟩
theorem Arr.ne {h : H} {v : Sl} {E : Enc α} {l : List α} (A : Arr h v E l) (hl : l ≠ []) : v.a ≠ none := by
  intro ha
  have := A.nil ha
  have h1 := A.le
  have h2 := A.len
  have : 0 < l.length := List.length_pos_iff.2 hl
  omega
theorem Arr.index {h : H} {v : Sl} {E : Enc α} {l : List α} (A : Arr h v E l) {i : Int} {w : Nat} {K : Addr → HProp} (h0 : 0 ≤ i) (h1 : i < l.length) (hK : ∀ a, Slot v i.toNat w a → K a h) : indexW i v w K h :=
  index_i h0 (by rw [A.len]; exact h1) (A.ne (by intro e; subst e; simp at h1; omega)) hK
theorem Arr.cell {h : H} {v : Sl} {E : Enc α} {l : List α} (A : Arr h v E l) {i j : Nat} {a : Addr} {x : α} {y : Value} (hs : Slot v i E.w a) (hx : l[i]? = some x) (hy : (E.f x)[j]? = some y) : h.cell? (a.add j) = some y := by
  obtain ⟨b, hb, rfl⟩ := hs
  have hi := (List.getElem?_eq_some_iff.1 hx).1
  have hj := (List.getElem?_eq_some_iff.1 hy).1
  rw [E.len] at hj
  obtain ⟨h1, c, wr, h2, h3, h4⟩ := A.blk b hb (by intro e; subst e; simp at hi)
  rw [addadd, add_eq h1]
  simp only [H.cell?, h2]
  have hg := E.all_get l i j x y hx hy
  rw [← h4, List.getElem?_take, List.getElem?_drop] at hg
  have hlt : i * E.w + j < l.length * E.w := by
    have : (i + 1) * E.w ≤ l.length * E.w := Nat.mul_le_mul_right _ hi
    rw [Nat.succ_mul] at this; omega
  rw [if_pos hlt] at hg
  simpa [Nat.add_assoc] using hg
theorem loadI_i {a : Addr} {k : IntKind} {n : Int} {K : Int → HProp} {h : H} (hc : h.cell? a = some (.int k n)) (hK : K n h) : loadI k a K h := by
  unfold loadI; rw [hc]; exact ⟨rfl, hK⟩
theorem loadB_i {a : Addr} {n : Bool} {K : Bool → HProp} {h : H} (hc : h.cell? a = some (.bool n)) (hK : K n h) : loadB a K h := by
  unfold loadB; rw [hc]; exact hK
theorem loadS_i {a : Addr} {n : ByteArray} {K : ByteArray → HProp} {h : H} (hc : h.cell? a = some (.string n)) (hK : K n h) : loadS a K h := by
  unfold loadS; rw [hc]; exact hK
theorem loadP_i {a : Addr} {n : Option Addr} {K : Option Addr → HProp} {h : H} (hc : h.cell? a = some (.pointer n)) (hK : K n h) : loadP a K h := by
  unfold loadP; rw [hc]; exact hK
theorem loadL_i {a : Addr} {v : Sl} {K : Sl → HProp} {h : H} (hc : h.cell? a = some (.slice v.a v.len v.cap)) (hK : K v h) : loadL a K h := by
  unfold loadL; rw [hc]; exact hK
theorem Arr.row {h : H} {v : Sl} {E : Enc α} {l : List α} (A : Arr h v E l) {w : Nat} (hw : w = E.w) {K : List Value → HProp} (hK : K (E.all l) h) : rowW v w K h := by
  subst hw
  unfold rowW
  refine ⟨E.all l, ?_, E.all_ones l, hK⟩
  rw [A.len]
  unfold H.row?
  by_cases hl : l = []
  · subst hl; simp [Enc.all]
  · have hpos : 0 < l.length := List.length_pos_iff.2 hl
    have := Nat.mul_pos hpos E.pos
    rw [if_neg (by omega)]
    cases ha : v.a with
    | none => exact absurd ha (A.ne hl)
    | some a =>
      obtain ⟨h1, c, wr, h2, h3, h4⟩ := A.blk a ha hl
      simp only [h2, h1, Option.isSome_none, Bool.false_eq_true, if_false, if_pos h3, h4]
theorem Arr.slice {h : H} {v : Sl} {E : Enc α} {l : List α} (A : Arr h v E l) {w : Nat} (hw : w = E.w) {lo hi : Int} {K : Sl → HProp} (h0 : 0 ≤ lo) (h1 : lo ≤ hi) (h2 : hi ≤ l.length)
    (hK : ∀ u, Arr h u E ((l.drop lo.toNat).take (hi.toNat - lo.toNat)) → (∀ b, u.on b → v.on b) → u.len = hi.toNat - lo.toNat → u.cap = v.cap - lo.toNat → K u h) : sliceW v w lo hi K h := by
  subst hw
  unfold sliceW
  have hlen := A.len
  have hle := A.le
  refine ⟨h0, h1, by omega, hK _ ⟨?_, ?_, ?_, ?_⟩ ?_ rfl rfl⟩
  · simp; omega
  · show hi.toNat - lo.toNat ≤ v.cap - lo.toNat; omega
  · show (if v.cap = lo.toNat then v.a else v.a.map (·.add (lo.toNat * E.w))) = none → v.cap - lo.toNat = 0
    intro e
    split at e
    · omega
    · cases ha : v.a with
      | none => have := A.nil ha; omega
      | some a => rw [ha] at e; cases e
  · intro a ha hl
    have hpos : lo.toNat < l.length ∧ lo.toNat < hi.toNat := by
      have : 0 < ((l.drop lo.toNat).take (hi.toNat - lo.toNat)).length := List.length_pos_iff.2 hl
      simp at this; omega
    have hcap : v.cap ≠ lo.toNat := by omega
    rw [if_neg hcap] at ha
    cases hb : v.a with
    | none => rw [hb] at ha; cases ha
    | some b =>
      rw [hb] at ha
      cases ha
      obtain ⟨k1, c, wr, k2, k3, k4⟩ := A.blk b hb (by intro e; subst e; simp at hpos)
      have hll : ((l.drop lo.toNat).take (hi.toNat - lo.toNat)).length = hi.toNat - lo.toNat := by simp; omega
      have hm : lo.toNat * E.w + (hi.toNat - lo.toNat) * E.w ≤ l.length * E.w := by
        rw [← Nat.add_mul]; exact Nat.mul_le_mul_right _ (by omega)
      simp only [add_eq k1]
      refine ⟨trivial, c, wr, k2, ?_, ?_⟩
      · rw [hll]; show b.off + lo.toNat * E.w + _ ≤ _; omega
      · rw [hll]
        show (c.drop (b.off + lo.toNat * E.w)).take _ = _
        rw [← List.drop_drop, ← E.all_take, ← E.all_drop, ← k4, List.drop_take, List.take_take]
        congr 1; omega
  · rintro b ⟨a, ha, rfl⟩
    split at ha
    · exact ⟨a, ha, rfl⟩
    · cases hb : v.a with
      | none => rw [hb] at ha; cases ha
      | some b =>
        rw [hb] at ha; cases ha
        refine ⟨b, hb, ?_⟩
        simp only [Addr.add]; split <;> rfl
theorem rep_all {E : Enc α} {x0 : α} {z : List Value} (hz : E.f x0 = z) : ∀ n, (List.replicate n z).flatten = E.all (List.replicate n x0)
  | 0 => by simp [Enc.all]
  | n + 1 => by
    have := rep_all (E := E) hz n
    simp only [List.replicate_succ, List.flatten_cons, Enc.all, List.flatMap_cons] at this ⊢
    rw [this, hz]
theorem make_i {E : Enc α} {x0 : α} {l c : Int} {z : List Value} {bytes : Nat} {K : Sl → HProp} {h : H} (hz : E.f x0 = z) (h0 : 0 ≤ l) (h1 : l ≤ c) (h2 : c * bytes ≤ 140737488355328) (h3 : c ≤ 140737488355328)
    (hK : ∀ v h', Vec h' v E (List.replicate l.toNat x0) → v.cap = c.toNat → New h v → Ext h h' → v.a ≠ none → K v h') : makeW l c z bytes K h := by
  unfold makeW
  refine ⟨h0, h1, h2, h3, fun b hb => hK _ _ ?_ rfl ?_ (Ext.set hb) (by simp)⟩
  · refine ⟨by simp, by simp; omega, (fun h => by cases h), fun a ha => ?_⟩
    cases ha
    refine ⟨rfl, _, set_same .., ?_, ?_⟩
    · rw [rep_all hz, E.all_len]; simp
    · rw [rep_all hz, List.drop_zero, List.length_replicate, E.all_take, List.take_replicate]
      congr 2; omega
  · intro b' hb'
    obtain ⟨a, ha, rfl⟩ := hb'
    cases ha; exact hb
theorem new_i {E : Enc α} {l : List α} {cs : List Value} {n : Nat} {K : Nat → HProp} {h : H} (hz : E.all l = cs) (hn : l.length = n)
    (hK : ∀ b h', Vec h' ⟨some ⟨b, 0, none⟩, n, n⟩ E l → New h ⟨some ⟨b, 0, none⟩, n, n⟩ → Ext h h' → K b h') : newW cs K h := by
  unfold newW
  intro b hb
  refine hK _ _ ⟨hn.symm, Nat.le_refl _, (fun h => by cases h), fun a ha => ?_⟩ ?_ (Ext.set hb)
  · cases ha
    refine ⟨rfl, _, set_same .., ?_, ?_⟩
    · rw [← hz, E.all_len, hn]; simp
    · rw [← hz, List.drop_zero, E.all_take, List.take_length]
  · intro b' hb'
    obtain ⟨a, ha, rfl⟩ := hb'
    cases ha; exact hb
theorem Vec.append {h : H} {v : Sl} {E : Enc α} {l : List α} (V : Vec h v E l) {m : List α} {z xs : List Value} {bytes n : Nat} {K : Sl → HProp} (hz : z.length = E.w) (hx : E.all m = xs) (hn : m.length = n)
    (hsz : (l.length + n) * bytes ≤ 140737488355328)
    (hK : ∀ u h', Vec h' u E (l ++ m) → Fr v.on h h' → (∀ b, u.on b → v.on b ∨ h b = none) → K u h') : appendW v z bytes n xs K h := by
  unfold appendW
  have hxl : xs.length = n * E.w := by rw [← hx, E.all_len, hn]
  split
  · rename_i hc
    have : m = [] := List.length_eq_zero_iff.1 (by omega)
    subst this
    exact hK v h (by simpa using V) (Fr.refl _ h) (fun b hb => .inl hb)
  · rename_i hc
    split
    · rename_i hroom
      cases ha : v.a with
      | none =>
        have := V.nil ha
        have := V.le
        omega
      | some a =>
        obtain ⟨h1, c, h2, h3, h4⟩ := V.blk a ha
        rw [hz, hxl]
        have hle : a.off + v.len * E.w + n * E.w ≤ c.length := by
          have : (v.len + n) * E.w ≤ v.cap * E.w := Nat.mul_le_mul_right _ hroom
          rw [Nat.add_mul] at this; omega
        refine ⟨a, c, rfl, h2, h1, hle, ?_⟩
        have hlen := V.len
        refine hK _ _ ⟨by simp [hlen, hn], by simpa using hroom, (fun e => by cases e), fun a' ha' => ?_⟩ ?_ ?_
        · cases ha'
          refine ⟨h1, _, set_same .., ?_, ?_⟩
          · simp only [List.length_append, List.length_take, List.length_drop]
            rw [Nat.min_eq_left (by omega)]
            simp only [hxl]; omega
          · have e1 : (c.take (a.off + v.len * E.w)).drop a.off = E.all l := by
              rw [List.drop_take, ← h4, hlen]; congr 1; omega
            rw [List.append_assoc, List.drop_append_of_le_length (by simp; omega), e1, List.length_append, E.all_append]
            rw [← List.append_assoc, List.take_append_of_le_length]
            · rw [List.take_of_length_le]
              · rw [hx]
              · rw [List.length_append, E.all_len, hxl, Nat.add_mul, hn]; omega
            · rw [List.length_append, E.all_len, hxl, Nat.add_mul, hn]; omega
        · exact Fr.set.mono fun k hk => ⟨a, ha, hk.symm⟩
        · intro b hb
          obtain ⟨a', ha', rfl⟩ := hb
          cases ha'
          exact .inl ⟨a, ha, rfl⟩
    · rename_i hroom
      have hlen := V.len
      refine ⟨E.all l, ?_, E.all_ones l, by rw [hlen]; exact hsz, ?_⟩
      · unfold H.row?
        rw [hz, hlen]
        by_cases hl : l = []
        · subst hl; simp [Enc.all]
        · have hpos : 0 < l.length := List.length_pos_iff.2 hl
          have := Nat.mul_pos hpos E.pos
          rw [if_neg (by omega)]
          cases ha : v.a with
          | none => exact absurd ha (V.arr.ne hl)
          | some a =>
            obtain ⟨h1, c, wr, h2, h3, h4⟩ := V.arr.blk a ha hl
            simp only [h2, h1, Option.isSome_none, Bool.false_eq_true, if_false, if_pos h3, h4]
      · intro cap' b hcap hb
        have hzl : ∀ k, (List.replicate k z).flatten.length = k * E.w := by
          intro k; simp [hz]
        refine hK _ _ ⟨by simp [hlen, hn], hcap, (fun e => by cases e), fun a' ha' => ?_⟩ ?_ ?_
        · cases ha'
          refine ⟨rfl, _, set_same .., ?_, ?_⟩
          · simp only [List.length_append, hzl, hxl, E.all_len]
            simp only [Nat.zero_add]
            rw [← hlen, ← Nat.add_mul, ← Nat.add_mul]
            exact Nat.mul_le_mul_right _ (by omega)
          · rw [List.drop_zero, List.length_append, E.all_append, hx]
            rw [List.take_append_of_le_length]
            · rw [List.take_of_length_le]
              rw [List.length_append, E.all_len, hxl, Nat.add_mul, hn]; omega
            · rw [List.length_append, E.all_len, hxl, Nat.add_mul, hn]; omega
        · exact Fr.mono (S := fun _ => False) (Ext.set hb) (fun _ h => h.elim)
        · intro b' hb'
          obtain ⟨a', ha', rfl⟩ := hb'
          cases ha'
          exact .inr hb
theorem Vec.append_new {h0 h : H} {v : Sl} {E : Enc α} {l : List α} (V : Vec h v E l) (g : Ext h0 h) (nw : New h0 v) {m : List α} {z xs : List Value} {bytes n : Nat} {K : Sl → HProp} (hz : z.length = E.w) (hx : E.all m = xs) (hn : m.length = n)
    (hsz : (l.length + n) * bytes ≤ 140737488355328)
    (hK : ∀ u h', Vec h' u E (l ++ m) → Ext h0 h' → New h0 u → Fr v.on h h' → (∀ b, u.on b → v.on b ∨ h b = none) → K u h') : appendW v z bytes n xs K h := by
  refine V.append hz hx hn hsz fun u h' V' f hu => hK u h' V' (g.of_new f nw) ?_ f hu
  intro b hb
  rcases hu b hb with h1 | h1
  · exact nw b h1
  · exact g.none h1
theorem Vec.stores {h : H} {v : Sl} {E : Enc α} {l : List α} (V : Vec h v E l) {i : Nat} {a : Addr} {x : α} {vs : List Value} {K : HProp} (hs : Slot v i E.w a) (hi : i < l.length) (hx : E.f x = vs)
    (hK : ∀ h', Vec h' v E (l.set i x) → Fr v.on h h' → K h') : storesW a vs K h := by
  obtain ⟨b, hb, rfl⟩ := hs
  obtain ⟨h1, c, h2, h3, h4⟩ := V.blk b hb
  have hvl : vs.length = E.w := by rw [← hx, E.len]
  have hcap : l.length ≤ v.cap := by rw [← V.len]; exact V.le
  have hle : i * E.w + E.w ≤ l.length * E.w := by
    have : (i + 1) * E.w ≤ l.length * E.w := Nat.mul_le_mul_right _ hi
    rw [Nat.succ_mul] at this; omega
  have hle2 : l.length * E.w ≤ v.cap * E.w := Nat.mul_le_mul_right _ hcap
  rw [add_eq h1]
  unfold storesW
  simp only [h2]
  refine ⟨trivial, by omega, hK _ ⟨by simp [V.len], V.le, V.nil, fun a ha => ?_⟩ (Fr.set.mono fun k hk => ⟨b, hb, hk.symm⟩)⟩
  rw [hb] at ha; cases ha
  refine ⟨h1, _, set_same .., ?_, ?_⟩
  · simp only [List.length_append, List.length_take, List.length_drop]; omega
  · rw [E.all_set l i x hi, List.length_set, ← h4, hx]
    rw [hvl]
    apply List.ext_getElem?
    intro j
    by_cases hj : j < l.length * E.w
    · rw [List.getElem?_take, if_pos hj, List.getElem?_drop]
      have m1 : min (b.off + i * E.w) c.length = b.off + i * E.w := by omega
      have m2 : min (i * E.w) (min (l.length * E.w) (c.length - b.off)) = i * E.w := by omega
      simp only [List.getElem?_append, List.length_append, List.length_take, List.length_drop, List.getElem?_take, List.getElem?_drop, hvl, m1, m2]
      by_cases hj1 : j < i * E.w
      · rw [if_pos (by omega), if_pos (by omega), if_pos (by omega), if_pos (by omega), if_pos (by omega), if_pos (by omega), if_pos (by omega)]
      · by_cases hj2 : j < i * E.w + E.w
        · rw [if_pos (by omega), if_neg (by omega), if_pos (by omega), if_neg (by omega)]
          congr 1; omega
        · rw [if_neg (by omega), if_neg (by omega), if_pos (by omega)]
          congr 1; omega
    · rw [List.getElem?_eq_none (by simp; omega), List.getElem?_eq_none (by simp; omega)]
theorem set_splice {c vs : List Value} {o j : Nat} {y : Value} (ho : o + vs.length ≤ c.length) (hj : j < vs.length) (hc : (c.drop o).take vs.length = vs) : c.take o ++ vs.set j y ++ c.drop (o + vs.length) = c.set (o + j) y := by
  apply List.ext_getElem?
  intro i
  have m1 : min o c.length = o := by omega
  have hg : ∀ i, i < vs.length → vs[i]? = c[o + i]? := by
    intro i hi
    conv => lhs; rw [← hc]
    rw [List.getElem?_take, if_pos hi, List.getElem?_drop]
  simp only [List.getElem?_append, List.length_append, List.length_take, List.length_drop, List.getElem?_take, List.getElem?_drop, List.length_set, m1, List.getElem?_set]
  by_cases h1 : i < o
  · rw [if_pos (by omega), if_pos h1, if_pos h1, if_neg (by omega)]
  · by_cases h2 : i < o + vs.length
    · rw [if_pos h2, if_neg h1]
      by_cases h3 : j = i - o
      · rw [if_pos h3, if_pos (by omega), if_pos (by omega), if_pos (by omega)]
      · rw [if_neg h3, if_neg (by omega), hg _ (by omega)]
        congr 1; omega
    · rw [if_neg h2, if_neg (by omega)]
      congr 1; omega
theorem Vec.store {h : H} {v : Sl} {E : Enc α} {l : List α} (V : Vec h v E l) {i j : Nat} {a : Addr} {x x' : α} {y : Value} {K : HProp} (hs : Slot v i E.w a) (hi : l[i]? = some x) (hj : j < E.w) (hx : E.f x' = (E.f x).set j y)
    (hK : ∀ h', Vec h' v E (l.set i x') → Fr v.on h h' → K h') : storeW (a.add j) y K h := by
  have hil := (List.getElem?_eq_some_iff.1 hi).1
  have := V.stores (K := K) hs hil (vs := E.f x') rfl hK
  obtain ⟨b, hb, rfl⟩ := hs
  obtain ⟨h1, c, h2, h3, h4⟩ := V.blk b hb
  have hcap : l.length ≤ v.cap := by rw [← V.len]; exact V.le
  have hle : i * E.w + E.w ≤ l.length * E.w := by
    have : (i + 1) * E.w ≤ l.length * E.w := Nat.mul_le_mul_right _ hil
    rw [Nat.succ_mul] at this; omega
  have hle2 : l.length * E.w ≤ v.cap * E.w := Nat.mul_le_mul_right _ hcap
  rw [addadd, add_eq h1]
  rw [add_eq h1] at this
  unfold storesW at this
  unfold storeW
  simp only [h2] at this ⊢
  obtain ⟨k1, k2, k3⟩ := this
  refine ⟨trivial, by omega, ?_⟩
  have e : (c.drop (b.off + i * E.w)).take (E.f x).length = E.f x := by
    have hg : ∀ j, j < (E.f x).length → c[b.off + i * E.w + j]? = (E.f x)[j]? := by
      intro j hj
      have hy : (E.f x)[j]? = some (E.f x)[j] := by simp [hj]
      have := E.all_get l i j x _ hi hy
      rw [← h4, List.getElem?_take, List.getElem?_drop] at this
      rw [E.len] at hj
      rw [if_pos (by omega)] at this
      rw [hy, ← this]; congr 1; omega
    apply List.ext_getElem?
    intro j
    rw [List.getElem?_take, List.getElem?_drop]
    split
    · rename_i hj; exact hg j hj
    · rename_i hj; rw [List.getElem?_eq_none (by omega)]
  have e2 := set_splice (c := c) (vs := E.f x) (o := b.off + i * E.w) (j := j) (y := y) (by rw [E.len]; omega) (by rw [E.len]; exact hj) e
  rw [hx, List.length_set, e2] at k3
  rw [show b.off + (i * E.w + j) = b.off + i * E.w + j by omega]
  exact k3
theorem eI_all (k : IntKind) (l : List Int) : (eI k).all l = l.map (Value.int k) := by
  induction l with
  | nil => rfl
  | cons b l ih => simp only [Enc.all, List.flatMap_cons, List.map_cons] at ih ⊢; rw [ih]; rfl
theorem Arr.text {h : H} {v : Sl} {l : List Int} (A : Arr h v (eI .u8) l) {K : ByteArray → HProp} (hK : K (textOf l) h) : textW v K h := by
  have := A.row (w := 1) (K := fun c h => (∃ ns : List Int, c = ns.map (Value.int .u8) ∧ K (textOf ns) h)) rfl ⟨l, eI_all .u8 l, hK⟩
  unfold rowW at this
  obtain ⟨c, h1, _, ns, rfl, h2⟩ := this
  unfold textW
  exact ⟨ns, by simpa using h1, h2⟩
theorem textOf_data (l : List Int) : (textOf l).data.toList = l.map fun n => UInt8.ofNat n.toNat := by unfold textOf; simp
theorem byte_i {i : Int} {z : ByteArray} {b : UInt8} {K : Int → HProp} {h : H} (h0 : 0 ≤ i) (hb : z.data.toList[i.toNat]? = some b) (hK : K (b.toNat : Int) h) : byteW i z K h := by
  unfold byteW
  have hlt : i.toNat < z.size := by
    have := (List.getElem?_eq_some_iff.1 hb).1
    rw [Array.length_toList] at this
    exact this
  refine ⟨hlt, h0, ?_⟩
  have : z[i.toNat]'hlt = b := by
    have h2 := (List.getElem?_eq_some_iff.1 hb).2
    rw [Array.getElem_toList] at h2
    exact h2
  rw [this]; exact hK
theorem cut_i {z : ByteArray} {lo hi : Int} {K : ByteArray → HProp} {h : H} (h0 : 0 ≤ lo) (h1 : lo ≤ hi) (h2 : hi ≤ z.size) (hK : K (z.extract lo.toNat hi.toNat) h) : cutW z lo hi K h := by
  unfold cutW; exact ⟨h0, h1, h2, hK⟩
theorem extract_data (z : ByteArray) (a b : Nat) : (z.extract a b).data.toList = (z.data.toList.take b).drop a := by
  rw [ByteArray.data_extract]
  simp [Array.toList_extract, List.extract, List.drop_take]
theorem loop_n {σ : Type} {s : σ} {body : σ → (σ → HProp) → HProp} {h : H} (I : Nat → σ → H → Prop) (n : Nat) (h0 : I n s h)
    (hb : ∀ n s h, I n s h → ∀ k : σ → HProp, (∀ m s' h', m < n → I m s' h' → k s' h') → body s k h) : loopW s body h := by
  classical
  unfold loopW
  have least : ∀ (p : Nat → Prop), (∃ n, p n) → ∃ n, p n ∧ ∀ m, p m → n ≤ m := by
    intro p ⟨n, hn⟩
    induction n using Nat.strongRecOn with
    | ind n ih =>
      by_cases hm : ∃ m, m < n ∧ p m
      · obtain ⟨m, h1, h2⟩ := hm; exact ih m h1 h2
      · exact ⟨n, hn, fun m hp => by
          by_cases h : n ≤ m
          · exact h
          · exact absurd ⟨m, by omega, hp⟩ hm⟩
  let μ : σ → H → Nat := fun s h => if hx : ∃ n, I n s h then Classical.choose (least _ hx) else 0
  have hμ : ∀ s h (hx : ∃ n, I n s h), I (μ s h) s h ∧ ∀ m, I m s h → μ s h ≤ m := by
    intro s h hx
    have := Classical.choose_spec (least _ hx)
    simp only [μ, dif_pos hx]
    exact this
  refine ⟨fun s h => ∃ n, I n s h, μ, ⟨n, h0⟩, fun s h hI => ?_⟩
  obtain ⟨h1, h2⟩ := hμ s h hI
  refine hb _ s h h1 _ fun m s' h' hm hI' => ⟨⟨m, hI'⟩, ?_⟩
  obtain ⟨_, h4⟩ := hμ s' h' ⟨m, hI'⟩
  exact Nat.lt_of_le_of_lt (h4 m hI') hm
def Obj (h : H) (b : Nat) (cs : List Value) : Prop := h b = some (.cells cs true)
abbrev at0 (b : Nat) : Addr := ⟨b, 0, none⟩
theorem at0_add (b j : Nat) : (at0 b).add j = ⟨b, j, none⟩ := by rw [add_eq rfl]; simp
theorem Obj.ld {h : H} {b j : Nat} {cs : List Value} {v : Value} (o : Obj h b cs) (hv : cs[j]? = some v) : h.cell? ((at0 b).add j) = some v := by
  rw [at0_add]
  unfold Obj at o
  simp [H.cell?, o, hv]
theorem Obj.st {h : H} {b j : Nat} {cs : List Value} {v : Value} {K : HProp} (o : Obj h b cs) (hj : j < cs.length) (hK : ∀ h', Obj h' b (cs.set j v) → Fr (fun k => k = b) h h' → K h') : storeW ((at0 b).add j) v K h := by
  rw [at0_add]
  unfold Obj at o
  unfold storeW
  simp only [o]
  exact ⟨trivial, hj, hK _ (set_same ..) Fr.set⟩
theorem Obj.new {cs : List Value} {K : Nat → HProp} {h : H} (hK : ∀ b h', Obj h' b cs → h b = none → Ext h h' → K b h') : newW cs K h := by
  unfold newW
  intro b hb
  exact hK b _ (set_same ..) hb (Ext.set hb)
theorem Obj.fr {S : Nat → Prop} {h h' : H} {b : Nat} {cs : List Value} (o : Obj h b cs) (f : Fr S h h') (hs : ¬ S b) : Obj h' b cs := f b _ o hs
theorem Obj.ext {h h' : H} {b : Nat} {cs : List Value} (o : Obj h b cs) (f : Ext h h') : Obj h' b cs := f b _ o (fun h => h)
theorem keeps_i {a : Addr} {vs : List Value} {K : HProp} {h : H} (hc : ∀ j u, vs[j]? = some u → h.cell? (a.add j) = some u) (hK : K h) : keepsW a vs K h := by unfold keepsW; exact ⟨hc, hK⟩
theorem keeps1 {a : Addr} {v : Value} {K : HProp} {h : H} (hc : h.cell? a = some v) (hK : K h) : keepsW a [v] K h := by
  refine keeps_i (fun j u hu => ?_) hK
  cases j with
  | zero => simp at hu; subst hu; rw [add0]; exact hc
  | succ j => simp at hu
theorem isNilP_some (a : Addr) : isNilP (some a) = false := by unfold isNilP; rfl
theorem toList_loop (z : ByteArray) : ∀ (n i : Nat) (r : List UInt8), z.size - i = n → ByteArray.toList.loop z i r = r.reverse ++ z.data.toList.drop i := by
  intro n
  induction n with
  | zero =>
    intro i r h
    rw [ByteArray.toList.loop]
    have : ¬ i < z.size := by omega
    rw [if_neg this, List.drop_eq_nil_of_le]
    · simp
    · rw [Array.length_toList]; show z.size ≤ i; omega
  | succ n ih =>
    intro i r h
    rw [ByteArray.toList.loop]
    have hi : i < z.size := by omega
    rw [if_pos hi, ih _ _ (by omega)]
    have h2 : i < z.data.toList.length := by rw [Array.length_toList]; exact hi
    rw [List.drop_eq_getElem_cons h2]
    have : z.get! i = z.data.toList[i] := by
      have h3 : i < z.data.size := hi
      have e : z.get! i = z.data[i]! := by cases z; rfl
      rw [e, getElem!_pos z.data i h3, Array.getElem_toList]
    simp [this]
theorem baToList (z : ByteArray) : z.toList = z.data.toList := by
  unfold ByteArray.toList
  rw [toList_loop z _ 0 [] rfl]; simp
theorem ba_ext {a b : ByteArray} (h : a.data.toList = b.data.toList) : a = b := by
  cases a; cases b
  congr 1
  exact Array.ext' h
theorem eqS_eq (a b : ByteArray) : eqS a b = decide (a = b) := by
  unfold eqS
  rw [baToList, baToList]
  rw [Bool.eq_iff_iff, beq_iff_eq, decide_eq_true_iff]
  exact ⟨ba_ext, fun h => by rw [h]⟩
theorem size_data (z : ByteArray) : z.data.toList.length = z.size := by rw [Array.length_toList]; rfl
theorem Obj.ld0 {h : H} {b : Nat} {cs : List Value} {v : Value} (o : Obj h b cs) (hv : cs[0]? = some v) : h.cell? (at0 b) = some v := by
  have := o.ld (j := 0) hv
  rw [add0] at this; exact this
theorem Obj.st0 {h : H} {b : Nat} {cs : List Value} {v : Value} {K : HProp} (o : Obj h b cs) (hj : 0 < cs.length) (hK : ∀ h', Obj h' b (cs.set 0 v) → Fr (fun k => k = b) h h' → K h') : storeW (at0 b) v K h := by
  have := o.st (j := 0) (v := v) hj hK
  rw [add0] at this; exact this
end
end Go.Cz
namespace Go.Cz.Crc
abbrev R := BitVec 32
def one : R := 0x80000000#32
def poly : R := 0xedb88320#32
def up (r : R) : R := (r >>> 1) ^^^ (if r.getLsbD 0 then poly else 0#32)
def ups : Nat → R → R
  | 0, r => r
  | n + 1, r => ups n (up r)
def inb (r : R) (b : UInt8) : R := ups 8 (r ^^^ BitVec.ofNat 32 b.toNat)
def goes : R → List UInt8 → R
  | r, [] => r
  | r, b :: l => goes (inb r b) l
end Go.Cz.Crc
namespace Go.Cz.S
open Go Go.Cz Go.Cz.Crc
set_option maxRecDepth 10000
def N (x : R) : Int := (x.toNat : Int)
theorem N_inj {a b : R} : N a = N b ↔ a = b := by
  unfold N
  constructor
  · intro h; apply BitVec.eq_of_toNat_eq; omega
  · rintro rfl; rfl
theorem N_bd (x : R) : 0 ≤ N x ∧ N x ≤ 4294967295 := by unfold N; have := x.isLt; omega
theorem wrapu {n : Int} (h0 : 0 ≤ n) (h1 : n ≤ 4294967295) : IntKind.u32.wrap n = n := by simp [IntKind.wrap, IntKind.bits, IntKind.signed]; omega
theorem ofN (x : R) : BitVec.ofInt 32 (N x) = x := by
  apply BitVec.eq_of_toNat_eq
  unfold N
  rw [BitVec.toNat_ofInt]
  have := x.isLt
  simp; omega
theorem xor_N (a b : R) : xorI .u32 (N a) (N b) = N (a ^^^ b) := by
  unfold xorI
  show IntKind.u32.wrap ((BitVec.ofInt 32 (N a) ^^^ BitVec.ofInt 32 (N b)).toNat : Int) = _
  rw [ofN, ofN]
  exact wrapu (N_bd _).1 (N_bd _).2
theorem and_N (a b : R) : andI .u32 (N a) (N b) = N (a &&& b) := by
  unfold andI
  show IntKind.u32.wrap ((BitVec.ofInt 32 (N a) &&& BitVec.ofInt 32 (N b)).toNat : Int) = _
  rw [ofN, ofN]
  exact wrapu (N_bd _).1 (N_bd _).2
theorem not_N (a : R) : notI .u32 (N a) = N (~~~a) := by
  unfold notI
  have : (if IntKind.u32.signed then (-1 : Int) else IntKind.u32.max) = N (BitVec.allOnes 32) := by decide
  rw [this, xor_N]
  rw [BitVec.allOnes_xor]
theorem shr_N (a : R) (n : Nat) (hn : n ≤ 32) : shr .u32 (N a) (n : Int) = N (a >>> n) := by
  unfold shr N
  rw [BitVec.toNat_ushiftRight, Nat.shiftRight_eq_div_pow]
  have : min ((n : Int)).toNat IntKind.u32.bits = n := by
    have : IntKind.u32.bits = 32 := rfl
    omega
  rw [this]
  simp
theorem and1 (a : R) : a &&& 1#32 = if a.getLsbD 0 then 1#32 else 0#32 := by
  apply BitVec.eq_of_getLsbD_eq
  intro i hi
  rw [BitVec.getLsbD_and, BitVec.getLsbD_one]
  by_cases h : i = 0
  · subst h; cases a.getLsbD 0 <;> simp
  · cases a.getLsbD 0 <;> simp [h]
theorem byte_N (b : UInt8) : (b.toNat : Int) = N (BitVec.ofNat 32 b.toNat) := by
  unfold N
  rw [BitVec.toNat_ofNat]
  have := b.toNat_lt
  omega
theorem eqN (a b : R) : eqI (N a) (N b) = decide (a = b) := by rw [eqI_eq, decide_eq_decide]; exact N_inj
end Go.Cz.S
namespace Go.Cz.S
open Go Go.Cz
theorem ofNat_toNat (b : UInt8) : UInt8.ofNat ((b.toNat : Int)).toNat = b := by simp
def bints (l : List UInt8) : List Int := l.map fun b => (b.toNat : Int)
theorem bints_text (l : List UInt8) : (textOf (bints l)).data.toList = l := by
  unfold bints
  rw [textOf_data, List.map_map]
  have : ((fun n : Int => UInt8.ofNat n.toNat) ∘ fun b : UInt8 => (b.toNat : Int)) = id := by funext b; exact ofNat_toNat b
  rw [this, List.map_id]
theorem bints_len (l : List UInt8) : (bints l).length = l.length := by simp [bints]
theorem bints_app (l m : List UInt8) : bints (l ++ m) = bints l ++ bints m := by simp [bints]
def mkB (l : List UInt8) : ByteArray := ⟨l.toArray⟩
theorem mkB_data (l : List UInt8) : (mkB l).data.toList = l := by simp [mkB]
theorem text_mkB (l : List UInt8) : textOf (bints l) = mkB l := ba_ext (by rw [bints_text, mkB_data])
theorem mkB_size (l : List UInt8) : (mkB l).size = l.length := by rw [← size_data, mkB_data]
theorem mkB_of (z : ByteArray) : mkB z.data.toList = z := ba_ext (by rw [mkB_data])
theorem app_data (a b : ByteArray) : (a ++ b).data.toList = a.data.toList ++ b.data.toList := by
  rw [ByteArray.data_append, Array.toList_append]
theorem app_size (a b : ByteArray) : (a ++ b).size = a.size + b.size := by rw [← size_data, app_data, List.length_append, size_data, size_data]
end Go.Cz.S
namespace Go.Cz.Bits
open Go.Cz
def val : List UInt8 → Nat
  | [] => 0
  | b :: l => b.toNat + 256 * val l
def bytes : Nat → Nat → List UInt8
  | 0, _ => []
  | n + 1, v => UInt8.ofNat v :: bytes n (v / 256)
theorem bytes_len : ∀ (n v : Nat), (bytes n v).length = n
  | 0, v => rfl
  | n + 1, v => by simp [bytes, bytes_len n]
theorem ofNat_mod (v : Nat) : (UInt8.ofNat v).toNat = v % 256 := by simp
theorem bytes_val : ∀ l : List UInt8, bytes l.length (val l) = l
  | [] => rfl
  | b :: l => by
    simp only [val, List.length_cons, bytes]
    have hb := b.toNat_lt
    rw [show (b.toNat + 256 * val l) / 256 = val l by omega, bytes_val l]
    congr 1
    apply UInt8.toNat_inj.1
    rw [ofNat_mod]; omega
theorem val_append : ∀ l m : List UInt8, val (l ++ m) = val l + 256 ^ l.length * val m
  | [], m => by simp [val]
  | b :: l, m => by
    simp only [List.cons_append, val, List.length_cons, Nat.pow_succ]
    rw [val_append l m, Nat.mul_add, Nat.mul_comm (256 ^ l.length) 256, Nat.mul_assoc]; omega
theorem pow256 (k : Nat) : 256 ^ k = 2 ^ (8 * k) := by rw [Nat.pow_mul]
def cat (w : Nat) : List Nat → Nat
  | [] => 0
  | n :: l => n + 2 ^ w * cat w l
theorem cat_app (w : Nat) : ∀ l m : List Nat, cat w (l ++ m) = cat w l + 2 ^ (l.length * w) * cat w m
  | [], m => by simp [cat]
  | n :: l, m => by
    simp only [List.cons_append, cat, List.length_cons]
    rw [cat_app w l m, Nat.mul_add, ← Nat.mul_assoc, ← Nat.pow_add, Nat.succ_mul, Nat.add_comm w]; omega
def blen (n : Nat) : Nat := if n = 0 then 0 else n.log2 + 1
theorem blen_le {n w : Nat} : blen n ≤ w ↔ n < 2 ^ w := by
  unfold blen
  by_cases h : n = 0
  · subst h; simp [Nat.pow_pos]
  · rw [if_neg h]
    rw [← Nat.log2_lt h]
    omega
theorem blen_shift {n k : Nat} (h : 2 ^ k ≤ n) : blen n = k + blen (n / 2 ^ k) := by
  apply Nat.le_antisymm
  · rw [blen_le, Nat.pow_add]
    have := blen_le.1 (Nat.le_refl (blen (n / 2 ^ k)))
    rw [Nat.mul_comm]
    exact (Nat.div_lt_iff_lt_mul (Nat.pow_pos (by decide))).1 this
  · have hk : k ≤ blen n := by
      by_cases h2 : k ≤ blen n
      · exact h2
      · have := blen_le.1 (show blen n ≤ k by omega)
        omega
    have : blen (n / 2 ^ k) ≤ blen n - k := by
      rw [blen_le]
      have h3 := blen_le.1 (Nat.le_refl (blen n))
      rw [Nat.div_lt_iff_lt_mul (Nat.pow_pos (by decide)), ← Nat.pow_add, show blen n - k + k = blen n by omega]
      exact h3
    omega
end Go.Cz.Bits
namespace Go.Cz.S
open Go Go.Cz Go.Cz.Bits
theorem wrap_u64 {n : Nat} (h : n < 18446744073709551616) : IntKind.u64.wrap (n : Int) = n := by simp [IntKind.wrap, IntKind.bits, IntKind.signed]; omega
theorem ofInt64 {n : Nat} (h : n < 18446744073709551616) : (BitVec.ofInt 64 (n : Int)).toNat = n := by
  rw [BitVec.toNat_ofInt]; simp; omega
theorem or64 {a c k : Nat} (ha : a < 2 ^ k) (h : a + c * 2 ^ k < 18446744073709551616) : orI .u64 (a : Int) ((c * 2 ^ k : Nat) : Int) = ((a + c * 2 ^ k : Nat) : Int) := by
  unfold orI
  show IntKind.u64.wrap ((BitVec.ofInt 64 (a : Int) ||| BitVec.ofInt 64 ((c * 2 ^ k : Nat) : Int)).toNat : Int) = _
  rw [BitVec.toNat_or, ofInt64 (by omega), ofInt64 (by omega)]
  have e : a ||| c * 2 ^ k = a + c * 2 ^ k := by
    have := Nat.two_pow_add_eq_or_of_lt ha c
    rw [Nat.or_comm, Nat.mul_comm c, ← this]; omega
  rw [e, wrap_u64 h]
theorem shl64 {a k : Nat} (hk : k ≤ 64) (h : a * 2 ^ k < 18446744073709551616) : shl .u64 (a : Int) (k : Int) = ((a * 2 ^ k : Nat) : Int) := by
  unfold shl
  have : min ((k : Int)).toNat IntKind.u64.bits = k := by
    have : IntKind.u64.bits = 64 := rfl
    omega
  rw [this, ← wrap_u64 h]
  congr 1
theorem shr64 {a k : Nat} (hk : k ≤ 64) : shr .u64 (a : Int) (k : Int) = ((a / 2 ^ k : Nat) : Int) := by
  unfold shr
  have : min ((k : Int)).toNat IntKind.u64.bits = k := by
    have : IntKind.u64.bits = 64 := rfl
    omega
  rw [this]; simp
theorem cnv_u64 {n : Int} (h0 : 0 ≤ n) (h1 : n < 18446744073709551616) : cnv .u64 n = n := by
  unfold cnv
  have := wrap_u64 (n := n.toNat) (by omega)
  rw [show ((n.toNat : Nat) : Int) = n by omega] at this; exact this
theorem cnv_u8 (n : Nat) : cnv .u8 (n : Int) = ((UInt8.ofNat n).toNat : Int) := by
  unfold cnv
  simp [IntKind.wrap, IntKind.bits, IntKind.signed]
theorem add_n {a b : Nat} (h : a + b ≤ 9223372036854775807) : add .i64 (a : Int) (b : Int) = ((a + b : Nat) : Int) := by rw [add_i64 (by omega) (by omega)]; simp
end Go.Cz.S
namespace Go.Cz.S
open Go Go.Cz Go.Cz.Crc
set_option linter.unusedVariables false
def more (c : R) (z : ByteArray) : R := ~~~ goes (~~~c) z.data.toList
def crc (z : ByteArray) : R := more 0#32 z
def byt (x : R) (n : Nat) : UInt8 := UInt8.ofNat (x >>> n).toNat
def crc4 (z : ByteArray) : List UInt8 := [byt (crc z) 0, byt (crc z) 8, byt (crc z) 16, byt (crc z) 24]
theorem crc4_len (z : ByteArray) : (crc4 z).length = 4 := rfl
def sealed (l : List UInt8) : List UInt8 := l ++ crc4 (mkB l)
def bodyP (d : List UInt8) : List UInt8 := UInt8.ofNat (d.length / 256) :: UInt8.ofNat d.length :: (d ++ List.replicate (122 - d.length) 0)
theorem bodyP_len {d : List UInt8} (h : d.length ≤ 122) : (bodyP d).length = 124 := by simp [bodyP]; omega
def pageL (d : List UInt8) : List UInt8 := sealed (bodyP d)
theorem pageL_len {d : List UInt8} (h : d.length ≤ 122) : (pageL d).length = 128 := by
  unfold pageL sealed; rw [List.length_append, bodyP_len h, crc4_len]
def pageB (d : ByteArray) : ByteArray := mkB (pageL d.data.toList)
def manyP (l : List UInt8) : Nat := (l.getD 0 0).toNat * 256 + (l.getD 1 0).toNat
def isPage (l : List UInt8) : Bool := decide (l.length = 128) && decide (crc4 (mkB (l.take 124)) = l.drop 124) && decide (manyP l ≤ 122) && ((l.drop (2 + manyP l)).take (122 - manyP l)).all (· == 0)
def dataP (l : List UInt8) : List UInt8 := (l.drop 2).take (manyP l)
def decP (p : ByteArray) : Option ByteArray := if isPage p.data.toList then some (mkB (dataP p.data.toList)) else none
theorem pageL_take {d : List UInt8} (h : d.length ≤ 122) : (pageL d).take 124 = bodyP d := by
  unfold pageL sealed
  rw [List.take_append_of_le_length (by rw [bodyP_len h]; exact Nat.le_refl _), List.take_of_length_le (by rw [bodyP_len h]; exact Nat.le_refl _)]
theorem pageL_drop {d : List UInt8} (h : d.length ≤ 122) : (pageL d).drop 124 = crc4 (mkB (bodyP d)) := by
  unfold pageL sealed
  rw [List.drop_append_of_le_length (by rw [bodyP_len h]; exact Nat.le_refl _), List.drop_of_length_le (by rw [bodyP_len h]; exact Nat.le_refl _), List.nil_append]
theorem manyP_page {d : List UInt8} (h : d.length ≤ 122) : manyP (pageL d) = d.length := by
  unfold manyP pageL sealed bodyP
  simp only [List.cons_append, List.getD_cons_zero, List.getD_cons_succ]
  have e1 : (UInt8.ofNat (d.length / 256)).toNat = 0 := by rw [show d.length / 256 = 0 by omega]; rfl
  have e2 : (UInt8.ofNat d.length).toNat = d.length := by rw [UInt8.toNat_ofNat']; omega
  rw [e1, e2]; omega
theorem dataP_page {d : List UInt8} (h : d.length ≤ 122) : dataP (pageL d) = d := by
  unfold dataP
  rw [manyP_page h]
  unfold pageL sealed bodyP
  simp [List.append_assoc]
theorem isPage_page {d : List UInt8} (h : d.length ≤ 122) : isPage (pageL d) = true := by
  unfold isPage
  rw [pageL_len h, pageL_take h, pageL_drop h, manyP_page h]
  simp only [decide_true, Bool.true_and, h]
  unfold pageL sealed bodyP
  have : ((UInt8.ofNat (d.length / 256) :: UInt8.ofNat d.length :: (d ++ List.replicate (122 - d.length) 0) ++ crc4 (mkB (UInt8.ofNat (d.length / 256) :: UInt8.ofNat d.length :: (d ++ List.replicate (122 - d.length) 0)))).drop (2 + d.length)).take (122 - d.length) = List.replicate (122 - d.length) 0 := by
    generalize crc4 _ = c4
    rw [Nat.add_comm]
    simp only [List.cons_append, List.append_assoc, List.drop_succ_cons, List.drop_left]
    rw [List.take_append_of_le_length (by simp), List.take_of_length_le (by simp)]
  rw [this]
  simp
theorem dec_page {d : ByteArray} (h : d.size ≤ 122) : decP (pageB d) = some d := by
  have h' : d.data.toList.length ≤ 122 := by rw [size_data]; exact h
  unfold decP pageB
  rw [mkB_data, isPage_page h', dataP_page h', mkB_of]; rfl
def chunks : Nat → List UInt8 → List (List UInt8)
  | 0, d => [d]
  | n + 1, d => if d.length ≤ 122 then [d] else d.take 122 :: chunks n (d.drop 122)
def chunksOf (d : List UInt8) : List (List UInt8) := chunks d.length d
def splitP (d : ByteArray) : List ByteArray := (chunksOf d.data.toList).map fun l => mkB (pageL l)
theorem chunks_le : ∀ (n : Nat) (d : List UInt8), d.length ≤ 122 + 122 * n → ∀ c ∈ chunks n d, c.length ≤ 122
  | 0, d, h, c, hc => by simp [chunks] at hc; subst hc; omega
  | n + 1, d, h, c, hc => by
    unfold chunks at hc
    split at hc
    · simp at hc; subst hc; omega
    · rcases List.mem_cons.1 hc with rfl | hc
      · simp; omega
      · exact chunks_le n _ (by simp; omega) c hc
theorem chunks_join : ∀ (n : Nat) (d : List UInt8), (chunks n d).flatten = d
  | 0, d => by simp [chunks]
  | n + 1, d => by
    unfold chunks
    split
    · simp
    · rw [List.flatten_cons, chunks_join n, List.take_append_drop]
theorem chunks_ne (n : Nat) (d : List UInt8) : chunks n d ≠ [] := by
  cases n <;> unfold chunks
  · simp
  · split <;> simp
theorem chunks_fuel : ∀ (n m : Nat) (d : List UInt8), d.length ≤ 122 + 122 * n → n ≤ m → chunks m d = chunks n d
  | 0, m, d, h, _ => by
    cases m with
    | zero => rfl
    | succ m => unfold chunks; rw [if_pos (by omega)]
  | n + 1, m, d, h, hm => by
    cases m with
    | zero => omega
    | succ m =>
      show (if d.length ≤ 122 then [d] else d.take 122 :: chunks m (d.drop 122)) = (if d.length ≤ 122 then [d] else d.take 122 :: chunks n (d.drop 122))
      split
      · rfl
      · rw [chunks_fuel n m _ (by simp; omega) (by omega)]
theorem chunksOf_small {d : List UInt8} (h : d.length ≤ 122) : chunksOf d = [d] := by
  unfold chunksOf
  cases hd : d.length with
  | zero => rfl
  | succ n => unfold chunks; rw [if_pos h]
theorem chunksOf_great {d : List UInt8} (h : 122 < d.length) : chunksOf d = d.take 122 :: chunksOf (d.drop 122) := by
  unfold chunksOf
  obtain ⟨n, hn⟩ : ∃ n, d.length = n + 1 := ⟨d.length - 1, by omega⟩
  rw [hn]
  show (if d.length ≤ 122 then [d] else d.take 122 :: chunks n (d.drop 122)) = _
  rw [if_neg (by omega)]
  congr 1
  exact chunks_fuel _ _ _ (by simp; omega) (by simp; omega)
def ltN (a b : ByteArray) : Bool := decide (a.data.toList < b.data.toList)
def okName (z : ByteArray) : Bool := decide (1 ≤ z.size) && decide (z.size ≤ 8) && z.data.toList.all fun b => decide (33 ≤ b.toNat) && decide (b.toNat ≤ 126)
structure FSt where
  room : Int
  left : Int
  L : List (ByteArray × List ByteArray)
def rowsL (L : List (ByteArray × List ByteArray)) (nm : ByteArray) : List ByteArray := match L.find? (fun x => decide (x.1 = nm)) with | some x => x.2 | none => []
def setL (nm : ByteArray) (ps : List ByteArray) (L : List (ByteArray × List ByteArray)) : List (ByteArray × List ByteArray) :=
  L.filter (fun x => ltN x.1 nm) ++ (if ps = [] then [] else [(nm, ps)]) ++ L.filter (fun x => ltN nm x.1)
def usedL (L : List (ByteArray × List ByteArray)) : Nat := (L.map fun x => x.2.length).sum
def FSt.rows (f : FSt) (nm : ByteArray) : List ByteArray := rowsL f.L nm
def FSt.set (f : FSt) (nm : ByteArray) (ps : List ByteArray) : FSt := { f with L := setL nm ps f.L }
def FSt.used (f : FSt) : Nat := usedL f.L
def FSt.write (f : FSt) (nm : ByteArray) (ps : List ByteArray) : FSt × Int :=
  if okName nm = false ∨ ps.any (fun p => decide (p.size ≠ 128)) then (f, 2)
  else if (f.used : Int) - (f.rows nm).length + ps.length > f.room then (f, 61)
  else (f.set nm ps, 0)
def FSt.read (f : FSt) (nm : ByteArray) (i : Int) : FSt × ByteArray × Int :=
  if i < 0 ∨ i ≥ (f.rows nm).length then (f, ⟨#[]⟩, 4)
  else if f.left = 0 then ({ f with left := -1 }, ⟨#[]⟩, 60)
  else ({ f with left := if f.left > 0 then f.left - 1 else f.left }, (f.rows nm).getD i.toNat ⟨#[]⟩, 0)
def FSt.remove (f : FSt) (nm : ByteArray) : FSt × Int := if (f.rows nm).length = 0 then (f, 4) else (f.set nm [], 0)
structure Frm where
  name : ByteArray
  i : Int
  data : ByteArray
  pins : Int
structure CSt where
  most : Int
  L : List Frm
def isAt (nm : ByteArray) (i : Int) (x : Frm) : Bool := decide (x.name = nm) && decide (x.i = i)
def CSt.get (c : CSt) (nm : ByteArray) (i : Int) : Option Frm := c.L.find? (isAt nm i)
def CSt.room (c : CSt) : Bool := decide ((c.L.length : Int) < c.most) || c.L.any fun x => decide (x.pins = 0)
def eraseFirst : List Frm → List Frm
  | [] => []
  | x :: r => if x.pins = 0 then r else x :: eraseFirst r
def CSt.add (c : CSt) (x : Frm) : CSt := { c with L := (if (c.L.length : Int) ≥ c.most then eraseFirst c.L else c.L) ++ [x] }
def CSt.use (c : CSt) (nm : ByteArray) (i : Int) (f : Frm → Frm) : CSt := match c.get nm i with
  | some x => { c with L := c.L.filter (fun y => !isAt nm i y) ++ [f x] }
  | none => c
def CSt.upd (c : CSt) (nm : ByteArray) (i : Int) (f : Frm → Frm) : CSt := { c with L := c.L.map fun x => if isAt nm i x then f x else x }
def getC (f : FSt) (c : CSt) (nm : ByteArray) (i : Int) (g : Frm → Frm) : FSt × CSt × ByteArray × Int := match c.get nm i with
  | some x => (f, c.use nm i g, x.data, 0)
  | none => if c.room = false then (f, c, ⟨#[]⟩, 70) else
    match f.read nm i with
    | (f', p, e) => if e ≠ 0 then (f', c, ⟨#[]⟩, e) else
      match decP p with
      | none => (f', c, ⟨#[]⟩, 50)
      | some d => (f', c.add (g ⟨nm, i, d, 0⟩), d, 0)
def pinC (f : FSt) (c : CSt) (nm : ByteArray) (i : Int) : FSt × CSt × ByteArray × Int := getC f c nm i fun x => { x with pins := x.pins + 1 }
def unpinC (c : CSt) (nm : ByteArray) (i : Int) : CSt × Int := match c.get nm i with
  | some x => if x.pins = 0 then (c, 4) else (c.upd nm i fun x => { x with pins := x.pins - 1 }, 0)
  | none => (c, 4)
def fileGo (nm : ByteArray) (many : Nat) : Nat → FSt → CSt → List UInt8 → Bool → FSt × CSt × ByteArray × Int
  | 0, f, c, d, w => (f, c, if w then (mkB d, 0) else (⟨#[]⟩, 50))
  | k + 1, f, c, d, w => match pinC f c nm ((many - (k + 1) : Nat) : Int) with
    | (f', c', z, e) => if e ≠ 0 then (f', c', ⟨#[]⟩, e) else
      fileGo nm many k f' (unpinC c' nm ((many - (k + 1) : Nat) : Int)).1 (d ++ z.data.toList) (w && (decide (k = 0) || decide (z.size = 122)) && (decide (many = k + 1) || decide (0 < z.size)))
def fileC (f : FSt) (c : CSt) (nm : ByteArray) : FSt × CSt × ByteArray × Int :=
  if (f.rows nm).length = 0 then (f, c, ⟨#[]⟩, 4) else fileGo nm (f.rows nm).length (f.rows nm).length f c [] true
end Go.Cz.S
namespace Go.Cz.S
open Go Go.Cz Go.Cz.Crc
set_option linter.unusedVariables false
set_option linter.unusedSimpArgs false
def putF : Nat → Nat → List UInt8
  | 0, u => [UInt8.ofNat u]
  | k + 1, u => if u < 128 then [UInt8.ofNat u] else UInt8.ofNat (u % 128 + 128) :: putF k (u / 128)
def putN (u : Nat) : List UInt8 := putF 10 u
theorem putF_len : ∀ (k u : Nat), (putF k u).length ≤ k + 1 ∧ 1 ≤ (putF k u).length
  | 0, u => by simp [putF]
  | k + 1, u => by
    unfold putF
    split
    · simp
    · have := putF_len k (u / 128); simp; omega
theorem putN_len (u : Nat) : (putN u).length ≤ 11 ∧ 1 ≤ (putN u).length := putF_len 10 u
def getF (i u : Nat) : List UInt8 → Option (Nat × Nat)
  | [] => none
  | c :: r => if 10 ≤ i then none else if i = 9 ∧ 1 < c.toNat then none else
    if c.toNat < 128 then (if 0 < c.toNat ∨ i = 0 then some (u + c.toNat * 2 ^ (7 * i), i + 1) else none)
    else getF (i + 1) (u + c.toNat % 128 * 2 ^ (7 * i)) r
def getN (l : List UInt8) : Option (Nat × Nat) := match getF 0 0 l with
  | some (u, n) => if u ≤ 9223372036854775807 then some (u, n) else none
  | none => none
theorem getF_put : ∀ (k i u v : Nat) (r : List UInt8), i + k = 10 → v < 2 ^ (64 - 7 * i) → (0 < v ∨ i = 0) → getF i u (putF k v ++ r) = some (u + v * 2 ^ (7 * i), i + (putF k v).length)
  | 0, i, u, v, r, h, hv, hz => by
    have : 64 - 7 * i = 0 := by omega
    rw [this] at hv
    omega
  | k + 1, i, u, v, r, h, hv, hz => by
    have hi : i ≤ 9 := by omega
    unfold putF
    split
    · rename_i hs
      have e1 : (UInt8.ofNat v).toNat = v := by rw [UInt8.toNat_ofNat']; omega
      have h9 : ¬ (i = 9 ∧ 1 < v) := by rintro ⟨rfl, h1⟩; simp at hv; omega
      simp only [List.cons_append, List.nil_append, getF, e1, List.length_singleton]
      rw [if_neg (by omega), if_neg h9, if_pos hs, if_pos hz]
    · rename_i hs
      have e1 : (UInt8.ofNat (v % 128 + 128)).toNat = v % 128 + 128 := by rw [UInt8.toNat_ofNat']; omega
      have h9 : i ≠ 9 := by rintro rfl; simp at hv; omega
      have hv2 : v / 128 < 2 ^ (64 - 7 * (i + 1)) := by
        rw [Nat.div_lt_iff_lt_mul (by decide)]
        have : 2 ^ (64 - 7 * (i + 1)) * 128 = 2 ^ (64 - 7 * i) := by
          rw [show (128 : Nat) = 2 ^ 7 from rfl, ← Nat.pow_add]
          congr 1
          omega
        rw [this]; exact hv
      have ih := getF_put k (i + 1) (u + v % 128 * 2 ^ (7 * i)) (v / 128) r (by omega) hv2 (.inl (by omega))
      simp only [List.cons_append, getF, e1, List.length_cons]
      rw [if_neg (by omega), if_neg (by omega), if_neg (by omega), show (v % 128 + 128) % 128 = v % 128 by omega, ih]
      have e2 : v % 128 * 2 ^ (7 * i) + v / 128 * 2 ^ (7 * (i + 1)) = v * 2 ^ (7 * i) := by
        have e3 : 2 ^ (7 * (i + 1)) = 128 * 2 ^ (7 * i) := by rw [Nat.mul_add, Nat.pow_add, Nat.mul_comm]
        rw [e3, ← Nat.mul_assoc, ← Nat.add_mul]
        congr 1
        omega
      rw [Nat.add_assoc, e2]
      congr 2
      omega
theorem getN_put {v : Nat} (hv : v ≤ 9223372036854775807) (r : List UInt8) : getN (putN v ++ r) = some (v, (putN v).length) := by
  unfold getN putN
  rw [getF_put 10 0 0 v r rfl (by omega) (.inr rfl)]
  simp [hv]
theorem getF_len : ∀ {l : List UInt8} {i u v n : Nat}, getF i u l = some (v, n) → i < n ∧ n ≤ i + l.length
  | [], i, u, v, n, h => by simp [getF] at h
  | c :: r, i, u, v, n, h => by
    unfold getF at h
    split at h
    · cases h
    split at h
    · cases h
    split at h
    · split at h
      · cases h; simp
      · cases h
    · have := getF_len h; simp; omega
theorem getN_len {l : List UInt8} {v n : Nat} (h : getN l = some (v, n)) : 0 < n ∧ n ≤ l.length ∧ v ≤ 9223372036854775807 := by
  unfold getN at h
  split at h
  · rename_i e
    split at h
    · cases h; have := getF_len e; omega
    · cases h
  · cases h
def rises (last : Int) : List Int → Bool
  | [] => true
  | x :: r => decide (last < x) && rises x r
def gapsL (next : Int) : List Int → List UInt8
  | [] => []
  | x :: r => putN (x - next).toNat ++ gapsL (x + 1) r
def listB (l : List Int) : List UInt8 := putN l.length ++ gapsL 0 l
def ungap : Nat → Int → List UInt8 → List Int → Nat → Option (List Int × Nat)
  | 0, _, _, out, n => some (out, n)
  | k + 1, last, l, out, n => match getN l with
    | none => none
    | some (g, m) => if last = 9223372036854775807 ∨ (g : Int) > 9223372036854775806 - last then none else ungap k (last + g + 1) (l.drop m) (out ++ [last + g + 1]) (n + m)
def unlist (l : List UInt8) : Option (List Int × Nat) := match getN l with
  | none => none
  | some (k, m) => if k > (l.drop m).length then none else ungap k (-1) (l.drop m) [] m
theorem rises_bd : ∀ {l : List Int} {last : Int}, rises last l = true → ∀ x ∈ l, last < x
  | [], _, _, x, hx => by simp at hx
  | y :: r, last, h, x, hx => by
    simp only [rises, Bool.and_eq_true, decide_eq_true_eq] at h
    rcases List.mem_cons.1 hx with rfl | hx
    · exact h.1
    · have := rises_bd h.2 x hx; omega
theorem ungap_gaps : ∀ (l : List Int) (last : Int) (out : List Int) (n : Nat) (r : List UInt8), -1 ≤ last → rises last l = true → (∀ x ∈ l, x ≤ 9223372036854775806) →
    ungap l.length last (gapsL (last + 1) l ++ r) out n = some (out ++ l, n + (gapsL (last + 1) l).length)
  | [], last, out, n, r, _, _, _ => by simp [ungap, gapsL]
  | x :: l, last, out, n, r, h0, hr, hb => by
    simp only [rises, Bool.and_eq_true, decide_eq_true_eq] at hr
    have hx := hb x (List.mem_cons_self ..)
    have e1 : ((x - (last + 1)).toNat : Int) = x - (last + 1) := Int.toNat_of_nonneg (by omega)
    simp only [List.length_cons, ungap, gapsL, List.append_assoc]
    rw [getN_put (by omega)]
    simp only []
    rw [if_neg (by omega), List.drop_left, show last + ((x - (last + 1)).toNat : Int) + 1 = x by omega]
    rw [ungap_gaps l x (out ++ [x]) _ r (by omega) hr.2 (fun y hy => hb y (List.mem_cons_of_mem _ hy))]
    simp [List.append_assoc, Nat.add_assoc]
theorem gapsL_len : ∀ (l : List Int) (next : Int), l.length ≤ (gapsL next l).length ∧ (gapsL next l).length ≤ 11 * l.length
  | [], _ => by simp [gapsL]
  | x :: r, next => by
    have := gapsL_len r (x + 1)
    have := putN_len (x - next).toNat
    simp [gapsL]; omega
theorem unlist_listB {l : List Int} (hr : rises (-1) l = true) (hb : ∀ x ∈ l, x ≤ 9223372036854775806) (hl : l.length ≤ 1000000) (r : List UInt8) : unlist (listB l ++ r) = some (l, (listB l).length) := by
  unfold unlist listB
  rw [List.append_assoc, getN_put (by omega)]
  simp only []
  rw [List.drop_left, if_neg (by have := (gapsL_len l 0).1; simp; omega)]
  have := ungap_gaps l (-1) [] (putN l.length).length r (by decide) hr hb
  rw [show (-1 : Int) + 1 = 0 from rfl] at this
  rw [this]
  simp
structure Shd where
  a : Int
  b : Int
  out : List (List Int)
deriving DecidableEq
def manyS (out : List (List Int)) : Nat := (out.map List.length).sum
def okList (v : Int) (l : List Int) : Bool := rises (-1) l && !l.contains v && (l.isEmpty || decide (l.getLastD 0 < 256))
def okLists (v : Int) : List (List Int) → Bool
  | [] => true
  | l :: r => okList v l && okLists (v + 1) r
def okPart (a b : Int) : Bool := decide (0 ≤ a) && decide (a < b) && decide (b ≤ 256)
def okShard (s : Shd) : Bool := okPart s.a s.b && decide ((s.out.length : Int) = s.b - s.a) && decide (manyS s.out ≤ 4096) && okLists s.a s.out
end Go.Cz.S
namespace Go.Cz
def gapsEncW (l : Sl) (K : ByteArray × Int → HProp) : HProp := fun h => ∃ xs : List Int, xs.length = l.len ∧ l.len ≤ l.cap ∧ (l.a = none → l.cap = 0) ∧ xs.length ≤ 1000000 ∧ (∀ x ∈ xs, -9223372036854775808 ≤ x ∧ x ≤ 9223372036854775806) ∧ h.row? l.a l.len = some (xs.map (Value.int .i64)) ∧
  K (if S.rises (-1) xs then (S.mkB (S.listB xs), 0) else (ByteArray.empty, 2)) h
end Go.Cz
