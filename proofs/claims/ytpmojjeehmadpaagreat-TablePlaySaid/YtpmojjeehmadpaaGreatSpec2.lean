/- Part of the proof of a law of 28: an engine that runs a function over an abstract heap, and what the functions compute; own work. -/
import Derived.Test.YtpmojjeehmadpaaGreatEngR
import Derived.Test.YtpmojjeehmadpaaGreatSpec1
set_option linter.unusedVariables false
set_option linter.unusedSimpArgs false
set_option linter.unusedSectionVars false
/- What an argument's reading says: bounds of whole numbers, slices as lists. -/
namespace Go.Cz
open Go
theorem RdL_cons {h : H} {x : Lf} {r : List Lf} {v : SV} {us : List SV} : RdL h (x :: r) (v :: us) ↔ Rd h x v ∧ RdL h r us := by
  simp only [RdL]
  constructor
  · rintro ⟨_, _, e, h1, h2⟩; cases e; exact ⟨h1, h2⟩
  · rintro ⟨h1, h2⟩; exact ⟨_, _, rfl, h1, h2⟩
theorem Rd.int {h : H} {k : IntKind} {n : Int} (hr : Rd h (.i k) (.i k n)) : (Lit.int k n).wf = true := by
  simp only [Rd] at hr
  obtain ⟨m, e, hw⟩ := hr
  cases e; exact hw
theorem Rd.u8 {h : H} {n : Int} (hr : Rd h (.i .u8) (.i .u8 n)) : 0 ≤ n ∧ n ≤ 255 := bounds_u8 hr.int
theorem Rd.u16 {h : H} {n : Int} (hr : Rd h (.i .u16) (.i .u16 n)) : 0 ≤ n ∧ n ≤ 65535 := bounds_u16 hr.int
theorem Rd.u32 {h : H} {n : Int} (hr : Rd h (.i .u32) (.i .u32 n)) : 0 ≤ n ∧ n ≤ 4294967295 := bounds_u32 hr.int
theorem Rd.i64 {h : H} {n : Int} (hr : Rd h (.i .i64) (.i .i64 n)) : -9223372036854775808 ≤ n ∧ n ≤ 9223372036854775807 := bounds_i64 hr.int
theorem Rd.u64 {h : H} {n : Int} (hr : Rd h (.i .u64) (.i .u64 n)) : 0 ≤ n ∧ n ≤ 18446744073709551615 := bounds_u64 hr.int
theorem Rd.str {h : H} {z : ByteArray} (hr : Rd h .s (.s z)) : z.size ≤ maxLen := by
  simp only [Rd] at hr
  obtain ⟨m, e, hw⟩ := hr
  cases e; exact hw
theorem Rd.arr {α : Type} {h : H} {e : List Lf} {v : Sl} {E : Enc α} (P : α → Prop) (hr : Rd h (.sl e) (.sl v)) (hw : e.length = E.w)
    (dec : ∀ r, RdL h e (r.map SV.ofA) → ∃ x, E.f x = r ∧ P x) : ∃ l, Arr h v E l ∧ (∀ x ∈ l, P x) ∧ v.cap ≤ maxLen := by
  simp only [Rd] at hr
  obtain ⟨u, eq, h1, h2, h3, rows, h4, h5, h6⟩ := hr
  cases eq
  have ex : ∀ rows : List (List Value), (∀ r ∈ rows, RdL h e (r.map SV.ofA)) → ∃ l : List α, l.map E.f = rows ∧ ∀ x ∈ l, P x := by
    intro rows
    induction rows with
    | nil => intro _; exact ⟨[], rfl, by simp⟩
    | cons r rs ih =>
      intro hh
      obtain ⟨x, hx, hp⟩ := dec r (hh r (by simp))
      obtain ⟨l, hl, hq⟩ := ih (fun r hr => hh r (by simp [hr]))
      refine ⟨x :: l, by simp [hx, hl], ?_⟩
      intro y hy
      rcases List.mem_cons.1 hy with rfl | hy
      · exact hp
      · exact hq y hy
  obtain ⟨l, hl, hp⟩ := ex rows h6
  have hlen : l.length = v.len := by rw [← h4, ← hl]; simp
  refine ⟨l, ⟨hlen.symm, h1, h3, fun a ha hne => ?_⟩, hp, h2⟩
  rw [hw] at h5
  unfold H.row? at h5
  have hpos : 0 < l.length := List.length_pos_iff.2 hne
  have := Nat.mul_pos hpos E.pos
  rw [← hlen, if_neg (by omega), ha] at h5
  simp only at h5
  split at h5
  · rename_i c wr hb
    split at h5
    · cases h5
    · rename_i hs
      split at h5
      · rename_i hle
        refine ⟨by cases hq : a.spot <;> simp_all, c, wr, hb, hle, ?_⟩
        have := Option.some.inj h5
        rw [this, ← hl, Enc.all, List.flatMap]
      · cases h5
  · cases h5
/-- one leaf -/
theorem RdL_one {h : H} {x : Lf} {r : List Value} (hr : RdL h [x] (r.map SV.ofA)) : ∃ v, r = [v] ∧ Rd h x (SV.ofA v) := by
  cases r with
  | nil => simp [RdL] at hr
  | cons v r =>
    simp only [List.map_cons] at hr
    obtain ⟨h1, h2⟩ := RdL_cons.1 hr
    cases r with
    | nil => exact ⟨v, rfl, h1⟩
    | cons w r => simp [RdL] at h2
theorem RdL_more {h : H} {x : Lf} {l : List Lf} {r : List Value} (hr : RdL h (x :: l) (r.map SV.ofA)) : ∃ v s, r = v :: s ∧ Rd h x (SV.ofA v) ∧ RdL h l (s.map SV.ofA) := by
  cases r with
  | nil => simp [RdL] at hr
  | cons v r =>
    simp only [List.map_cons] at hr
    obtain ⟨h1, h2⟩ := RdL_cons.1 hr
    exact ⟨v, r, rfl, h1, h2⟩
theorem RdL_end {h : H} {r : List Value} (hr : RdL h [] (r.map SV.ofA)) : r = [] := by
  cases r with
  | nil => rfl
  | cons v r => simp [RdL] at hr
theorem ofA_int {h : H} {k : IntKind} {v : Value} (hr : Rd h (.i k) (SV.ofA v)) : ∃ n, v = .int k n ∧ (Lit.int k n).wf = true := by
  simp only [Rd] at hr
  obtain ⟨n, e, hw⟩ := hr
  refine ⟨n, ?_, hw⟩
  cases v <;> simp [SV.ofA] at e
  obtain ⟨rfl, rfl⟩ := e; rfl
theorem ofA_bool {h : H} {v : Value} (hr : Rd h .b (SV.ofA v)) : ∃ n, v = .bool n := by
  simp only [Rd] at hr
  obtain ⟨n, e⟩ := hr
  refine ⟨n, ?_⟩
  cases v <;> simp [SV.ofA] at e
  rw [e]
theorem ofA_str {h : H} {v : Value} (hr : Rd h .s (SV.ofA v)) : ∃ z, v = .string z ∧ z.size ≤ maxLen := by
  simp only [Rd] at hr
  obtain ⟨n, e, hw⟩ := hr
  refine ⟨n, ?_, hw⟩
  cases v <;> simp [SV.ofA] at e
  rw [e]
theorem ofA_sl {h : H} {e : List Lf} {v : Value} (hr : Rd h (.sl e) (SV.ofA v)) : ∃ s : Sl, v = .slice s.a s.len s.cap ∧ Rd h (.sl e) (.sl s) := by
  have hr2 := hr
  simp only [Rd] at hr
  obtain ⟨n, eq, _⟩ := hr
  refine ⟨n, ?_, by rw [eq] at hr2; exact hr2⟩
  cases v <;> simp [SV.ofA] at eq
  subst eq; rfl
theorem Rd.ints {h : H} {k : IntKind} {v : Sl} (hr : Rd h (.sl [.i k]) (.sl v)) : ∃ l, Arr h v (eI k) l ∧ (∀ x ∈ l, (Lit.int k x).wf = true) ∧ v.cap ≤ maxLen := by
  refine hr.arr (E := eI k) _ rfl fun r hr => ?_
  obtain ⟨v, rfl, h1⟩ := RdL_one hr
  obtain ⟨n, rfl, hw⟩ := ofA_int h1
  exact ⟨n, rfl, hw⟩
theorem Rd.pairs {h : H} {v : Sl} (hr : Rd h (.sl [.i .i64, .i .i64]) (.sl v)) : ∃ l, Arr h v eP l ∧ (∀ x ∈ l, (Lit.int .i64 x.1).wf = true ∧ (Lit.int .i64 x.2).wf = true) ∧ v.cap ≤ maxLen := by
  refine hr.arr (E := eP) (fun x => (Lit.int .i64 x.1).wf = true ∧ (Lit.int .i64 x.2).wf = true) rfl fun r hr => ?_
  obtain ⟨v, s, rfl, h1, h2⟩ := RdL_more hr
  obtain ⟨u, rfl, h3⟩ := RdL_one h2
  obtain ⟨n, rfl, hw⟩ := ofA_int h1
  obtain ⟨m, rfl, hw2⟩ := ofA_int h3
  exact ⟨(n, m), rfl, hw, hw2⟩
theorem Rd.strs {h : H} {v : Sl} (hr : Rd h (.sl [.s]) (.sl v)) : ∃ l, Arr h v eS l ∧ (∀ x ∈ l, x.size ≤ maxLen) ∧ v.cap ≤ maxLen := by
  refine hr.arr (E := eS) _ rfl fun r hr => ?_
  obtain ⟨v, rfl, h1⟩ := RdL_one hr
  obtain ⟨n, rfl, hw⟩ := ofA_str h1
  exact ⟨n, rfl, hw⟩
end Go.Cz
