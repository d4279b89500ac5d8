/- Part of the proof of a law of 28: an engine that runs a function over an abstract heap, and what the functions compute; own work. -/
import Derived.Test.YtpmojjeehmadpaaGreatP28C
set_option linter.unusedVariables false
set_option linter.unusedSimpArgs false
set_option linter.unusedSectionVars false
namespace Go.Cz.S
set_option maxRecDepth 100000
set_option maxHeartbeats 1000000
set_option linter.unusedSimpArgs false
set_option linter.unusedVariables false
theorem deeds {h : H} {v : Sl} (hr : Rd h (.sl [.i .u8, .i .i64, .i .u8, .i .u8, .i .u8, .i .u16, .i .i64, .i .i64, .i .i64, .i .i64, .b]) (.sl v)) : ∃ l, Arr h v eD l := by
  obtain ⟨l, A, _⟩ := hr.arr (E := eD) (fun _ => True) rfl fun r hr => by
    obtain ⟨v0, s0, rfl, h0, k0⟩ := RdL_more hr
    obtain ⟨v1, s1, rfl, h1, k1⟩ := RdL_more k0
    obtain ⟨v2, s2, rfl, h2, k2⟩ := RdL_more k1
    obtain ⟨v3, s3, rfl, h3, k3⟩ := RdL_more k2
    obtain ⟨v4, s4, rfl, h4, k4⟩ := RdL_more k3
    obtain ⟨v5, s5, rfl, h5, k5⟩ := RdL_more k4
    obtain ⟨v6, s6, rfl, h6, k6⟩ := RdL_more k5
    obtain ⟨v7, s7, rfl, h7, k7⟩ := RdL_more k6
    obtain ⟨v8, s8, rfl, h8, k8⟩ := RdL_more k7
    obtain ⟨v9, s9, rfl, h9, k9⟩ := RdL_more k8
    obtain ⟨va, rfl, ha⟩ := RdL_one k9
    obtain ⟨n0, rfl, _⟩ := ofA_int h0
    obtain ⟨n1, rfl, _⟩ := ofA_int h1
    obtain ⟨n2, rfl, _⟩ := ofA_int h2
    obtain ⟨n3, rfl, _⟩ := ofA_int h3
    obtain ⟨n4, rfl, _⟩ := ofA_int h4
    obtain ⟨n5, rfl, _⟩ := ofA_int h5
    obtain ⟨n6, rfl, _⟩ := ofA_int h6
    obtain ⟨n7, rfl, _⟩ := ofA_int h7
    obtain ⟨n8, rfl, _⟩ := ofA_int h8
    obtain ⟨n9, rfl, _⟩ := ofA_int h9
    obtain ⟨na, rfl⟩ := ofA_bool ha
    exact ⟨⟨n0, n1, n2, n3, n4, n5, n6, n7, n8, n9, na⟩, rfl, trivial⟩
  exact ⟨l, A⟩
theorem bytes2 {h : H} {v : Sl} (hr : Rd h (.sl [.i .u8, .i .u8]) (.sl v)) : ∃ l, Arr h v eU2 l ∧ ∀ x ∈ l, 0 ≤ x.1 ∧ x.1 ≤ 255 ∧ 0 ≤ x.2 ∧ x.2 ≤ 255 := by
  obtain ⟨l, A, hp, _⟩ := hr.arr (E := eU2) (fun x => 0 ≤ x.1 ∧ x.1 ≤ 255 ∧ 0 ≤ x.2 ∧ x.2 ≤ 255) rfl fun r hr => by
    obtain ⟨v0, s0, rfl, h0, k0⟩ := RdL_more hr
    obtain ⟨v1, rfl, h1⟩ := RdL_one k0
    obtain ⟨n0, rfl, w0⟩ := ofA_int h0
    obtain ⟨n1, rfl, w1⟩ := ofA_int h1
    have b0 := bounds_u8 w0
    have b1 := bounds_u8 w1
    exact ⟨(n0, n1), rfl, b0.1, b0.2, b1.1, b1.2⟩
  exact ⟨l, A, hp⟩
theorem law28_TablePlay_row (h : H) (t : Int × Sl × Int × Int × Int × Sl) (hr : RdL h [.i .u8, .sl [.i .u8, .i .u8], .i .u8, .i .u8, .i .u16, .sl [.i .u8, .i .i64, .i .u8, .i .u8, .i .u8, .i .u16, .i .i64, .i .i64, .i .i64, .i .i64, .b]] [.i .u8 t.1, .sl t.2.1, .i .u8 t.2.2.1, .i .u8 t.2.2.2.1, .i .u16 t.2.2.2.2.1, .sl t.2.2.2.2.2]) : law28_TablePlay t (fun r _ => r = true) h := by
  obtain ⟨r0, hr⟩ := RdL_cons.1 hr
  obtain ⟨r1, hr⟩ := RdL_cons.1 hr
  obtain ⟨r2, hr⟩ := RdL_cons.1 hr
  obtain ⟨r3, hr⟩ := RdL_cons.1 hr
  obtain ⟨r4, hr⟩ := RdL_cons.1 hr
  obtain ⟨r5, _⟩ := RdL_cons.1 hr
  obtain ⟨L, A, hb⟩ := bytes2 r1
  obtain ⟨D, B⟩ := deeds r5
  exact tablePlay_spec (pages := t.2.2.2.1) A B r0.u8.1 r0.u8.2 r2.u8.1 r2.u8.2 r4.u16.1 r4.u16.2 hb fun _ _ => rfl
end Go.Cz.S
