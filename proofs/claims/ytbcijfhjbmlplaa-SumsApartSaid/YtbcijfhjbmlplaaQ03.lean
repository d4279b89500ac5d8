/- Part of the proof of a law of 03: an engine that runs a function over an abstract heap, and what the functions compute; own work. -/
import Derived.Test.YtbcijfhjbmlplaaP03
import Derived.Test.YtbcijfhjbmlplaaSpec2
set_option linter.unusedVariables false
set_option linter.unusedSimpArgs false
set_option linter.unusedSectionVars false
/- Chapter 3: the laws, of arguments as they are read. -/
namespace Go.Cz.S
open Go Go.Cz
theorem law03_SumsGoes_row (h : H) (t : ByteArray × Int) (hr : RdL h [.s, .i .u32] [.s t.1, .i .u32 t.2]) : law03_SumsGoes t (fun r _ => r = true) h := by
  have h2 := (RdL_cons.1 (RdL_cons.1 hr).2).1.u32
  obtain ⟨z, c⟩ := t
  obtain ⟨c, rfl⟩ := N_of h2.1 h2.2
  exact SumsGoes_holds z c h
theorem law03_SumsApart_row (h : H) (t : Int × Int × Int) (hr : RdL h [.i .u32, .i .u32, .i .i64] [.i .u32 t.1, .i .u32 t.2.1, .i .i64 t.2.2]) : law03_SumsApart t (fun r _ => r = true) h := by
  have h1 := (RdL_cons.1 hr).1.u32
  have h2 := (RdL_cons.1 (RdL_cons.1 hr).2).1.u32
  obtain ⟨a, b, n⟩ := t
  obtain ⟨a, rfl⟩ := N_of h1.1 h1.2
  obtain ⟨b, rfl⟩ := N_of h2.1 h2.2
  exact SumsApart_holds a b n h
theorem law03_SumsSealed_row (h : H) (t : ByteArray × Int) (hr : RdL h [.s, .i .u32] [.s t.1, .i .u32 t.2]) : law03_SumsSealed t (fun r _ => r = true) h := by
  have h2 := (RdL_cons.1 (RdL_cons.1 hr).2).1.u32
  obtain ⟨z, c⟩ := t
  obtain ⟨c, rfl⟩ := N_of h2.1 h2.2
  exact SumsSealed_holds z c h
theorem law03_SumsThree_row (h : H) (t : ByteArray × ByteArray × ByteArray) (hr : RdL h [.s, .s, .s] [.s t.1, .s t.2.1, .s t.2.2]) : law03_SumsThree t (fun r _ => r = true) h := SumsThree_holds t.1 t.2.1 t.2.2 h
theorem law03_SumsNear_row (h : H) (t : ByteArray × Int × Int) (hr : RdL h [.s, .i .u16, .i .u32] [.s t.1, .i .u16 t.2.1, .i .u32 t.2.2]) : law03_SumsNear t (fun r _ => r = true) h := by
  have h1 := (RdL_cons.1 (RdL_cons.1 hr).2).1.u16
  have h2 := (RdL_cons.1 (RdL_cons.1 (RdL_cons.1 hr).2).2).1.u32
  obtain ⟨z, w, c⟩ := t
  obtain ⟨c, rfl⟩ := N_of h2.1 h2.2
  exact SumsNear_holds z w c h h1.1 h1.2
theorem law03_SumsPages_row (h : H) (t : Sl) (hr : RdL h [.sl [.s]] [.sl t]) : law03_SumsPages t (fun r _ => r = true) h := by
  obtain ⟨l, A, _, hc⟩ := (RdL_cons.1 hr).1.strs
  have e1 : maxLen ≤ 9223372036854775807 := by decide
  exact SumsPages_holds t l h A (by have := A.le; have := A.len; omega)
theorem law03_SumsZeros_row (h : H) (t : Int × Int × Int) (hr : RdL h [.i .u32, .i .u64, .i .u64] [.i .u32 t.1, .i .u64 t.2.1, .i .u64 t.2.2]) : law03_SumsZeros t (fun r _ => r = true) h := by
  have h1 := (RdL_cons.1 hr).1.u32
  have h2 := (RdL_cons.1 (RdL_cons.1 hr).2).1.u64
  have h3 := (RdL_cons.1 (RdL_cons.1 (RdL_cons.1 hr).2).2).1.u64
  obtain ⟨a, n, m⟩ := t
  obtain ⟨a, rfl⟩ := N_of h1.1 h1.2
  exact SumsZeros_holds a n m h h2.1 h3.1
end Go.Cz.S
