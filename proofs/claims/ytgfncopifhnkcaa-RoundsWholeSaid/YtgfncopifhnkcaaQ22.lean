/- Part of the proof of a law of 22: an engine that runs a function over an abstract heap, and what the functions compute; own work. -/
import Derived.Test.YtgfncopifhnkcaaP22
import Derived.Test.YtgfncopifhnkcaaSpec2
set_option linter.unusedVariables false
set_option linter.unusedSimpArgs false
set_option linter.unusedSectionVars false
/- Chapter 22: the laws, of arguments as they are read. -/
namespace Go.Cz.S
open Go Go.Cz
theorem law22_RoundsPlay_row (h : H) (t : Int × Sl) (hr : RdL h [.i .i64, .sl [.i .i64]] [.i .i64 t.1, .sl t.2]) : law22_RoundsPlay t (fun r _ => r = true) h := by
  obtain ⟨l, A, _, _⟩ := (RdL_cons.1 (RdL_cons.1 hr).2).1.ints
  exact RoundsPlay_holds t.1 t.2 l h A
theorem law22_RoundsNone_row (h : H) (t : Int) (hr : RdL h [.i .i64] [.i .i64 t]) : law22_RoundsNone t (fun r _ => r = true) h := RoundsNone_holds t h
theorem law22_RoundsWhole_row (h : H) (t : Int × Sl) (hr : RdL h [.i .u8, .sl [.i .u8]] [.i .u8 t.1, .sl t.2]) : law22_RoundsWhole t (fun r _ => r = true) h := by
  have h1 := (RdL_cons.1 hr).1.u8
  obtain ⟨l, A, hz, _⟩ := (RdL_cons.1 (RdL_cons.1 hr).2).1.ints
  exact RoundsWhole_holds t.1 t.2 l h A (fun z hm => bounds_u8 (hz z hm)) h1.1 h1.2
theorem law22_RoundsRing_row (h : H) (t : Int × Int × Int) (hr : RdL h [.i .u8, .i .u8, .i .u8] [.i .u8 t.1, .i .u8 t.2.1, .i .u8 t.2.2]) : law22_RoundsRing t (fun r _ => r = true) h := by
  have h1 := (RdL_cons.1 hr).1.u8
  have h2 := (RdL_cons.1 (RdL_cons.1 hr).2).1.u8
  have h3 := (RdL_cons.1 (RdL_cons.1 (RdL_cons.1 hr).2).2).1.u8
  exact RoundsRing_holds t.1 t.2.1 t.2.2 h h1.1 h1.2 h2.1 h2.2 h3.1 h3.2
end Go.Cz.S
