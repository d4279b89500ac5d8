/- Part of the proof of a law of 09: an engine that runs a function over an abstract heap, and what the functions compute; own work. -/
import Derived.Test.YtfpphapmbdnpaaaP09
import Derived.Test.YtfpphapmbdnpaaaSpec2
set_option linter.unusedVariables false
set_option linter.unusedSimpArgs false
set_option linter.unusedSectionVars false
/- Chapter 9: the laws, of arguments as they are read. -/
namespace Go.Cz.S
open Go Go.Cz
theorem law09_PartsCut_row (h : H) (t : Int × Int) (hr : RdL h [.i .i64, .i .i64] [.i .i64 t.1, .i .i64 t.2]) : law09_PartsCut t (fun r _ => r = true) h := law09_PartsCut_holds t.1 t.2 h
theorem law09_PartsAsk_row (h : H) (t : Int × Sl × Int) (hr : RdL h [.i .i64, .sl [.i .i64, .i .i64], .i .i64] [.i .i64 t.1, .sl t.2.1, .i .i64 t.2.2]) : law09_PartsAsk t (fun r _ => r = true) h := by
  obtain ⟨l, A, _, _⟩ := (RdL_cons.1 (RdL_cons.1 hr).2).1.pairs
  exact law09_PartsAsk_holds t.1 t.2.2 t.2.1 l h A
theorem law09_PartsAlike_row (h : H) (t : Int × Int) (hr : RdL h [.i .u8, .i .u8] [.i .u8 t.1, .i .u8 t.2]) : law09_PartsAlike t (fun r _ => r = true) h := by
  have h1 := (RdL_cons.1 hr).1.u8
  have h2 := (RdL_cons.1 (RdL_cons.1 hr).2).1.u8
  exact law09_PartsAlike_holds t.1 t.2 h h1.1 h1.2 h2.1 h2.2
theorem law09_PartsOne_row (h : H) (t : Sl × Int) (hr : RdL h [.sl [.i .u8], .i .i64] [.sl t.1, .i .i64 t.2]) : law09_PartsOne t (fun r _ => r = true) h := by
  obtain ⟨l, A, hz, _⟩ := (RdL_cons.1 hr).1.ints
  exact law09_PartsOne_holds t.1 l t.2 h A (fun z hm => bounds_u8 (hz z hm))
theorem law09_PartsSpoilt_row (h : H) (t : Sl × Int × Int) (hr : RdL h [.sl [.i .u8], .i .u8, .i .u8] [.sl t.1, .i .u8 t.2.1, .i .u8 t.2.2]) : law09_PartsSpoilt t (fun r _ => r = true) h := by
  obtain ⟨l, A, hz, _⟩ := (RdL_cons.1 hr).1.ints
  have h1 := (RdL_cons.1 (RdL_cons.1 hr).2).1.u8
  have h2 := (RdL_cons.1 (RdL_cons.1 (RdL_cons.1 hr).2).2).1.u8
  exact law09_PartsSpoilt_holds t.1 l t.2.1 t.2.2 h A (fun z hm => bounds_u8 (hz z hm)) h1.1 h1.2 h2.1 h2.2
end Go.Cz.S
