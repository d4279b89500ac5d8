/- Part of the proof of a law of 28: an engine that runs a function over an abstract heap, and what the functions compute; own work. -/
import Derived.Test.YtpmojjeehmadpaaP28o
import Derived.Test.YtpmojjeehmadpaaP28q
import Derived.Test.YtpmojjeehmadpaaSpec2
set_option linter.unusedVariables false
set_option linter.unusedSimpArgs false
set_option linter.unusedSectionVars false
/- Chapter 28: the laws, of arguments as they are read. -/
namespace Go.Cz.S
open Go Go.Cz
theorem law28_TableNone_row (h : H) (t : Int × Int × Int × Int × Int) (hr : RdL h [.i .i64, .i .i64, .i .i64, .i .i64, .i .i64] [.i .i64 t.1, .i .i64 t.2.1, .i .i64 t.2.2.1, .i .i64 t.2.2.2.1, .i .i64 t.2.2.2.2]) : law28_TableNone t (fun r _ => r = true) h :=
  tableNone_spec (kind := t.1) (arg := t.2.1) (prio := t.2.2.1) (need := t.2.2.2.1) (n := t.2.2.2.2) fun _ _ => rfl
theorem law28_TableTurn_row (h : H) (t : Int × Int) (hr : RdL h [.i .u8, .i .u16] [.i .u8 t.1, .i .u16 t.2]) : law28_TableTurn t (fun r _ => r = true) h := by
  have h1 := (RdL_cons.1 hr).1.u8
  have h2 := (RdL_cons.1 (RdL_cons.1 hr).2).1.u16
  exact tableTurn_spec h1.1 h1.2 h2.1 h2.2 fun _ _ => rfl
theorem law28_TableNew_row (h : H) (t : Int × Sl × Int × Int) (hr : RdL h [.i .i64, .sl [.i .i64, .i .i64], .i .i64, .i .i64] [.i .i64 t.1, .sl t.2.1, .i .i64 t.2.2.1, .i .i64 t.2.2.2]) : law28_TableNew t (fun r _ => r = true) h := by
  obtain ⟨l, A, _, _⟩ := (RdL_cons.1 (RdL_cons.1 hr).2).1.pairs
  exact tableNew_spec A fun _ _ => rfl
end Go.Cz.S
