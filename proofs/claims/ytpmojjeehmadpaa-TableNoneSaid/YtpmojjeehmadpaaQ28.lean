/- Part of the proof of a law of 28: an engine that runs a function over an abstract heap, and what the functions compute; own work. -/
import Derived.Test.YtpmojjeehmadpaaP28m
import Derived.Test.YtpmojjeehmadpaaSpec2
set_option linter.unusedVariables false
set_option linter.unusedSimpArgs false
set_option linter.unusedSectionVars false
/- Chapter 28: the laws, of arguments as they are read. -/
namespace Go.Cz.S
open Go Go.Cz
theorem law28_TableNone_row (h : H) (t : Int × Int × Int × Int × Int) (hr : RdL h [.i .i64, .i .i64, .i .i64, .i .i64, .i .i64] [.i .i64 t.1, .i .i64 t.2.1, .i .i64 t.2.2.1, .i .i64 t.2.2.2.1, .i .i64 t.2.2.2.2]) : law28_TableNone t (fun r _ => r = true) h :=
  tableNone_spec (kind := t.1) (arg := t.2.1) (prio := t.2.2.1) (need := t.2.2.2.1) (n := t.2.2.2.2) fun _ _ => rfl
end Go.Cz.S
