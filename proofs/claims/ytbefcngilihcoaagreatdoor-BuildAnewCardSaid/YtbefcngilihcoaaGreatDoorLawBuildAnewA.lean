/- A closed fact on the row of BuildAnew. -/
import Derived.Test.YtbefcngilihcoaaGreatDoorRows
import Derived.JoinedOf
namespace Go.Proofs.YtbefcngilihcoaaGreatDoor.buildAnew
open Go
set_option maxRecDepth 100000
theorem named : Tryz.pinned.checked.prog.funcNamed Rows.buildAnewRow.func = some 3 := by kernel_rfl
theorem closed : joinedFacts Tryz.pinned.checked.prog 3 Tryz.f3 Rows.buildAnewSpec Rows.buildAnewRow = true := by kernel_rfl
end Go.Proofs.YtbefcngilihcoaaGreatDoor.buildAnew
