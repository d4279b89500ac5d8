/- A closed fact on the row of BuildPins. -/
import Derived.Test.YtbefcngilihcoaaGreatDoorRows
import Derived.JoinedOf
namespace Go.Proofs.YtbefcngilihcoaaGreatDoor.buildPins
open Go
set_option maxRecDepth 100000
theorem named : Tryz.pinned.checked.prog.funcNamed Rows.buildPinsRow.func = some 5 := by kernel_rfl
theorem closed : joinedFacts Tryz.pinned.checked.prog 5 Tryz.f5 Rows.buildPinsSpec Rows.buildPinsRow = true := by kernel_rfl
end Go.Proofs.YtbefcngilihcoaaGreatDoor.buildPins
