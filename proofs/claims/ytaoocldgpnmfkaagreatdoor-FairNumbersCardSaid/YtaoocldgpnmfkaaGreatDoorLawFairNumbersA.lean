/- A closed fact on the row of FairNumbers. -/
import Derived.Test.YtaoocldgpnmfkaaGreatDoorRows
import Derived.JoinedOf
namespace Go.Proofs.YtaoocldgpnmfkaaGreatDoor.fairNumbers
open Go
set_option maxRecDepth 100000
theorem named : Tryz.pinned.checked.prog.funcNamed Rows.fairNumbersRow.func = some 3 := by kernel_rfl
theorem closed : joinedFacts Tryz.pinned.checked.prog 3 Tryz.f3 Rows.fairNumbersSpec Rows.fairNumbersRow = true := by kernel_rfl
end Go.Proofs.YtaoocldgpnmfkaaGreatDoor.fairNumbers
