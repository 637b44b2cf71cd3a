/- The card's own facts, 2. -/
import Derived.Test.YtifoekadjnlhcaaGreatDoorMA
import Derived.Test.YtifoekadjnlhcaaGreatDoorCards
namespace Go.Proofs.YtifoekadjnlhcaaGreatDoor
open Go.ChangeShapes Go.WideShapes Go.ChangeAt Go.RowKit
theorem card_stand : ([34, 46, 5].all fun u => !Tryz.pinned.checked.prog.wantsStandIn u) = true := by kernel_rfl
theorem card_main : Tryz.pinned.checked.prog.mainIs = some (Rows.consoleNobodyCard.stood.harness.1, Rows.consoleNobodyCard.stood.harness.2.toList) := by kernel_rfl
end Go.Proofs.YtifoekadjnlhcaaGreatDoor
