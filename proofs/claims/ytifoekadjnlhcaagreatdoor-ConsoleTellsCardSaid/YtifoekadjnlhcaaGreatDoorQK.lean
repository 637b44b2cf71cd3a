/- The row's own conditions, part 0. -/
import Derived.Test.YtifoekadjnlhcaaGreatDoorMA
namespace Go.Proofs.YtifoekadjnlhcaaGreatDoor
open Go.ChangeShapes Go.WideShapes Go.ChangeAt Go.RowKit
theorem jn_2 : mapsRowed Tryz.pinned.checked.prog = true := by kernel_rfl
theorem jn_1 : laidOutB Tryz.pinned.checked.prog = true := by kernel_rfl
end Go.Proofs.YtifoekadjnlhcaaGreatDoor
