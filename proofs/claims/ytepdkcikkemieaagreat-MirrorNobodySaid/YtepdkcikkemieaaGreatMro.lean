/- The row's own conditions, 1. -/
import Derived.Test.YtepdkcikkemieaaGreatOpen
namespace Go.Proofs.YtepdkcikkemieaaGreat
open Go.ChangeShapes Go.WideShapes Go.ChangeAt Go.RowKit
theorem over_closed : joinedFacts Tryz.pinned.checked.prog 3 Tryz.f3 Rows.mirrorNobodySpec Rows.mirrorNobodyRow = true := by kernel_rfl
end Go.Proofs.YtepdkcikkemieaaGreat
