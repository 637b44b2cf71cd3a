/- The row's own conditions, 1. -/
import Derived.Test.YtmbmibinnjfbdaaGreatMA
namespace Go.Proofs.YtmbmibinnjfbdaaGreat
open Go.ChangeShapes Go.WideShapes Go.ChangeAt Go.RowKit
theorem over_closed : joinedFacts Tryz.pinned.checked.prog 3 Tryz.f3 Rows.routeTurnsSpec Rows.routeTurnsRow = true := by kernel_rfl
end Go.Proofs.YtmbmibinnjfbdaaGreat
