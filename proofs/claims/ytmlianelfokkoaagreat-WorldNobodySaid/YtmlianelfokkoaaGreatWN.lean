/- The row's own conditions, together. -/
import Derived.Test.YtmlianelfokkoaaGreatWK
import Derived.Test.YtmlianelfokkoaaGreatWL
import Derived.Test.YtmlianelfokkoaaGreatWM
namespace Go.Proofs.YtmlianelfokkoaaGreat
open Go.ChangeShapes Go.WideShapes Go.ChangeAt Go.RowKit
theorem band {a b : Bool} (h1 : a = true) (h2 : b = true) : (a && b) = true := by rw [h1, h2]; rfl
set_option maxRecDepth 100000 in
theorem over_closed : joinedFacts Tryz.pinned.checked.prog 3 Tryz.f3 Rows.worldNobodySpec Rows.worldNobodyRow = true := by
  unfold joinedFacts
  exact band (band (band (band (band (band (band (band (band (band (band (band (band (band (band (band (band (band (band (band (band (band (band (band (band (band (band (band (band (band (band (jn_0) jn_1) jn_2) jn_3) jn_4) jn_5) jn_6) jn_7) jn_8) jn_9) jn_10) jn_11) jn_12) jn_13) jn_14) jn_15) jn_16) jn_17) jn_18) jn_19) jn_20) jn_21) jn_22) jn_23) jn_24) jn_25) jn_26) jn_27) jn_28) jn_29) jn_30) jn_31
end Go.Proofs.YtmlianelfokkoaaGreat
