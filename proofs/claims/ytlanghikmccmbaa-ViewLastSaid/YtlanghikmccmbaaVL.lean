/- law 36: own, back; whether two views are one, by the document. -/
import Derived.Test.YtlanghikmccmbaaVK
import Derived.Test.YtlanghikmccmbaaMF
namespace Go.Proofs.Ytlanghikmccmbaa
open Go.ChangeShapes Go.WideShapes Go.ChangeAt Go.RowKit
set_option linter.unusedVariables false
set_option linter.unusedSimpArgs false
end Go.Proofs.Ytlanghikmccmbaa
