/- batch, the reference: lay, Check, Put. -/
import Derived.Test.YtlanghikmccmbaaME
import Derived.Test.YtlanghikmccmbaaMG
namespace Go.Proofs.Ytlanghikmccmbaa
open Go.ChangeShapes Go.WideShapes Go.ChangeAt Go.RowKit
set_option linter.unusedVariables false
set_option linter.unusedSimpArgs false

end Go.Proofs.Ytlanghikmccmbaa
