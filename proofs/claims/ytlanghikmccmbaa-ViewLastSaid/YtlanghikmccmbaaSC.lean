/- slices.symMergeCmpFunc at rows of a view: more on both sides; and whole. Printed by gen/sym.py. -/
import Derived.Test.YtlanghikmccmbaaSB
namespace Go.Proofs.Ytlanghikmccmbaa
open Go.RowKit Go.Lib Go.Sort
set_option linter.unusedVariables false
set_option linter.unusedSimpArgs false
end Go.Proofs.Ytlanghikmccmbaa
