/- record, the reference: Get. -/
import Derived.Test.YtlanghikmccmbaaMD
namespace Go.Proofs.Ytlanghikmccmbaa
open Go.ChangeShapes Go.WideShapes Go.ChangeAt Go.RowKit
set_option linter.unusedVariables false
set_option linter.unusedSimpArgs false

/-- A record off the reference's reader. -/
structure RRecGot (w w' : World) (x : Ending) (v : Value) (l : List UInt8) (g : List UInt8 × Int × Rec × Int) : Prop where
  out : ∃ v', x = .returned (.tuple #[.agg #[v', .int .i64 g.2.1], recV g.2.2.1, .int .i64 g.2.2.2]) ∧ (∀ W0, RB W0 v l → RB W0 v' g.1) ∧ More w w'
end Go.Proofs.Ytlanghikmccmbaa
