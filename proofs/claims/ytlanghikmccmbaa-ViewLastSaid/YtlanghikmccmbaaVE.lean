/- view, bilanderref36: Put. -/
import Derived.Test.YtlanghikmccmbaaVD
namespace Go.Proofs.Ytlanghikmccmbaa
open Go.ChangeShapes Go.WideShapes Go.ChangeAt Go.RowKit
set_option linter.unusedVariables false
set_option linter.unusedSimpArgs false

def rowB (x : VRow) : List UInt8 := text (str x.key) ++ text (str x.value) ++ put x.offset ++ put x.time
def rowsB (l : List VRow) : List UInt8 := l.flatMap rowB
def viewLay (v : Vw) : List UInt8 := put v.next ++ put v.rows.length ++ rowsB v.rows
def viewPut (v : Vw) : List UInt8 × Int := if viewCheck v ≠ 0 then ([], viewCheck v) else (viewLay v, 0)
structure RowFit (x : VRow) : Prop where
  k : x.key.length ≤ 64
  v : x.value.length ≤ 512
  o1 : -9223372036854775808 ≤ x.offset
  o2 : x.offset ≤ 9223372036854775807
  t1 : -9223372036854775808 ≤ x.time
  t2 : x.time ≤ 9223372036854775807
end Go.Proofs.Ytlanghikmccmbaa
