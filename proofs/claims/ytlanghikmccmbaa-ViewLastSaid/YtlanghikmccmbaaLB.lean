/- law 36, ViewLooks: strings.HasPrefix; the document's Scan. -/
import Derived.Test.YtlanghikmccmbaaLA
import Derived.Test.YtlanghikmccmbaaMF
import Derived.Lib.Strings
namespace Go.Proofs.Ytlanghikmccmbaa
open Go.ChangeShapes Go.WideShapes Go.ChangeAt Go.RowKit
set_option linter.unusedVariables false
set_option linter.unusedSimpArgs false
def hasP (p : List UInt8) (x : VRow) : Bool := Lib.hasPrefix x.key p
def scanR (p : List UInt8) (most : Int) (l : List VRow) : List VRow := (l.filter (hasP p)).take most.toNat
end Go.Proofs.Ytlanghikmccmbaa
/- law 36, ViewLooks: the program's Scan. -/
namespace Go.Proofs.Ytlanghikmccmbaa
open Go.ChangeShapes Go.WideShapes Go.ChangeAt Go.RowKit
set_option linter.unusedVariables false
set_option linter.unusedSimpArgs false
def scanP (p : List UInt8) (most : Int) (D : List VRow) : List VRow := (D.takeWhile (hasP p)).take most.toNat
structure ScanRet (w w' : World) (e : Ending) (p : List UInt8) (most : Int) (l : List VRow) : Prop where
  out : ∃ i b, Plc l p i b ∧ VRowsRet w w' e (scanP p most (l.drop i))
end Go.Proofs.Ytlanghikmccmbaa
