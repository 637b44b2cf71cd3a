/- bilanderref36: Put. -/
import Derived.Test.YtlanghikmccmbaaVE
import Derived.Test.YtlanghikmccmbaaMB
namespace Go.Proofs.Ytlanghikmccmbaa
open Go.ChangeShapes Go.WideShapes Go.ChangeAt Go.RowKit
set_option linter.unusedVariables false
set_option linter.unusedSimpArgs false

/-- The bytes l are the call's own, from the piece above L on. -/
abbrev KOwn (W w : World) (L : List (Array Obj)) (v : Value) (l : List UInt8) : Prop := W.ownsRow (sz w.heap.size (shape L)) 5 1 v l.length (Lib.byteCells l)
/-- A piece that kept its size. -/
theorem kept_size {k : Nat} (s : { Y : Array Obj // Y.size = k }) : s.1.size = k := s.2
attribute [go_sem] kept_size
end Go.Proofs.Ytlanghikmccmbaa
/- view, plain: what is laid is read. -/
namespace Go.Proofs.Ytlanghikmccmbaa
open Go.RowKit
set_option linter.unusedVariables false
set_option linter.unusedSimpArgs false

/-- One row off bytes: the row, what is left, the error. -/
def rdA (l : List UInt8) (e : Int) : List UInt8 × Int × List UInt8 := txt l e 64
def rdB (l : List UInt8) (e : Int) : List UInt8 × Int × List UInt8 := txt (rdA l e).1 (rdA l e).2.1 512
def rdC (l : List UInt8) (e : Int) : List UInt8 × Int := (numL (rdB l e).1 (rdB l e).2.1, numE (rdB l e).1 (rdB l e).2.1)
def rdD (l : List UInt8) (e : Int) : List UInt8 × Int := (numL (rdC l e).1 (rdC l e).2, numE (rdC l e).1 (rdC l e).2)
def rdRow (l : List UInt8) (e : Int) : VRow := ⟨(rdA l e).2.2, (rdB l e).2.2, numV (rdB l e).1 (rdB l e).2.1, numV (rdC l e).1 (rdC l e).2⟩
/-- What is left behind k rows; the first k. -/
def rdSt : Nat → List UInt8 → Int → List UInt8 × Int
  | 0, l, e => (l, e)
  | k + 1, l, e => rdD (rdSt k l e).1 (rdSt k l e).2
def rdRows (n : Nat) (l : List UInt8) (e : Int) : List VRow := (List.range n).map fun k => rdRow (rdSt k l e).1 (rdSt k l e).2
def RowOk (x : VRow) : Prop := x.key.length ≤ 64 ∧ x.value.length ≤ 512 ∧ I64 x.offset ∧ I64 x.time
/-- What stands ahead of the rows. -/
def vNext (l : List UInt8) : Int := numV l 0
def vCnt (l : List UInt8) : Int := numV (numL l 0) (numE l 0)
def vSt (l : List UInt8) : List UInt8 × Int := (numL (numL l 0) (numE l 0), numE (numL l 0) (numE l 0))
def vN (l : List UInt8) : Nat := (max 0 (min (vCnt l) 4097)).toNat
def viewDec (k : Nat) (l : List UInt8) : Vw := ⟨vNext l, rdRows k (vSt l).1 (vSt l).2⟩
/-- A view off bytes, and the error. -/
def viewGet (l : List UInt8) : Vw × Int := if viewPut (viewDec (vN l) l) = (l, 0) then (viewDec (vN l) l, 0) else (Vw.zero, 4)
end Go.Proofs.Ytlanghikmccmbaa
