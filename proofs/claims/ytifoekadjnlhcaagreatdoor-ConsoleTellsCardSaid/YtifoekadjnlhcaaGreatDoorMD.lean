/- record: Get. -/
import Derived.Test.YtifoekadjnlhcaaGreatDoorMC
namespace Go.Proofs.YtifoekadjnlhcaaGreatDoor
open Go.ChangeShapes Go.WideShapes Go.ChangeAt Go.RowKit
set_option linter.unusedVariables false
set_option linter.unusedSimpArgs false
def recEnd (f : Int) (q : List UInt8 × Int) (r : Rec) : List UInt8 × Int × Rec × Int :=
  if q.2 ≠ 0 then (q.1, q.2, Rec.zero, q.2) else if 3 < f ∨ recCheck r ≠ 0 then (q.1, q.2, Rec.zero, 4) else (q.1, q.2, r, 0)
structure RecGot (w w' : World) (x : Ending) (p : Nat) (v : Value) (l : List UInt8) (g : List UInt8 × Int × Rec × Int) : Prop where
  res : x = .returned (.tuple #[recV g.2.2.1, .int .i64 g.2.2.2])
  took : Took w w' p v l g.1 g.2.1
end Go.Proofs.YtifoekadjnlhcaaGreatDoor
