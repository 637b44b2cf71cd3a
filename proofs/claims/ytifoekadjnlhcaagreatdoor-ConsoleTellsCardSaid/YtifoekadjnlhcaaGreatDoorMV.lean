/- script: whether two steps are one. -/
import Derived.Test.YtifoekadjnlhcaaGreatDoorMH
import Derived.Test.YtifoekadjnlhcaaGreatDoorMO
namespace Go.Proofs.YtifoekadjnlhcaaGreatDoor
open Go.ChangeShapes Go.WideShapes Go.ChangeAt Go.RowKit
set_option linter.unusedVariables false
set_option linter.unusedSimpArgs false
structure StpAt (w : World) (s : Stp) (a : Option Addr) (f : Option Addr) (fc : Nat) : Prop where
  r : RecsAt w a s.q.batch.recs
  f : RB w (.slice f s.fate.length fc) s.fate
theorem StpAt.more {w w' : World} {s : Stp} {a f : Option Addr} {fc : Nat} (h : StpAt w s a f fc) (hm : More w w') : StpAt w' s a f fc := ⟨h.r.more hm, h.f.more hm⟩
end Go.Proofs.YtifoekadjnlhcaaGreatDoor
