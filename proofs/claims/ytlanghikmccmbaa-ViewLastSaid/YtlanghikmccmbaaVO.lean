/- law 36, the document's Apply: the walk. -/
import Derived.Test.YtlanghikmccmbaaVN
import Derived.Test.YtlanghikmccmbaaVD
import Derived.Test.YtlanghikmccmbaaVL
import Derived.Test.YtlanghikmccmbaaMH
import Derived.Test.YtlanghikmccmbaaME
namespace Go.Proofs.Ytlanghikmccmbaa
open Go.ChangeShapes Go.WideShapes Go.ChangeAt Go.RowKit
set_option linter.unusedVariables false
set_option linter.unusedSimpArgs false
/-- What a batch makes of a view, by the document. -/
def applyR (v : Vw) (b : Bat) : Vw × Int :=
  if viewCheck v ≠ 0 then (v, viewCheck v) else if batCheck b ≠ 0 then (v, batCheck b) else if b.base < v.next then (v, 16)
  else if 4096 < (foldR b.base v.rows b.recs).length then (v, 9) else (⟨b.base + b.count, foldR b.base v.rows b.recs⟩, 0)
structure ApRet (w w' : World) (x : Ending) (g : Vw × Int) : Prop where
  out : ∃ a cap, x = .returned (.tuple #[.agg #[.int .i64 g.1.next, .slice a g.1.rows.length cap], .int .i64 g.2]) ∧ VRowsAt w' a g.1.rows ∧ More w w' ∧ (g.2 = 0 → From w.heap.size a g.1.rows)
theorem batCheck_ok {b : Bat} (h : batCheck b = 0) : batNum b = 0 ∧ chk (-1) b.count b.recs = 0 := by
  unfold batCheck at h
  split at h
  · next h1 => exact absurd h h1
  · next h1 =>
    split at h
    · next h2 => exact absurd h h2
    · next h2 => exact ⟨by omega, by omega⟩
abbrev vblk (nx : Int) (a : Option Addr) (n cap : Nat) : Array Obj := #[.cells #[.int .i64 nx, .slice a n cap] 24]
abbrev bblk (b0 b1 b2 b3 b4 : Int) (a : Option Addr) (n cap : Nat) : Array Obj := #[.cells #[.int .i64 b0, .int .i64 b1, .int .i64 b2, .int .i64 b3, .int .i64 b4, .slice a n cap] 67]
end Go.Proofs.Ytlanghikmccmbaa
