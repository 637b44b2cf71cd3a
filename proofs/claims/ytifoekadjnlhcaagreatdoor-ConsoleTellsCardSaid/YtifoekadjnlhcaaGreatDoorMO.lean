/- wire: whether two requests are one; the letters of a kind. -/
import Derived.Test.YtifoekadjnlhcaaGreatDoorMH
import Derived.Test.YtifoekadjnlhcaaGreatDoorME
import Derived.Laws.RangeString
import Derived.Deep.LoopGhost
namespace Go.Proofs.YtifoekadjnlhcaaGreatDoor
open Go.ChangeShapes Go.WideShapes Go.ChangeAt Go.RowKit
set_option linter.unusedVariables false
set_option linter.unusedSimpArgs false
theorem own_top (w : World) (L : List (Array Obj)) (n : Nat) (o : Obj) : (wd w (#[o] :: L) n).heap[sz w.heap.size (shape L)]? = some o := wd_at w L n _ _ _ rfl rfl
abbrev BOwn (W w : World) (L : List (Array Obj)) (v : Value) (l : List UInt8) : Prop := W.ownsRow (sz w.heap.size (shape L)) 5 1 v l.length (Lib.byteCells l)
def max3 (x y z : Int) : Int := if z > (if y > x then y else x) then z else (if y > x then y else x)
theorem run_max3 {P : Program} (ts : Array TypeId) (t : TypeId) (k k' k'' : IntKind) (x y z : Int) (w : World) : (Builtin.max_ ts t #[.int k x, .int k' y, .int k'' z]).run P w = .ok (.int k (max3 x y z)) w := run_max_int3 w ts t k k' k'' x y z
attribute [local go_sem 2000] run_max3
end Go.Proofs.YtifoekadjnlhcaaGreatDoor
namespace Go.Proofs.YtifoekadjnlhcaaGreatDoor
open Go.ChangeShapes Go.WideShapes Go.ChangeAt Go.RowKit
set_option linter.unusedVariables false
set_option linter.unusedSimpArgs false
@[go_sem] theorem rq_set17 (x : Req) (a0 a : Option Addr) (c0 cap : Nat) (l : List Rec) : (rq x a0 c0).setIfInBounds 17 (.slice a l.length cap) = rq { x with batch := { x.batch with recs := l } } a cap := by unfold rq reqCells; rfl
def reqOnly (q : Req) : Req :=
  ⟨q.kind, if 116 ∈ usesL q.kind then q.topic else [], if 105 ∈ usesL q.kind then q.index else 0, if 112 ∈ usesL q.kind then q.parts else 0, if 112 ∈ usesL q.kind then q.compact else false, if 102 ∈ usesL q.kind then q.flush else false,
    if 111 ∈ usesL q.kind then q.offset else 0, if 109 ∈ usesL q.kind then q.most else 0, if 119 ∈ usesL q.kind then q.time else 0, if 103 ∈ usesL q.kind then q.group else [], if 107 ∈ usesL q.kind then q.member else [], if 110 ∈ usesL q.kind then q.gen else 0,
    if 102 ∈ usesL q.kind then q.batch else Bat.zero⟩
end Go.Proofs.YtifoekadjnlhcaaGreatDoor
