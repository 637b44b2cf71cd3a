/- law 36, ViewLooks: the program's Since. -/
import Derived.Test.YtlanghikmccmbaaLB
import Derived.Test.YtlanghikmccmbaaVT
import Derived.Test.YtlanghikmccmbaaVN
namespace Go.Proofs.Ytlanghikmccmbaa
open Go.ChangeShapes Go.WideShapes Go.ChangeAt Go.RowKit
set_option linter.unusedVariables false
set_option linter.unusedSimpArgs false
structure SsfW (w w' : World) (e : Ending) (L : List (Array Obj)) (v : Value) (l : List VRow) : Prop where
  out : ∃ (s : List VRow) (m : Ext), e = .returned (.tuple #[]) ∧ w' = wd w (m.e :: L) m.n ∧ s.length = l.length ∧ SortedF VRow.offset s ∧ SameF VRow.offset s l ∧ rowIn w.heap.size (shape L) m.e 34 4 v l.length (s.flatMap vrCells)
/-- Rows from an offset on, in the order of their offsets. -/
structure SncRet (w w' : World) (e : Ending) (l : List VRow) : Prop where
  out : ∃ s, VRowsRet w w' e s ∧ SortedF VRow.offset s ∧ SameF VRow.offset s l
end Go.Proofs.Ytlanghikmccmbaa
/- law 36, ViewLooks: own, with its room; the document's Since. -/
namespace Go.Proofs.Ytlanghikmccmbaa
open Go.ChangeShapes Go.WideShapes Go.ChangeAt Go.RowKit
set_option linter.unusedVariables false
set_option linter.unusedSimpArgs false
structure VwOneC (w w' : World) (x : Ending) (v : Vw) : Prop where
  out : ∃ a cap, x = .returned (.agg #[.int .i64 v.next, .slice a v.rows.length cap]) ∧ VRowsAt w' a v.rows ∧ More w w' ∧ v.rows.length ≤ cap ∧ cap ≤ maxLen
end Go.Proofs.Ytlanghikmccmbaa
/- law 36, ViewLooks: the document's Since. -/
namespace Go.Proofs.Ytlanghikmccmbaa
open Go.ChangeShapes Go.WideShapes Go.ChangeAt Go.RowKit
set_option linter.unusedVariables false
set_option linter.unusedSimpArgs false
theorem mid_cell' (w : World) (c : Array Value) (t : TypeId) (L : List (Array Obj)) (n i : Nat) (A : List (Array Obj)) : (wd w (A ++ #[.cells c t] :: L) n).cell? ⟨sz w.heap.size (shape L), i, none⟩ = c[i]? := by
  simp only [World.cell?, mid_at w (.cells c t) L n A]
  simp
theorem cell_lt' {W : World} {b i : Nat} {u : Value} (h : W.cell? ⟨b, i, none⟩ = some u) : b < W.heap.size := by
  rcases Nat.lt_or_ge b W.heap.size with h' | h'
  · exact h'
  · simp [World.cell?, Array.getElem?_eq_none h'] at h
theorem cell_more {w W : World} {b i : Nat} {u : Value} (h : More w W) (hc : w.cell? ⟨b, i, none⟩ = some u) : W.cell? ⟨b, i, none⟩ = some u := by
  rw [← hc]
  have := h.below.block b (cell_lt' hc)
  simp only [World.cell?, this]
/-- What the document's loop keeps. -/
structure SncI (W w : World) (a : Option Addr) (F : List VRow) (N c : Nat) (K : List VRow) : Prop where
  rows : VRowsAt W a F
  len : F.length = N
  from_ : From w.heap.size a F
  sorted : SortedF VRow.offset F
  same : SameF VRow.offset F K
  cap : N ≤ c ∧ c ≤ maxLen
end Go.Proofs.Ytlanghikmccmbaa
