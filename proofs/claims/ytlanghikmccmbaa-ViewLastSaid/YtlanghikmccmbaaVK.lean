/- law 36: own, as, back, Light; whether two views are one, by the document. -/
import Derived.Test.YtlanghikmccmbaaVH
import Derived.Test.YtlanghikmccmbaaME
namespace Go.Proofs.Ytlanghikmccmbaa
open Go.ChangeShapes Go.WideShapes Go.ChangeAt Go.RowKit
set_option linter.unusedVariables false
set_option linter.unusedSimpArgs false
theorem vrow_eq (x y : VRow) : x = y ↔ x.key = y.key ∧ x.value = y.value ∧ x.offset = y.offset ∧ x.time = y.time := by
  cases x; cases y; simp
instance (x y : VRow) : Decidable (x = y) := decidable_of_iff _ (vrow_eq x y).symm
instance : DecidableEq VRow := fun x y => inferInstance
theorem vw_eq (x y : Vw) : x = y ↔ x.next = y.next ∧ x.rows = y.rows := by
  cases x; cases y; simp
instance (x y : Vw) : Decidable (x = y) := decidable_of_iff _ (vw_eq x y).symm
instance : DecidableEq Vw := fun x y => inferInstance
/-- Yes or no; yes says p. -/
structure VYes (w w' : World) (x : Ending) (p : Prop) : Prop where
  out : ∃ b, x = .returned (.bool b) ∧ More w w' ∧ (b = true → p)
/-- Rows, handed back. -/
structure VRowsRet (w w' : World) (x : Ending) (l : List VRow) : Prop where
  out : ∃ a cap, x = .returned (.slice a l.length cap) ∧ VRowsAt w' a l ∧ More w w' ∧ From w.heap.size a l
/-- A view, handed back. -/
structure VwOne (w w' : World) (x : Ending) (v : Vw) : Prop where
  out : ∃ a cap, x = .returned (.agg #[.int .i64 v.next, .slice a v.rows.length cap]) ∧ VRowsAt w' a v.rows ∧ More w w'
theorem vrows_shift {w : World} {x : Array Obj} {L L' : List (Array Obj)} {n n' B : Nat} {a : Option Addr} {l : List VRow} (hS : shape L' = shape L) (h : VRowsAt (wd w (x :: L) n) a l) (hf : From B a l) (hB : B = sz w.heap.size (shape L)) : VRowsAt (wd w (x :: L') n') a l := by
  refine ⟨fun hne => ?_⟩
  obtain ⟨b, off, rfl, hb, hc⟩ := h.out hne
  obtain ⟨b', off', he, hle⟩ := hf hne
  simp only [Option.some.injEq, Addr.mk.injEq] at he
  obtain ⟨rfl, rfl, _⟩ := he
  refine ⟨b, off, rfl, ?_, fun i hi => ?_⟩
  · rw [wd_size, shape_cons, hS]; rw [wd_size, shape_cons] at hb; exact hb
  · rw [← hc i hi]
    have h1 : (hp w.heap L').size ≤ b := by rw [hp_size, hS, ← hB]; exact hle
    have h2 : (hp w.heap L).size ≤ b := by rw [hp_size, ← hB]; exact hle
    have e : (wd w (x :: L') n').heap[b]? = (wd w (x :: L) n).heap[b]? := by
      show (hp w.heap L' ++ x)[b]? = (hp w.heap L ++ x)[b]?
      rw [Array.getElem?_append, Array.getElem?_append, if_neg (by omega), if_neg (by omega), hp_size, hp_size, hS]
    simp only [World.cell?, e]
end Go.Proofs.Ytlanghikmccmbaa
