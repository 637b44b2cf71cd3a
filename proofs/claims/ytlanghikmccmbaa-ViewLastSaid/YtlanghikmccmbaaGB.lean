/- law 36, ViewGoes: what the walk asks of the functions that the law calls. -/
import Derived.Test.YtlanghikmccmbaaGA
import Derived.Test.YtlanghikmccmbaaLD
import Derived.Test.YtlanghikmccmbaaVH
namespace Go.Proofs.Ytlanghikmccmbaa
open Go.ChangeShapes Go.WideShapes Go.ChangeAt Go.RowKit
set_option linter.unusedVariables false
set_option linter.unusedSimpArgs false
/-- A view handed back, and no error. -/
structure VwB (w w' : World) (x : Ending) (v : Vw) : Prop where
  out : ∃ a c, x = .returned (.tuple #[.agg #[.int .i64 v.next, .slice a v.rows.length c], .int .i64 0]) ∧ VRowsAt w' a v.rows ∧ More w w'
theorem vwb_of {w w' : World} {x : Ending} {g : Vw × Int} {v : Vw} (h : VwRet w w' x g) (hg : g = (v, 0)) : VwB w w' x v := by
  subst hg
  obtain ⟨a, c, h1, h2, h3, _⟩ := h.out
  exact ⟨a, c, h1, h2, h3⟩
structure VwBF (w w' : World) (x : Ending) (v : Vw) : Prop where
  out : ∃ a c, x = .returned (.tuple #[.agg #[.int .i64 v.next, .slice a v.rows.length c], .int .i64 0]) ∧ VRowsAt w' a v.rows ∧ More w w' ∧ From w.heap.size a v.rows
/-- The view of the first i batches. -/
def upV (l : List Btm) (i : Nat) : Vw := goVs Vw.zero ((l.take i).map Btm.b)
structure GoesOk (w : World) (ad : Option Addr) (cap : Nat) (l : List Btm) (k : Nat) (S : List VRow) : Prop where
  part : ∀ W a', BatsAt W a' (l.take k) → Calls Try.prog 28 #[.slice a' k cap] W fun e w' => VwB W w' e (upV l k)
  all : ∀ W, More w W → Calls Try.prog 28 #[.slice ad l.length cap] W fun e w' => VwB W w' e (upV l l.length)
  put : ∀ W a c, VRowsAt W a (upV l k).rows → Calls Try.prog 21 #[.agg #[.int .i64 (upV l k).next, .slice a (upV l k).rows.length c]] W fun e w' => BRet W w' e (viewLay (upV l k)) 0
  read : ∀ W v, RB W v (viewLay (upV l k)) → Calls Try.prog 23 #[v] W fun e w' => VwB W w' e (upV l k)
  same : ∀ W i a1 c1 a2 c2, i ≤ l.length → VRowsAt W a1 (upV l i).rows → VRowsAt W a2 (upV l i).rows → Calls Try.prog 19 #[.agg #[.int .i64 (upV l i).next, .slice a1 (upV l i).rows.length c1], .agg #[.int .i64 (upV l i).next, .slice a2 (upV l i).rows.length c2]] W fun e w' => e = .returned (.bool true) ∧ More W w'
  apply : ∀ (i : Nat) x, l[i]? = some x → ∀ W a c, More w W → VRowsAt W a (upV l i).rows → Calls Try.prog 29 #[.agg #[.int .i64 (upV l i).next, .slice a (upV l i).rows.length c], .agg #[.int .i64 x.b.base, .int .i64 x.b.count, .int .i64 x.b.producer, .int .i64 x.b.epoch, .int .i64 x.b.seq, .slice x.a x.b.recs.length x.cap]] W fun e w' => VwBF W w' e (upV l (i + 1))
  since : ∀ W a c, VRowsAt W a (upV l l.length).rows → Calls Try.prog 17 #[.agg #[.int .i64 (upV l l.length).next, .slice a (upV l l.length).rows.length c], .int .i64 (upV l k).next] W fun e w' => RowsIs W w' e S.length S
  get : ∀ x ∈ (upV l l.length).rows, x.offset < (upV l k).next → ∀ W a c, VRowsAt W a (upV l k).rows → Calls Try.prog 11 #[.agg #[.int .i64 (upV l k).next, .slice a (upV l k).rows.length c], .string (str x.key)] W fun e w' => e = .returned (.tuple #[rowA x, .bool true]) ∧ More W w'
  late : SortedF VRow.offset S ∧ (∀ x ∈ S, (upV l k).next ≤ x.offset) ∧ ((upV l l.length).rows.filter (fun x => decide (x.offset < (upV l k).next))).length + S.length = (upV l l.length).rows.length
  small : (upV l l.length).rows.length ≤ 4096 ∧ S.length ≤ 4096
theorem take_rises {l : List Btm} (h : risesB 0 (l.map Btm.b) = true) (i : Nat) : risesB 0 ((l.take i).map Btm.b) = true ∧ risesB (upV l i).next ((l.drop i).map Btm.b) = true := by
  have e : l.map Btm.b = (l.take i).map Btm.b ++ (l.drop i).map Btm.b := by rw [← List.map_append, List.take_append_drop]
  rw [e] at h
  exact rises_app _ _ Vw.zero h
theorem up_good {l : List Btm} (h : risesB 0 (l.map Btm.b) = true) (hl : l.length ≤ 12) (i : Nat) : buildG Vw.zero ((l.take i).map Btm.b) = (upV l i, 0) ∧ viewCheck (upV l i) = 0 ∧ (upV l i).rows.length ≤ 384 := by
  have hle : ((l.take i).map Btm.b).length ≤ 12 := by rw [List.length_map, List.length_take]; omega
  obtain ⟨h1, h2, h3⟩ := build_good ((l.take i).map Btm.b) Vw.zero zero_good (take_rises h i).1 (by show 0 + _ ≤ _; omega)
  exact ⟨h1, h2, by have : (upV l i).rows.length ≤ 0 + 32 * ((l.take i).map Btm.b).length := h3; omega⟩
theorem up_small {l : List Btm} (h : risesB 0 (l.map Btm.b) = true) (hl : l.length ≤ 12) (i : Nat) : ∀ x ∈ (upV l i).rows, x.key.length ≤ maxLen ∧ x.value.length ≤ maxLen := fun x hx => by
  have := rowE_ok (rowsE_each (viewCheck_ok (up_good h hl i).2.1).2.2.2.1 x hx)
  unfold maxLen
  exact ⟨by omega, by omega⟩
end Go.Proofs.Ytlanghikmccmbaa
