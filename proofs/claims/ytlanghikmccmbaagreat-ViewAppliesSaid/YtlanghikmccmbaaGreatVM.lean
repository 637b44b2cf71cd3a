/- ViewPuts: the walk. -/
import Derived.Test.YtlanghikmccmbaaGreatVL
import Derived.Test.YtlanghikmccmbaaGreatVJ
import Derived.Test.YtlanghikmccmbaaGreatVS
namespace Go.Proofs.YtlanghikmccmbaaGreat
open Go.ChangeShapes Go.WideShapes Go.ChangeAt Go.RowKit
set_option linter.unusedVariables false
set_option linter.unusedSimpArgs false
theorem bret_rb {w w' : World} {x : Ending} {l : List UInt8} {e : Int} (h : BRet w w' x l e) : ∃ v, x = .returned (.tuple #[v, .int .i64 e]) ∧ RB w' v l ∧ More w w' := by
  obtain ⟨v, hx, hm⟩ := h.out
  refine ⟨v, hx, ?_, hm.more⟩
  obtain ⟨m, rfl, hr⟩ := hm.out
  exact RB.of_row (L := []) (k := m.n) hr _ rfl
theorem viewGet_len (l : List UInt8) : (viewGet l).1.rows.length ≤ 4097 := by
  unfold viewGet
  split
  · show (rdRows _ _ _).length ≤ _
    rw [rdRows_len]; unfold vN; omega
  · exact Nat.zero_le _
/-- A view of these numbers. -/
structure VwIs (w w' : World) (x : Ending) (nx : Int) (N : Nat) (rows : List VRow) : Prop where
  out : ∃ a c, x = .returned (.agg #[.int .i64 nx, .slice a N c]) ∧ VRowsAt w' a rows ∧ More w w'
theorem vwis_of {w w' : World} {x : Ending} {v : Vw} {nx : Int} {N : Nat} (h1 : v.next = nx) (h2 : v.rows.length = N) (h : VwOne w w' x v) : VwIs w w' x nx N v.rows := by
  subst h1 h2
  exact ⟨h.out⟩
structure VwTo (w w' : World) (x : Ending) (nx : Int) (N : Nat) (rows : List VRow) (e : Int) : Prop where
  out : ∃ a c, x = .returned (.tuple #[.agg #[.int .i64 nx, .slice a N c], .int .i64 e]) ∧ VRowsAt w' a rows ∧ More w w'
theorem vwto_of {w w' : World} {x : Ending} {g : Vw × Int} {nx e : Int} {N : Nat} {rows : List VRow} (h1 : g.1.next = nx) (h2 : g.1.rows.length = N) (h3 : g.1.rows = rows) (h4 : g.2 = e) (h : VwRet w w' x g) : VwTo w w' x nx N rows e := by
  subst h1 h2 h3 h4
  obtain ⟨a, c, h5, h6, h7, _⟩ := h.out
  exact ⟨a, c, h5, h6, h7⟩
structure BTo (w w' : World) (x : Ending) (l : List UInt8) (e : Int) : Prop where
  out : ∃ v, x = .returned (.tuple #[v, .int .i64 e]) ∧ RB w' v l ∧ More w w'
end Go.Proofs.YtlanghikmccmbaaGreat
