/- record, the reference: Get. -/
import Derived.Test.YtlanghikmccmbaaGreatMD
namespace Go.Proofs.YtlanghikmccmbaaGreat
open Go.ChangeShapes Go.WideShapes Go.ChangeAt Go.RowKit
set_option linter.unusedVariables false
set_option linter.unusedSimpArgs false

/-- A record off the reference's reader. -/
structure RRecGot (w w' : World) (x : Ending) (v : Value) (l : List UInt8) (g : List UInt8 × Int × Rec × Int) : Prop where
  out : ∃ v', x = .returned (.tuple #[.agg #[v', .int .i64 g.2.1], recV g.2.2.1, .int .i64 g.2.2.2]) ∧ (∀ W0, RB W0 v l → RB W0 v' g.1) ∧ More w w'
theorem rrecgot {w : World} {x : Ending} {v v' : Value} {l l' : List UInt8} {e' e : Int} {g : List UInt8 × Int × Rec × Int} {r : Rec} (L : List (Array Obj)) (n : Nat) (hg : g = (l', e', r, e)) (hx : x = .returned (.tuple #[.agg #[v', .int .i64 e'], recV r, .int .i64 e]))
    (hk : ∀ W0, RB W0 v l → RB W0 v' l') : RRecGot w (wd w L n) x v l g := by
  subst hg hx
  exact ⟨v', rfl, hk, more_wd _ _ _⟩
end Go.Proofs.YtlanghikmccmbaaGreat
