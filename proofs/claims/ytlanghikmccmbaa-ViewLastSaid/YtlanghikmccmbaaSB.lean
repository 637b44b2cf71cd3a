/- slices.symMergeCmpFunc at rows of a view. Printed by gen/sym.py. -/
import Derived.Test.YtlanghikmccmbaaSA
namespace Go.Proofs.Ytlanghikmccmbaa
open Go.RowKit Go.Lib Go.Sort
set_option linter.unusedVariables false
set_option linter.unusedSimpArgs false
/-- What is asked of the comparison: it tells by one number. -/
structure CmpBy (P : Program) (g : Nat) (cb : Array Value) (enc : VRow → List Value) (k : Nat) (cf : VRow → VRow → Int) (blk off size : Nat) (w0 : World) : Prop where
  enter : ∀ args w, (callFunc g args).run P w = .ok (.enter g args) w
  lays : CmpLays P g cb enc k cf blk off size w0
  by' : ∀ x y, cf x y < 0 ↔ x.offset < y.offset
/-- The stretch from a to b holds M. -/
structure SymRet (w0 w' : World) (e : Ending) (enc : VRow → List Value) (k blk off : Nat) (P1 U V S : List VRow) (size : Nat) : Prop where
  out : e = .returned (.tuple #[]) ∧ ∃ (d' : Array VRow) (M : List VRow), d'.size = size ∧ d'.toList = P1 ++ (M ++ S) ∧ Merged VRow.offset U V M ∧ SWK enc k w0 blk off d' w'
abbrev symArgs (blk off size cap a m b g : Nat) (cb : Array Value) : Array Value := #[.slice (some ⟨blk, off, none⟩) size cap, .int .i64 a, .int .i64 m, .int .i64 b, .func (.func g) #[] cb]
end Go.Proofs.Ytlanghikmccmbaa
/- slices.symMergeCmpFunc at rows of a view: one element on the right. Printed by gen/sym.py. -/
namespace Go.Proofs.Ytlanghikmccmbaa
open Go.RowKit Go.Lib Go.Sort
set_option linter.unusedVariables false
set_option linter.unusedSimpArgs false
end Go.Proofs.Ytlanghikmccmbaa
