/- view.Read. -/
import Derived.Test.YtlanghikmccmbaaVF
import Derived.Test.YtlanghikmccmbaaMF
namespace Go.Proofs.Ytlanghikmccmbaa
open Go.ChangeShapes Go.WideShapes Go.ChangeAt Go.RowKit
set_option linter.unusedVariables false
set_option linter.unusedSimpArgs false

/-- A view and an error, handed back. -/
structure VwRet (w w' : World) (x : Ending) (g : Vw × Int) : Prop where
  out : ∃ a cap, x = .returned (.tuple #[.agg #[.int .i64 g.1.next, .slice a g.1.rows.length cap], .int .i64 g.2]) ∧ VRowsAt w' a g.1.rows ∧ More w w' ∧ From w.heap.size a g.1.rows
/-- What is a row in the one piece is one in the other. -/
structure Keeps (x y : Array Obj) : Prop where
  out : ∀ {B : Nat} {S : List Nat} {E : TypeId} {size : Nat} {v : Value} {n : Nat} {xs : List Value}, rowIn B S x E size v n xs → rowIn B S y E size v n xs
/-- The four steps of a row. -/
structure RowF (l : List UInt8) (e : Int) (lA : List UInt8) (eA : Int) (lB : List UInt8) (eB : Int) (lC : List UInt8) (eC : Int) (lD : List UInt8) (eD : Int) (K V : List UInt8) (O T : Int) : Prop where
  A : ∀ (v : Value) (p : Nat) (W : World), Rdr W p v e → RB W v l → Calls Try.prog 50 #[.pointer (some ⟨p, 0, none⟩), .int .i64 64] W fun x w' => x = .returned (.string (str K)) ∧ Took W w' p v l lA eA
  B : ∀ (v : Value) (p : Nat) (W : World), Rdr W p v eA → RB W v lA → Calls Try.prog 50 #[.pointer (some ⟨p, 0, none⟩), .int .i64 512] W fun x w' => x = .returned (.string (str V)) ∧ Took W w' p v lA lB eB
  C : ∀ (v : Value) (p : Nat) (W : World), Rdr W p v eB → RB W v lB → Calls Try.prog 49 #[.pointer (some ⟨p, 0, none⟩)] W fun x w' => x = .returned (.int .i64 O) ∧ Took W w' p v lB lC eC
  D : ∀ (v : Value) (p : Nat) (W : World), Rdr W p v eC → RB W v lC → Calls Try.prog 49 #[.pointer (some ⟨p, 0, none⟩)] W fun x w' => x = .returned (.int .i64 T) ∧ Took W w' p v lC lD eD
theorem info_vrow : (Try.prog.info? 34).map (fun i => (i.zero, i.size, i.bytes)) = some (some (.agg #[.string ⟨#[]⟩, .string ⟨#[]⟩, .int .i64 0, .int .i64 0]), 4, 48) := by kernel_rfl
end Go.Proofs.Ytlanghikmccmbaa
