/- slices.Equal: at bytes, at records; whether two batches are one. -/
import Derived.Test.YtifoekadjnlhcaaGreatDoorMC
import Derived.Test.YtifoekadjnlhcaaGreatDoorMD
import Derived.Laws.StructEq
import Derived.ChangeKeysEq
namespace Go.Proofs.YtifoekadjnlhcaaGreatDoor
open Go.ChangeShapes Go.WideShapes Go.ChangeAt Go.RowKit
set_option linter.unusedVariables false
set_option linter.unusedSimpArgs false
theorem rec_eq (x y : Rec) : x = y ↔ x.delta = y.delta ∧ x.time = y.time ∧ x.keyed = y.keyed ∧ x.key = y.key ∧ x.dead = y.dead ∧ x.value = y.value := by
  cases x; cases y; simp
instance (x y : Rec) : Decidable (x = y) := decidable_of_iff _ (rec_eq x y).symm
instance : DecidableEq Rec := fun x y => inferInstance
theorem info_rec : (Tryz.prog.info? 85).map (fun i => (i.zero, i.size, i.bytes)) = some (some (.agg #[.int .i64 0, .int .i64 0, .bool false, .string ⟨#[]⟩, .bool false, .string ⟨#[]⟩]), 6, 64) := by kernel_rfl
abbrev bbox (base count producer epoch seq : Int) (a : Option Addr) (n cap : Nat) : Array Obj := #[.cells #[.int .i64 base, .int .i64 count, .int .i64 producer, .int .i64 epoch, .int .i64 seq, .slice a n cap] 25]
theorem index6_0 (a b c d e f : Value) (W : World) : (Instr.index 401 (.agg #[a, b, c, d, e, f]) (.int .i64 0)).run Tryz.prog W = .ok a W := by kernel_rfl
theorem index6_1 (a b c d e f : Value) (W : World) : (Instr.index 401 (.agg #[a, b, c, d, e, f]) (.int .i64 1)).run Tryz.prog W = .ok b W := by kernel_rfl
theorem index6_2 (a b c d e f : Value) (W : World) : (Instr.index 401 (.agg #[a, b, c, d, e, f]) (.int .i64 2)).run Tryz.prog W = .ok c W := by kernel_rfl
theorem index6_3 (a b c d e f : Value) (W : World) : (Instr.index 401 (.agg #[a, b, c, d, e, f]) (.int .i64 3)).run Tryz.prog W = .ok d W := by kernel_rfl
theorem index6_4 (a b c d e f : Value) (W : World) : (Instr.index 401 (.agg #[a, b, c, d, e, f]) (.int .i64 4)).run Tryz.prog W = .ok e W := by kernel_rfl
theorem index6_5 (a b c d e f : Value) (W : World) : (Instr.index 401 (.agg #[a, b, c, d, e, f]) (.int .i64 5)).run Tryz.prog W = .ok f W := by kernel_rfl
attribute [local go_sem] index6_0 index6_1 index6_2 index6_3 index6_4 index6_5
end Go.Proofs.YtifoekadjnlhcaaGreatDoor
namespace Go.Proofs.YtifoekadjnlhcaaGreatDoor
open Go.ChangeShapes Go.WideShapes Go.ChangeAt Go.RowKit
set_option linter.unusedVariables false
set_option linter.unusedSimpArgs false
theorem bat_eq (x y : Bat) : x = y ↔ x.base = y.base ∧ x.count = y.count ∧ x.producer = y.producer ∧ x.epoch = y.epoch ∧ x.seq = y.seq ∧ x.recs = y.recs := by
  cases x; cases y; simp
instance (x y : Bat) : Decidable (x = y) := decidable_of_iff _ (bat_eq x y).symm
instance : DecidableEq Bat := fun x y => inferInstance
end Go.Proofs.YtifoekadjnlhcaaGreatDoor
namespace Go.Proofs.YtifoekadjnlhcaaGreatDoor
open Go.RowKit
set_option linter.unusedVariables false
set_option linter.unusedSimpArgs false
def numSt : Nat → List UInt8 → Int → List UInt8 × Int
  | 0, l, e => (l, e)
  | k + 1, l, e => (numL (numSt k l e).1 (numSt k l e).2, numE (numSt k l e).1 (numSt k l e).2)
def numAt (k : Nat) (l : List UInt8) (e : Int) : Int := numV (numSt k l e).1 (numSt k l e).2
def recSt : Nat → List UInt8 → Int → List UInt8 × Int
  | 0, l, e => (l, e)
  | k + 1, l, e => ((recGet (recSt k l e).1 (recSt k l e).2).1, (recGet (recSt k l e).1 (recSt k l e).2).2.1)
def recAt (k : Nat) (l : List UInt8) (e : Int) : List UInt8 × Int × Rec × Int := recGet (recSt k l e).1 (recSt k l e).2
def recsOf (n : Nat) (l : List UInt8) (e : Int) : List Rec := (List.range n).map fun k => (recAt k l e).2.2.1
theorem chk_all : ∀ (l : List Rec) (last count : Int), chk last count l = 0 → ∀ r ∈ l, recCheck r = 0
  | [], _, _, _ => by simp
  | r :: rs, last, count, h => by
    rw [chk_cons] at h
    by_cases h1 : recCheck r = 0
    · rw [if_neg (by rw [h1]; simp)] at h
      split at h
      · simp at h
      · intro x hx
        rcases List.mem_cons.1 hx with rfl | hx
        · exact h1
        · exact chk_all rs _ _ h x hx
    · rw [if_pos h1] at h; exact absurd h h1
def batN (l : List UInt8) : Nat := (max 0 (min (numAt 5 l 0) 32)).toNat
def batDec (l : List UInt8) : Bat := ⟨numAt 0 l 0, numAt 1 l 0, numAt 2 l 0, numAt 3 l 0, numAt 4 l 0, recsOf (batN l) (numSt 6 l 0).1 (numSt 6 l 0).2⟩
def batGet (l : List UInt8) : Bat × Int := if batPut (batDec l) = (l, 0) then (batDec l, 0) else (Bat.zero, 4)
end Go.Proofs.YtifoekadjnlhcaaGreatDoor
