/- varnum: numbers as bytes: the plain functions, and the walks of zigzag, lay, Put. -/
import Derived.Test.YtifoekadjnlhcaaGreatDoorMA
import Derived.Lib.Zigzag
import Derived.Laws.BitsAllLaws
import Derived.Lib.Strings
namespace Go.Proofs.YtifoekadjnlhcaaGreatDoor
open Go.ChangeShapes Go.WideShapes Go.ChangeAt Go.RowKit
set_option linter.unusedVariables false
set_option linter.unusedSimpArgs false
def zig (n : Int) : Int := if 0 ≤ n then 2 * n else -2 * n - 1
def layN (u : Nat) : List UInt8 := if u < 128 then [UInt8.ofNat u] else UInt8.ofNat (u % 128 + 128) :: layN (u / 128)
termination_by u
decreasing_by omega
def put (n : Int) : List UInt8 := layN (zig n).toNat
theorem info_u8 : (Tryz.prog.info? 5).map (fun i => (i.zero, i.size, i.bytes)) = some (some (.int .u8 0), 1, 1) := by kernel_rfl
abbrev BMade (w w' : World) (v : Value) (l : List UInt8) : Prop := Made w w' 5 1 v l.length (Lib.byteCells l)
theorem snoc_byte (pre : List UInt8) (b : UInt8) (n : Int) (h : n = b.toNat) : Lib.byteCells pre ++ [Value.int .u8 n] = Lib.byteCells (pre ++ [b]) := by subst h; simp [Lib.byteCells]
def text (s : ByteArray) : List UInt8 := put s.size ++ s.data.toList
def zag (u : Int) : Int := if u % 2 = 0 then u / 2 else -(u / 2) - 1
def scan : List UInt8 → Nat
  | [] => 0
  | b :: r => if b.toNat < 128 then 0 else scan r + 1
def valN : List UInt8 → Nat
  | [] => 0
  | b :: r => b.toNat % 128 + 128 * valN r
def getN (l : List UInt8) : Int × Nat × Int :=
  if 10 ≤ scan l then (0, 0, 4)
  else if scan l = l.length then (0, 0, 3)
  else if layN (valN (l.take (scan l + 1)) % 18446744073709551616) = l.take (scan l + 1) then (zag (valN (l.take (scan l + 1)) % 18446744073709551616 : Nat), scan l + 1, 0)
  else (0, 0, 4)
abbrev getV (l : List UInt8) : Value := .tuple #[.int .i64 (getN l).1, .int .i64 (getN l).2.1, .int .i64 (getN l).2.2]
def numL (l : List UInt8) (e : Int) : List UInt8 := if e = 0 then l.drop (getN l).2.1 else l
def numE (l : List UInt8) (e : Int) : Int := if e = 0 then (getN l).2.2 else e
def numV (l : List UInt8) (e : Int) : Int := if e = 0 then (getN l).1 else 0
def fixL (l : List UInt8) (e : Int) : List UInt8 := if e = 0 then l.drop 1 else l
def fixE (l : List UInt8) (e : Int) : Int := if e = 0 then (match l with | [] => 3 | _ => 0) else e
def fixV (l : List UInt8) (e : Int) : Int := if e = 0 then (match l with | [] => 0 | b :: _ => b.toNat) else 0
def txt (l : List UInt8) (e most : Int) : List UInt8 × Int × List UInt8 :=
  if numE l e ≠ 0 then (numL l e, numE l e, [])
  else if numV l e < 0 ∨ most < numV l e then (numL l e, 5, [])
  else if ((numL l e).length : Int) < numV l e then (numL l e, 3, [])
  else ((numL l e).drop (numV l e).toNat, 0, (numL l e).take (numV l e).toNat)
end Go.Proofs.YtifoekadjnlhcaaGreatDoor
namespace Go.Proofs.YtifoekadjnlhcaaGreatDoor
open Go.RowKit
set_option linter.unusedVariables false
set_option linter.unusedSimpArgs false
theorem u8_toNat (u : Nat) (h : u < 256) : (UInt8.ofNat u).toNat = u := by simp; omega
def I64 (n : Int) : Prop := -9223372036854775808 ≤ n ∧ n ≤ 9223372036854775807
def textL (s : List UInt8) : List UInt8 := put s.length ++ s
structure Rec where
  delta : Int
  time : Int
  keyed : Bool
  key : List UInt8
  dead : Bool
  value : List UInt8
def Rec.zero : Rec := ⟨0, 0, false, [], false, []⟩
instance : Inhabited Rec := ⟨Rec.zero⟩
def recCells (r : Rec) : List Value := [.int .i64 r.delta, .int .i64 r.time, .bool r.keyed, .string (str r.key), .bool r.dead, .string (str r.value)]
theorem recCells_len (r : Rec) : (recCells r).length = 6 := rfl
def recCheck (r : Rec) : Int :=
  if r.delta < 0 ∨ 32 ≤ r.delta ∨ r.time < 0 ∨ 1099511627776 < r.time then 11
  else if 64 < r.key.length ∨ 512 < r.value.length then 5
  else if (r.keyed = false ∧ (r.key ≠ [] ∨ r.dead = true)) ∨ (r.dead = true ∧ r.value ≠ []) then 4
  else 0
def recFlag (r : Rec) : UInt8 := (if r.keyed then 1 else 0) + (if r.dead then 2 else 0)
def recBytes (r : Rec) : List UInt8 := recFlag r :: (put r.delta ++ (put r.time ++ ((if r.keyed then textL r.key else []) ++ (if r.dead then [] else textL r.value))))
def recPut (r : Rec) : List UInt8 × Int := if recCheck r = 0 then (recBytes r, 0) else ([], recCheck r)
def Rec.wf (r : Rec) : Prop := I64 r.delta ∧ I64 r.time
def recGet (l : List UInt8) (e : Int) : List UInt8 × Int × Rec × Int :=
  let f := fixV l e
  let l1 := fixL l e
  let e1 := fixE l e
  let l2 := numL l1 e1
  let e2 := numE l1 e1
  let l3 := numL l2 e2
  let e3 := numE l2 e2
  let p := if f % 2 = 1 then txt l3 e3 64 else (l3, e3, [])
  let q := if f / 2 % 2 = 0 then txt p.1 p.2.1 512 else (p.1, p.2.1, [])
  let r : Rec := ⟨numV l1 e1, numV l2 e2, decide (f % 2 = 1), p.2.2, decide (f / 2 % 2 = 1), q.2.2⟩
  if q.2.1 ≠ 0 then (q.1, q.2.1, Rec.zero, q.2.1)
  else if 3 < f ∨ recCheck r ≠ 0 then (q.1, q.2.1, Rec.zero, 4)
  else (q.1, q.2.1, r, 0)
end Go.Proofs.YtifoekadjnlhcaaGreatDoor
