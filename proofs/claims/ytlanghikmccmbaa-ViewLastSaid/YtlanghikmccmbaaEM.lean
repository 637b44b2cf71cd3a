/- The checksum of bytes: check.half and check.More, as numbers. -/
import Derived.Test.YtlanghikmccmbaaMA
import Derived.Lib.Zigzag
import Derived.Laws.BitsAllLaws
namespace Go.Proofs.Ytlanghikmccmbaa
open Go.ChangeShapes Go.WideShapes Go.ChangeAt Go.RowKit
set_option linter.unusedVariables false
set_option linter.unusedSimpArgs false

/-- A step of the register. -/
def hK (c : Nat) : Nat := Nat.xor (Nat.div c 2) (Nat.mul 14514072000185962306 (Nat.mod c 2))
def hN : Nat → Nat → Nat
  | 0, c => c
  | k + 1, c => hK (hN k c)
/-- The register behind a byte; behind bytes. -/
def crcS (c x : Nat) : Nat := hN 4 (hN 4 (Nat.xor c x))
def foldN (c : Nat) (l : List UInt8) : Nat := l.foldl (fun c x => crcS c x.toNat) c
def notN (x : Nat) : Nat := Nat.sub 18446744073709551615 x
def crcN (s : Nat) (l : List UInt8) : Nat := notN (foldN (notN s) l)
end Go.Proofs.Ytlanghikmccmbaa
