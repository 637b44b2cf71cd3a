/- The checksum of bytes: check.half and check.More, as numbers. -/
import Derived.Test.YtlanghikmccmbaaMA
import Derived.Lib.Zigzag
import Derived.Laws.BitsAllLaws
namespace Go.Proofs.Ytlanghikmccmbaa
open Go.ChangeShapes Go.WideShapes Go.ChangeAt Go.RowKit
set_option linter.unusedVariables false
set_option linter.unusedSimpArgs false

/-- A step of the register. -/
def hK (c : Nat) : Nat := Nat.xor (Nat.div c 2) (Nat.mul 14514072000185962306 (Nat.mod c 2))
theorem hK_lt (c : Nat) (h : c < 18446744073709551616) : hK c < 18446744073709551616 := by
  show (c / 2) ^^^ (14514072000185962306 * (c % 2)) < 2 ^ 64
  refine Nat.xor_lt_two_pow (by omega) (by omega)
theorem neg_and (c : Nat) (h : c < 18446744073709551616) : bits .and .u64 14514072000185962306 (IntKind.u64.wrap (-bits .and .u64 (c : Int) 1)) = ((14514072000185962306 * (c % 2) : Nat) : Int) := by
  have e1 : bits .and .u64 (c : Int) 1 = ((c % 2 : Nat) : Int) := by
    have := u64_and_nat c 1 h (by decide)
    rw [Nat.and_one_is_mod] at this
    exact this
  rw [e1, IntKind.wrap_u64]
  rcases Nat.mod_two_eq_zero_or_one c with h0 | h0
  · rw [h0]
    exact (u64_and_nat 14514072000185962306 0 (by decide) (by decide)).trans (by rw [Nat.and_zero])
  · rw [h0]
    have := u64_and_nat 14514072000185962306 18446744073709551615 (by decide) (by decide)
    rw [show (14514072000185962306 &&& 18446744073709551615 : Nat) = 14514072000185962306 by decide] at this
    exact this
theorem half_step (c : Nat) (h : c < 18446744073709551616) : bits .xor .u64 ((c : Int) / 2) (bits .and .u64 14514072000185962306 (IntKind.u64.wrap (-bits .and .u64 (c : Int) 1))) = ((hK c : Nat) : Int) := by
  rw [neg_and c h, show ((c : Int) / 2) = ((c / 2 : Nat) : Int) by omega]
  exact u64_xor_nat _ _ (by omega) (by omega)
def hN : Nat → Nat → Nat
  | 0, c => c
  | k + 1, c => hK (hN k c)
theorem hN_lt (c : Nat) (h : c < 18446744073709551616) : ∀ k, hN k c < 18446744073709551616
  | 0 => h
  | k + 1 => hK_lt _ (hN_lt c h k)
/-- The register behind a byte; behind bytes. -/
def crcS (c x : Nat) : Nat := hN 4 (hN 4 (Nat.xor c x))
theorem xor_lt (c x : Nat) (hc : c < 18446744073709551616) (hx : x < 256) : Nat.xor c x < 18446744073709551616 := show c ^^^ x < 2 ^ 64 from Nat.xor_lt_two_pow (by omega) (by omega)
theorem crcS_lt (c x : Nat) (hc : c < 18446744073709551616) (hx : x < 256) : crcS c x < 18446744073709551616 := hN_lt _ (hN_lt _ (xor_lt c x hc hx) 4) 4
def foldN (c : Nat) (l : List UInt8) : Nat := l.foldl (fun c x => crcS c x.toNat) c
theorem foldN_lt (l : List UInt8) : ∀ c, c < 18446744073709551616 → foldN c l < 18446744073709551616 := by
  induction l with
  | nil => exact fun _ h => h
  | cons x l ih => exact fun c h => ih _ (crcS_lt c _ h x.toNat_lt)
theorem foldN_snoc (c : Nat) (l : List UInt8) (x : UInt8) : foldN c (l ++ [x]) = crcS (foldN c l) x.toNat := by simp [foldN]
def notN (x : Nat) : Nat := Nat.sub 18446744073709551615 x
theorem notN_lt (x : Nat) : notN x < 18446744073709551616 := by have e : notN x = 18446744073709551615 - x := Nat.sub_eq; rw [e]; omega
theorem not_nat (x : Nat) (h : x < 18446744073709551616) : bits .xor .u64 IntKind.u64.max (x : Int) = ((notN x : Nat) : Int) := by
  have e1 : IntKind.u64.max = ((18446744073709551615 : Nat) : Int) := by decide
  rw [e1, u64_xor_nat _ _ (by decide) h, show (18446744073709551615 : Nat) = 2 ^ 64 - 1 by decide, Lib.xor_ones64 _ (by omega)]
  have e : notN x = 18446744073709551615 - x := Nat.sub_eq
  rw [e]
def crcN (s : Nat) (l : List UInt8) : Nat := notN (foldN (notN s) l)
end Go.Proofs.Ytlanghikmccmbaa
