/- The checksum of bytes: check.half and check.More, as numbers. -/
import Derived.Test.YtifoekadjnlhcaaGreatDoorMA
import Derived.Lib.Zigzag
import Derived.Laws.BitsAllLaws
namespace Go.Proofs.YtifoekadjnlhcaaGreatDoor
open Go.ChangeShapes Go.WideShapes Go.ChangeAt Go.RowKit
set_option linter.unusedVariables false
set_option linter.unusedSimpArgs false

/-- A step of the register. -/
def hK (c : Nat) : Nat := Nat.xor (Nat.div c 2) (Nat.mul 14514072000185962306 (Nat.mod c 2))
theorem hK_lt (c : Nat) (h : c < 18446744073709551616) : hK c < 18446744073709551616 := by
  show (c / 2) ^^^ (14514072000185962306 * (c % 2)) < 2 ^ 64
  refine Nat.xor_lt_two_pow (by omega) (by omega)
theorem neg_and (c : Nat) (h : c < 18446744073709551616) : bits .and .u64 14514072000185962306 (IntKind.u64.wrap (-bits .and .u64 (c : Int) 1)) = ((14514072000185962306 * (c % 2) : Nat) : Int) := by
  have e1 : bits .and .u64 (c : Int) 1 = ((c % 2 : Nat) : Int) := by
    have := u64_and_nat c 1 h (by decide)
    rw [Nat.and_one_is_mod] at this
    exact this
  rw [e1, IntKind.wrap_u64]
  rcases Nat.mod_two_eq_zero_or_one c with h0 | h0
  · rw [h0]
    exact (u64_and_nat 14514072000185962306 0 (by decide) (by decide)).trans (by rw [Nat.and_zero])
  · rw [h0]
    have := u64_and_nat 14514072000185962306 18446744073709551615 (by decide) (by decide)
    rw [show (14514072000185962306 &&& 18446744073709551615 : Nat) = 14514072000185962306 by decide] at this
    exact this
theorem half_step (c : Nat) (h : c < 18446744073709551616) : bits .xor .u64 ((c : Int) / 2) (bits .and .u64 14514072000185962306 (IntKind.u64.wrap (-bits .and .u64 (c : Int) 1))) = ((hK c : Nat) : Int) := by
  rw [neg_and c h, show ((c : Int) / 2) = ((c / 2 : Nat) : Int) by omega]
  exact u64_xor_nat _ _ (by omega) (by omega)
def hN : Nat → Nat → Nat
  | 0, c => c
  | k + 1, c => hK (hN k c)
theorem hN_lt (c : Nat) (h : c < 18446744073709551616) : ∀ k, hN k c < 18446744073709551616
  | 0 => h
  | k + 1 => hK_lt _ (hN_lt c h k)
set_option maxRecDepth 100000 in
set_option maxHeartbeats 400000 in
theorem half_nat (c : Nat) (h : c < 18446744073709551616) (w : World) : Calls Tryz.prog 385 #[.int .u64 (c : Int)] w fun e w' => e = .returned (.int .u64 ((hN 4 c : Nat) : Int)) ∧ w = w' := by
  refine calls_wd ?_
  go_enter Tryz.func385, Tryz.ntmps385
  go_wp2
  go_loopw [0, 3] (fun cv i wr => ∃ (k : Nat), k ≤ 4 ∧ i = .int .i64 k ∧ cv = .int .u64 ((hN k c : Nat) : Int) ∧ wr = wd w [] w.drawn) (fun _ i _ => 4 - (intOf i).toNat)
  case atStart => exact ⟨0, Nat.zero_le _, rfl, rfl, rfl⟩
  case round =>
    obtain ⟨k, hk, rfl, rfl, rfl⟩ := hrel
    have hb := hN_lt c h k
    by_cases hlt : k < 4
    · have HS := Lib.hid (half_step (hN k c) hb)
      go_wp2
      go_roundw
      case rel => exact ⟨k + 1, by omega, by go_num, by rw [HS.out]; rfl, trivial⟩
      case measure => simp [intOf]; omega
    · have HK : Hid (((hN k c : Nat) : Int) = ((hN 4 c : Nat) : Int)) := Lib.hid (by rw [show k = 4 by omega])
      go_wp2
      refine bodyPost_ret (v := .int .u64 ((hN k c : Nat) : Int)) (by simp [results, Tryz.results385, go_sem]) rfl ⟨by rw [HK.out], rfl⟩
/-- The register behind a byte; behind bytes. -/
def crcS (c x : Nat) : Nat := hN 4 (hN 4 (Nat.xor c x))
theorem xor_lt (c x : Nat) (hc : c < 18446744073709551616) (hx : x < 256) : Nat.xor c x < 18446744073709551616 := show c ^^^ x < 2 ^ 64 from Nat.xor_lt_two_pow (by omega) (by omega)
theorem crcS_lt (c x : Nat) (hc : c < 18446744073709551616) (hx : x < 256) : crcS c x < 18446744073709551616 := hN_lt _ (hN_lt _ (xor_lt c x hc hx) 4) 4
def foldN (c : Nat) (l : List UInt8) : Nat := l.foldl (fun c x => crcS c x.toNat) c
theorem foldN_lt (l : List UInt8) : ∀ c, c < 18446744073709551616 → foldN c l < 18446744073709551616 := by
  induction l with
  | nil => exact fun _ h => h
  | cons x l ih => exact fun c h => ih _ (crcS_lt c _ h x.toNat_lt)
theorem foldN_snoc (c : Nat) (l : List UInt8) (x : UInt8) : foldN c (l ++ [x]) = crcS (foldN c l) x.toNat := by simp [foldN]
def notN (x : Nat) : Nat := Nat.sub 18446744073709551615 x
theorem notN_lt (x : Nat) : notN x < 18446744073709551616 := by have e : notN x = 18446744073709551615 - x := Nat.sub_eq; rw [e]; omega
theorem not_nat (x : Nat) (h : x < 18446744073709551616) : bits .xor .u64 IntKind.u64.max (x : Int) = ((notN x : Nat) : Int) := by
  have e1 : IntKind.u64.max = ((18446744073709551615 : Nat) : Int) := by decide
  rw [e1, u64_xor_nat _ _ (by decide) h, show (18446744073709551615 : Nat) = 2 ^ 64 - 1 by decide, Lib.xor_ones64 _ (by omega)]
  have e : notN x = 18446744073709551615 - x := Nat.sub_eq
  rw [e]
def crcN (s : Nat) (l : List UInt8) : Nat := notN (foldN (notN s) l)
set_option maxRecDepth 100000 in
set_option maxHeartbeats 1600000 in
theorem more_nat (s : Nat) (hs : s < 18446744073709551616) (a : Option Addr) (cap : Nat) (l : List UInt8) (w : World) (hl : l.length ≤ 1152921504606846976)
    (hc : l ≠ [] → ∃ b off, a = some ⟨b, off, none⟩ ∧ b < w.heap.size ∧ ∀ i, i < l.length → w.cell? ⟨b, off + i, none⟩ = (Lib.byteCells l)[i]?) :
    Calls Tryz.prog 328 #[.int .u64 (s : Int), .slice a l.length cap] w fun e w' => e = .returned (.int .u64 ((crcN s l : Nat) : Int)) ∧ w = w' := by
  have HN := Lib.hid (not_nat s hs)
  have hn := notN_lt s
  refine calls_wd ?_
  go_enter Tryz.func328, Tryz.ntmps328
  go_wp2
  go_loopw [5, 12] (fun cv i wr => ∃ (k : Nat), k ≤ l.length ∧ i = .int .i64 k ∧ cv = .int .u64 ((foldN (notN s) (l.take k) : Nat) : Int) ∧ wr = wd w [] w.drawn) (fun _ i _ => l.length - (intOf i).toNat)
  case atStart => exact ⟨0, Nat.zero_le _, rfl, by rw [HN.out]; rfl, rfl⟩
  case round =>
    obtain ⟨k, hk, rfl, rfl, rfl⟩ := hrel
    have b1 := foldN_lt (l.take k) _ hn
    by_cases hlt : k < l.length
    · obtain ⟨x, hx⟩ : ∃ x, l[k]? = some x := ⟨_, List.getElem?_eq_getElem hlt⟩
      obtain ⟨b, off, rfl, hb, hcell⟩ := hc (fun e => by rw [e] at hlt; simp at hlt)
      have c0 : w.cell? ⟨b, off + k, none⟩ = some (.int .u8 x.toNat) := by rw [hcell k hlt, bc_get, hx]; rfl
      have HX := Lib.hid hx
      clear hx hcell hc
      have hx8 : x.toNat < 256 := x.toNat_lt
      have x1 := xor_lt (foldN (notN s) (l.take k)) x.toNat b1 hx8
      have x2 := hN_lt _ x1 4
      have HT : Hid (foldN (notN s) (l.take (k + 1)) = hN 4 (hN 4 (foldN (notN s) (l.take k) ^^^ x.toNat))) := Lib.hid (by
        rw [List.take_add_one, HX.out]; exact foldN_snoc _ _ _)
      have HY : Hid (bits .xor .u64 ((foldN (notN s) (l.take k) : Nat) : Int) (x.toNat : Int) = ((foldN (notN s) (l.take k) ^^^ x.toNat : Nat) : Int)) := Lib.hid (u64_xor_nat _ _ b1 (by omega))
      have hcall := fun (W : World) => half_nat _ x1 W
      have HC : Hid (∀ W : World, Calls Tryz.prog 385 #[.int .u64 (bits .xor .u64 ((foldN (notN s) (l.take k) : Nat) : Int) (x.toNat : Int))] W fun e w' => e = .returned (.int .u64 ((hN 4 (foldN (notN s) (l.take k) ^^^ x.toNat) : Nat) : Int)) ∧ W = w') := Lib.hid (by rw [HY.out]; exact hcall)
      have HD : Hid (∀ W : World, Calls Tryz.prog 385 #[.int .u64 ((hN 4 (foldN (notN s) (l.take k) ^^^ x.toNat) : Nat) : Int)] W fun e w' => e = .returned (.int .u64 ((hN 4 (hN 4 (foldN (notN s) (l.take k) ^^^ x.toNat)) : Nat) : Int)) ∧ W = w') := Lib.hid fun W => half_nat _ x2 W
      clear hcall
      go_wp2_with (first | (go_at_call 385; ((with_reducible refine (HC.out _).mono ?_); rintro e w1 ⟨rfl, rfl⟩)) | (go_at_call 385; ((with_reducible refine (HD.out _).mono ?_); rintro e w1 ⟨rfl, rfl⟩)))
      go_roundw
      case rel => exact ⟨k + 1, by omega, by go_num, by rw [HT.out], trivial⟩
      case measure => simp [intOf]; omega
    · have HK : Hid (l.take k = l) := Lib.hid (List.take_of_length_le (by omega))
      have HR : Hid (bits .xor .u64 IntKind.u64.max ((foldN (notN s) (l.take k) : Nat) : Int) = ((crcN s l : Nat) : Int)) := Lib.hid (by rw [not_nat _ b1, HK.out]; rfl)
      go_wp2
      refine bodyPost_ret (v := .int .u64 (bits .xor .u64 IntKind.u64.max ((foldN (notN s) (l.take k) : Nat) : Int))) (by simp [results, Tryz.results328, go_sem]) rfl ⟨by rw [HR.out], rfl⟩
end Go.Proofs.YtifoekadjnlhcaaGreatDoor
