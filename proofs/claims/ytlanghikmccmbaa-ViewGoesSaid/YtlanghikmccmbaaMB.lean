/- varnum: numbers as bytes: the plain functions, and the walks of zigzag, lay, Put. -/
import Derived.Test.YtlanghikmccmbaaMA
import Derived.Lib.Zigzag
import Derived.Laws.BitsAllLaws
import Derived.Lib.Strings
namespace Go.Proofs.Ytlanghikmccmbaa
open Go.ChangeShapes Go.WideShapes Go.ChangeAt Go.RowKit
set_option linter.unusedVariables false
set_option linter.unusedSimpArgs false

def zig (n : Int) : Int := if 0 ≤ n then 2 * n else -2 * n - 1
theorem zig_bd {n : Int} (h1 : -9223372036854775808 ≤ n) (h2 : n ≤ 9223372036854775807) : 0 ≤ zig n ∧ zig n ≤ 18446744073709551615 := by unfold zig; split <;> omega
theorem xor0 (x : Int) (h0 : 0 ≤ x) (h1 : x < 18446744073709551616) : bits .xor .u64 x 0 = x := by
  have := Go.u64_xor x 0 h0 h1 (by decide) (by decide)
  simpa [Int.toNat_of_nonneg h0] using this
theorem xor1 (x : Int) (h0 : 0 ≤ x) (h1 : x < 18446744073709551616) : bits .xor .u64 x 18446744073709551615 = 18446744073709551615 - x := by
  have := Go.u64_xor x 18446744073709551615 h0 h1 (by decide) (by decide)
  rw [this, Nat.xor_comm, show (18446744073709551615 : Int).toNat = 2 ^ 64 - 1 by decide, Lib.xor_ones64 _ (by omega)]
  omega
set_option maxRecDepth 100000 in
set_option maxHeartbeats 400000 in
theorem zig_any (n : Int) (h1 : -9223372036854775808 ≤ n) (h2 : n ≤ 9223372036854775807) (w : World) : Calls Try.prog 71 #[.int .i64 n] w fun e w' => e = .returned (.int .u64 (zig n)) ∧ w = w' := by
  by_cases h : 0 ≤ n
  · have HZ : Hid (bits .xor .u64 (n * 2) (n / 9223372036854775808) = zig n) := Lib.hid (by
      rw [show n / 9223372036854775808 = 0 by omega, xor0 _ (by omega) (by omega)]; unfold zig; rw [if_pos h]; omega)
    go_enter Try.func71, Try.ntmps71
    go_wp2
    go_ret
    exact ⟨ret_i HZ.out, rfl⟩
  · go_enter Try.func71, Try.ntmps71
    go_wp2
    go_ret
    exact ⟨ret_i (by rw [IntKind.wrap_u64 n, IntKind.wrap_u64, IntKind.wrap_u64, show (n / 9223372036854775808) % 18446744073709551616 = 18446744073709551615 by omega, xor1 _ (by omega) (by omega)]; unfold zig; rw [if_neg (by omega)]; omega), rfl⟩
/-! ### a number without a sign -/
def layN (u : Nat) : List UInt8 := if u < 128 then [UInt8.ofNat u] else UInt8.ofNat (u % 128 + 128) :: layN (u / 128)
termination_by u
decreasing_by omega
theorem layN_small {u : Nat} (h : u < 128) : layN u = [UInt8.ofNat u] := by rw [layN, if_pos h]
theorem layN_big {u : Nat} (h : 128 ≤ u) : layN u = UInt8.ofNat (u % 128 + 128) :: layN (u / 128) := by rw [layN, if_neg (by omega)]
theorem layN_len : ∀ (k u : Nat), u < 128 ^ (k + 1) → (layN u).length ≤ k + 1
  | 0, u, h => by rw [layN_small (by simpa using h)]; simp
  | k + 1, u, h => by
    by_cases hu : u < 128
    · rw [layN_small hu]; simp
    · rw [layN_big (by omega), List.length_cons]
      have := layN_len k (u / 128) (by rw [Nat.div_lt_iff_lt_mul (by decide)]; rw [Nat.pow_succ] at h; exact h)
      omega
theorem layN_ten {u : Nat} (h : u < 18446744073709551616) : (layN u).length ≤ 10 := layN_len 9 u (by omega)
theorem layN_pos (u : Nat) : 1 ≤ (layN u).length := by
  by_cases h : u < 128
  · rw [layN_small h]; simp
  · rw [layN_big (by omega)]; simp
def put (n : Int) : List UInt8 := layN (zig n).toNat
set_option maxRecDepth 100000 in
theorem or128 : ∀ y : Nat, y < 256 → y ||| 128 = y % 128 + 128 := by decide
theorem byte_more (x : Nat) : bits .or .u8 (IntKind.u8.wrap (x : Int)) 128 = ((UInt8.ofNat (x % 128 + 128)).toNat : Int) := by
  rw [IntKind.wrap_u8, show ((x : Int) % 256) = ((x % 256 : Nat) : Int) by omega]
  have := u8_or ((x % 256 : Nat) : Int) 128 (by omega) (by omega) (by decide) (by decide)
  rw [this, Int.toNat_natCast, show (128 : Int).toNat = 128 by decide, or128 _ (by omega)]
  simp
  omega
theorem byte_last (x : Nat) (h : x < 128) : IntKind.u8.wrap (x : Int) = ((UInt8.ofNat x).toNat : Int) := by
  rw [IntKind.wrap_u8]; simp
theorem info_u8 : (Try.prog.info? 5).map (fun i => (i.zero, i.size, i.bytes)) = some (some (.int .u8 0), 1, 1) := by kernel_rfl
abbrev BMade (w w' : World) (v : Value) (l : List UInt8) : Prop := Made w w' 5 1 v l.length (Lib.byteCells l)
theorem snoc_byte (pre : List UInt8) (b : UInt8) (n : Int) (h : n = b.toNat) : Lib.byteCells pre ++ [Value.int .u8 n] = Lib.byteCells (pre ++ [b]) := by subst h; simp [Lib.byteCells]
theorem row_bytes {B : Nat} {S : List Nat} {e : Array Obj} {v : Value} {n : Nat} {xs : List Value} (h : rowIn B S e 5 1 v n xs) (l : List UInt8) (hx : xs = Lib.byteCells l) : rowIn B S e 5 1 v l.length (Lib.byteCells l) := by
  subst hx
  have h1 := h.1
  rw [bc_len, Nat.mul_one] at h1
  rw [h1]; exact h
theorem bmade {w : World} {e : Array Obj} {v : Value} {n k : Nat} {xs : List Value} (h : rowIn w.heap.size [] e 5 1 v n xs) (l : List UInt8) (hx : xs = Lib.byteCells l) : BMade w (wd w [e] k) v l := made_of (row_bytes h l hx)
set_option maxRecDepth 100000 in
set_option maxHeartbeats 1600000 in
theorem lay_any (u : Nat) (hu : u < 18446744073709551616) (w : World) : Calls Try.prog 70 #[.int .u64 u] w fun e w' => ∃ v, e = .returned v ∧ BMade w w' v (layN u) := by
  obtain ⟨i0, hi, hz0, hz1, hz2⟩ := info_parts info_u8
  have hlen := layN_ten hu
  refine calls_wd ?_
  go_enter Try.func70, Try.ntmps70
  go_wp2
  go_loopw [0, 3] (fun x b wr => ∃ (k : Nat) (pre : List UInt8) (m : Ext), x = .int .u64 k ∧ k < 18446744073709551616 ∧ pre ++ layN k = layN u ∧ rowIn w.heap.size [] m.e 5 1 b pre.length (Lib.byteCells pre) ∧ wr = wd w [m.e] m.n) (fun x _ _ => (intOf x).toNat)
  case atStart => exact ⟨u, [], ⟨#[], w.drawn⟩, rfl, hu, rfl, rowIn_nil _ _ _ _ _, (wd_empty _ _ _).symm⟩
  case round =>
    obtain ⟨k, pre, m, rfl, hk, hp, hrow, rfl⟩ := hrel
    have hpl : pre.length + (layN k).length ≤ 10 := by rw [← List.length_append, hp]; exact hlen
    have hl1 := layN_pos k
    have HROW := Lib.hid hrow
    have HP := Lib.hid hp
    clear hrow hp
    by_cases hlt : k < 128
    · have HB := Lib.hid (byte_last k hlt)
      go_wp2_with (at_builtin; refine wp_append_row (L := []) rfl _ _ _ rfl 5 i0 _ 1 1 Try.underlying48 hi hz0 hz1 hz2 rfl (by decide) _ _ _ rfl HROW.out _ _ 1 1 rfl rfl (by simp [Value.oneCell']) (by unfold maxLen; omega) (by omega) ?_; intro v' m' hrow')
      go_ret
      exact ⟨_, rfl, bmade hrow' _ (by rw [← HP.out, layN_small hlt]; exact snoc_byte _ _ _ (by simp; omega))⟩
    · have HB := Lib.hid (byte_more k)
      go_wp2_with (at_builtin; refine wp_append_row (L := []) rfl _ _ _ rfl 5 i0 _ 1 1 Try.underlying48 hi hz0 hz1 hz2 rfl (by decide) _ _ _ rfl HROW.out _ _ 1 1 rfl rfl (by simp [Value.oneCell']) (by unfold maxLen; omega) (by omega) ?_; intro v' m' hrow')
      go_roundw
      case rel => exact ⟨k / 128, pre ++ [UInt8.ofNat (k % 128 + 128)], m', by go_num, by omega, by rw [List.append_assoc, List.singleton_append, ← layN_big (by omega), HP.out], row_bytes hrow' _ (snoc_byte _ _ _ HB.out), rfl⟩
      case measure => simp [intOf]; omega
theorem lay_int (z : Int) (h0 : 0 ≤ z) (h1 : z ≤ 18446744073709551615) (w : World) : Calls Try.prog 70 #[.int .u64 z] w fun e w' => ∃ v, e = .returned v ∧ BMade w w' v (layN z.toNat) := by
  have h := lay_any z.toNat (by omega) w
  rwa [Int.toNat_of_nonneg h0] at h
set_option maxRecDepth 100000 in
set_option maxHeartbeats 400000 in
theorem put_any (n : Int) (h1 : -9223372036854775808 ≤ n) (h2 : n ≤ 9223372036854775807) (w : World) : Calls Try.prog 43 #[.int .i64 n] w fun e w' => ∃ v, e = .returned v ∧ BMade w w' v (put n) := by
  obtain ⟨z1, z2⟩ := zig_bd h1 h2
  refine calls_wd ?_
  go_enter Try.func43, Try.ntmps43
  go_wp2_with (first | (go_at_call 71; ((with_reducible refine (zig_any n h1 h2 _).mono ?_); rintro e w1 ⟨rfl, rfl⟩)) | (go_at_call 70; ((with_reducible refine (lay_int _ z1 z2 _).mono ?_); rintro e w1 ⟨v1, rfl, x1⟩; obtain ⟨m1, rfl, hr1⟩ := x1.wd; clear x1)))
  go_ret
  exact ⟨_, rfl, bmade hr1 _ rfl⟩
def text (s : ByteArray) : List UInt8 := put s.size ++ s.data.toList
theorem put_len {n : Int} (h1 : -9223372036854775808 ≤ n) (h2 : n ≤ 9223372036854775807) : (put n).length ≤ 10 := by
  obtain ⟨z1, z2⟩ := zig_bd h1 h2
  exact layN_ten (by omega)
set_option maxRecDepth 100000 in
set_option maxHeartbeats 400000 in
theorem text_any (s : ByteArray) (hs : s.size ≤ 1099511627776) (w : World) : Calls Try.prog 45 #[.string s] w fun e w' => ∃ v, e = .returned v ∧ BMade w w' v (text s) := by
  obtain ⟨i0, hi, hz0, hz1, hz2⟩ := info_parts info_u8
  have b1 : -9223372036854775808 ≤ (s.size : Int) := by omega
  have b2 : (s.size : Int) ≤ 9223372036854775807 := by omega
  have hl := put_len b1 b2
  refine calls_wd ?_
  go_enter Try.func45, Try.ntmps45
  go_wp2_with (first
    | (go_at_call 43; ((with_reducible refine (put_any s.size b1 b2 _).mono ?_); rintro e w1 ⟨v1, rfl, x1⟩; obtain ⟨m1, rfl, hr1⟩ := x1.wd; clear x1))
    | (at_builtin; refine wp_append_str (L := []) rfl _ _ _ _ rfl 5 i0 Try.underlying48 Try.underlying9 hi hz0 hz1 hz2 rfl v1 _ _ rfl hr1 s rfl (by unfold maxLen; omega) (by omega) ?_; intro v2 m2 hr2))
  go_ret
  exact ⟨_, rfl, bmade hr2 _ (bc_append _ _).symm⟩
end Go.Proofs.Ytlanghikmccmbaa
/- varnum: numbers off bytes: zagzig, Get (program and reference), bytes.Equal. -/
namespace Go.Proofs.Ytlanghikmccmbaa
open Go.ChangeShapes Go.WideShapes Go.ChangeAt Go.RowKit
set_option linter.unusedVariables false
set_option linter.unusedSimpArgs false

def zag (u : Int) : Int := if u % 2 = 0 then u / 2 else -(u / 2) - 1
theorem xori0 (x : Int) (h0 : 0 ≤ x) (h1 : x < 9223372036854775808) : bits .xor .i64 x 0 = x := by
  show IntKind.i64.wrap ((BitVec.ofInt 64 x ^^^ BitVec.ofInt 64 0).toNat : Int) = _
  have h2 : (BitVec.ofInt 64 x).toNat = x.toNat := by
    rw [show x = (x.toNat : Int) by omega, BitVec.ofInt_natCast, BitVec.toNat_ofNat]; simp; omega
  rw [BitVec.toNat_xor, h2, show (BitVec.ofInt 64 0).toNat = 0 by decide, Nat.xor_zero, IntKind.wrap_i64]
  omega
theorem xori1 (x : Int) (h0 : 0 ≤ x) (h1 : x < 9223372036854775808) : bits .xor .i64 x (-1) = -x - 1 := by
  have e : bits .xor .i64 x (-1) = bits .xor .i64 (-1) x := by
    show IntKind.i64.wrap ((BitVec.ofInt 64 x ^^^ BitVec.ofInt 64 (-1)).toNat : Int) = IntKind.i64.wrap ((BitVec.ofInt 64 (-1) ^^^ BitVec.ofInt 64 x).toNat : Int)
    rw [BitVec.xor_comm]
  rw [e]
  have := Lib.i64_not x.toNat (by omega)
  rwa [Int.toNat_of_nonneg h0] at this
theorem zag_bits (u : Int) (h0 : 0 ≤ u) (h1 : u ≤ 18446744073709551615) : bits BinOp.xor IntKind.i64 (u / 2) (wrap64 (-wrap64 (bits BinOp.and IntKind.u64 u 1))) = zag u := by
  rw [Lib.u64_and1 u h0 (by omega)]
  unfold zag
  rcases (by omega : u % 2 = 0 ∨ u % 2 = 1) with h | h
  · rw [h, if_pos rfl, show wrap64 (-wrap64 0) = 0 by decide +kernel, xori0 _ (by omega) (by omega)]
  · rw [h, if_neg (by decide), show wrap64 (-wrap64 1) = -1 by decide +kernel, xori1 _ (by omega) (by omega)]
theorem ret_b {a b : Bool} (h : a = b) : Ending.returned (.bool a) = .returned (.bool b) := by rw [h]
theorem str_beq (a b : List UInt8) : ((str a).toList == (str b).toList) = decide (a = b) := by
  rw [Lib.toList_data, Lib.toList_data, str_data, str_data]
  by_cases h : a = b
  · simp [h]
  · simp [h]
set_option maxRecDepth 100000 in
set_option maxHeartbeats 400000 in
theorem zag_any (u : Int) (h0 : 0 ≤ u) (h1 : u ≤ 18446744073709551615) (w : World) : Calls Try.prog 91 #[.int .u64 u] w fun e w' => e = .returned (.int .i64 (zag u)) ∧ w = w' := by
  go_enter Try.func91, Try.ntmps91
  go_wp2
  go_ret
  exact ⟨ret_i (zag_bits u h0 h1), rfl⟩
set_option maxRecDepth 100000 in
set_option maxHeartbeats 400000 in
theorem equal_any (v1 v2 : Value) (l1 l2 : List UInt8) (w : World) (h1 : RB w v1 l1) (h2 : RB w v2 l2) : Calls Try.prog 51 #[v1, v2] w fun e w' => e = .returned (.bool (decide (l1 = l2))) ∧ w = w' := by
  have k1 := h1.run_str (P := Try.prog) 48 9 5 Try.underlying48 Try.underlying5 Try.underlying9
  have k2 := h2.run_str (P := Try.prog) 48 9 5 Try.underlying48 Try.underlying5 Try.underlying9
  have H1 := Lib.hid h1
  have H2 := Lib.hid h2
  clear h1 h2
  go_enter Try.func51, Try.ntmps51
  go_wp2
  go_ret
  exact ⟨ret_b (str_beq l1 l2), rfl⟩

/-! ### a number off bytes -/
/-- The first byte of no more to come. -/
def scan : List UInt8 → Nat
  | [] => 0
  | b :: r => if b.toNat < 128 then 0 else scan r + 1
theorem scan_le : ∀ l, scan l ≤ l.length
  | [] => Nat.le_refl _
  | b :: r => by unfold scan; split <;> simp; exact scan_le r
theorem scan_of : ∀ (l : List UInt8) (k : Nat) (b : UInt8), (∀ j, j < k → ∃ b, l[j]? = some b ∧ 128 ≤ b.toNat) → l[k]? = some b → b.toNat < 128 → scan l = k
  | [], k, b, _, h, _ => by simp at h
  | c :: r, k, b, hm, h, hb => by
    unfold scan
    cases k with
    | zero => simp at h; subst h; rw [if_pos hb]
    | succ k =>
      obtain ⟨d, h1, h2⟩ := hm 0 (by omega)
      simp at h1; subst h1
      rw [if_neg (by omega), scan_of r k b (fun j hj => by have := hm (j + 1) (by omega); simpa using this) (by simpa using h) hb]
theorem scan_ge : ∀ (l : List UInt8) (k : Nat), (∀ j, j < k → ∃ b, l[j]? = some b ∧ 128 ≤ b.toNat) → k ≤ scan l
  | _, 0, _ => Nat.zero_le _
  | [], k + 1, hm => by obtain ⟨d, h1, _⟩ := hm 0 (by omega); simp at h1
  | c :: r, k + 1, hm => by
    unfold scan
    obtain ⟨d, h1, h2⟩ := hm 0 (by omega)
    simp at h1; subst h1
    rw [if_neg (by omega)]
    have := scan_ge r k (fun j hj => by have := hm (j + 1) (by omega); simpa using this)
    omega
def valN : List UInt8 → Nat
  | [] => 0
  | b :: r => b.toNat % 128 + 128 * valN r
theorem valN_snoc : ∀ (l : List UInt8) (b : UInt8), valN (l ++ [b]) = valN l + b.toNat % 128 * 128 ^ l.length
  | [], b => by simp [valN]
  | c :: l, b => by
    simp only [List.cons_append, valN, valN_snoc l b, List.length_cons, Nat.pow_succ]
    rw [Nat.mul_add, Nat.mul_comm (128 ^ l.length) 128, Nat.mul_left_comm, Nat.add_assoc]
theorem valN_lt : ∀ l : List UInt8, valN l < 128 ^ l.length
  | [] => by simp [valN]
  | b :: l => by
    have := valN_lt l
    simp only [valN, List.length_cons, Nat.pow_succ]
    have h2 : b.toNat % 128 < 128 := Nat.mod_lt _ (by decide)
    omega
/-- What a number's reading answers: the number, how many bytes, the error. -/
def getN (l : List UInt8) : Int × Nat × Int :=
  if 10 ≤ scan l then (0, 0, 4)
  else if scan l = l.length then (0, 0, 3)
  else if layN (valN (l.take (scan l + 1)) % 18446744073709551616) = l.take (scan l + 1) then (zag (valN (l.take (scan l + 1)) % 18446744073709551616 : Nat), scan l + 1, 0)
  else (0, 0, 4)
abbrev getV (l : List UInt8) : Value := .tuple #[.int .i64 (getN l).1, .int .i64 (getN l).2.1, .int .i64 (getN l).2.2]
theorem ret_get {l : List UInt8} {a b c : Int} (h : ((getN l).1, ((getN l).2.1 : Int), (getN l).2.2) = (a, b, c)) : Ending.returned (.tuple #[.int .i64 a, .int .i64 b, .int .i64 c]) = .returned (getV l) := by
  simp only [Prod.mk.injEq] at h
  rw [getV, h.1, h.2.1, h.2.2]
theorem low7 : ∀ y : Nat, y < 256 → y &&& 127 = y % 128 := by
  intro y hy
  exact Nat.and_two_pow_sub_one_eq_mod y 7
theorem pow7 (k : Nat) : 128 ^ k = 2 ^ (7 * k) := by rw [Nat.pow_mul]
theorem and127 (x : UInt8) : bits .and .u8 (x.toNat : Int) 127 = ((x.toNat % 128 : Nat) : Int) := by
  have h := x.toNat_lt
  exact (Go.u8_and_nat x.toNat 127 (by omega) (by decide)).trans (by rw [low7 _ (by omega)])
theorem and128 : ∀ y : Nat, y < 256 → y &&& 128 = if y < 128 then 0 else 128 := by decide +kernel
theorem and128_lo (x : UInt8) (hx : x.toNat < 128) : bits .and .u8 (x.toNat : Int) 128 = 0 := by
  have h := x.toNat_lt
  exact (Go.u8_and_nat x.toNat 128 (by omega) (by decide)).trans (by rw [and128 _ (by omega), if_pos hx]; rfl)
theorem and128_hi (x : UInt8) (hx : ¬ x.toNat < 128) : bits .and .u8 (x.toNat : Int) 128 = 128 := by
  have h := x.toNat_lt
  exact (Go.u8_and_nat x.toNat 128 (by omega) (by decide)).trans (by rw [and128 _ (by omega), if_neg hx]; rfl)
theorem or_step (l : List UInt8) (U k : Nat) (x : UInt8) (hU : U = valN (l.take k) % 18446744073709551616) (hk : k < 10) (hx : l[k]? = some x) :
    bits .or .u64 (U : Int) (IntKind.u64.wrap (IntKind.u64.wrap (bits .and .u8 (x.toNat : Int) 127) * 2 ^ (7 * k))) = ((valN (l.take (k + 1)) % 18446744073709551616 : Nat) : Int) := by
  have hkl : k < l.length := (List.getElem?_eq_some_iff.1 hx).1
  have hlen : (l.take k).length = k := by rw [List.length_take]; omega
  have hV := valN_lt (l.take k)
  rw [hlen, pow7] at hV
  have h63 : 2 ^ (7 * k) ≤ 2 ^ 63 := Nat.pow_le_pow_right (by decide) (by omega)
  have e63 : 2 ^ 63 = 9223372036854775808 := by decide
  have hU' : U = valN (l.take k) := by omega
  rw [take_get l k x hx, valN_snoc, hlen, pow7, and127, IntKind.wrap_u64 ((x.toNat % 128 : Nat) : Int), show ((x.toNat % 128 : Nat) : Int) % 18446744073709551616 = ((x.toNat % 128 : Nat) : Int) by omega, IntKind.wrap_u64]
  generalize x.toNat % 128 = y
  have ec : ((y : Int) * 2 ^ (7 * k)) % 18446744073709551616 = ((y * 2 ^ (7 * k) % 18446744073709551616 : Nat) : Int) := by rw [Int.natCast_emod, Int.natCast_mul, Int.natCast_pow]; rfl
  rw [ec, Go.u64_or_nat _ _ (by omega) (Nat.mod_lt _ (by decide)), Nat.or_comm]
  obtain ⟨q, hq⟩ : ∃ q, 18446744073709551616 = 2 ^ (7 * k) * q := ⟨2 ^ (64 - 7 * k), by rw [← Nat.pow_add, show 7 * k + (64 - 7 * k) = 64 by omega]⟩
  have hY : y * 2 ^ (7 * k) % 18446744073709551616 = (y % q) * 2 ^ (7 * k) := by rw [hq, Nat.mul_comm (2 ^ (7 * k)) q, Nat.mul_mod_mul_right]
  have hq0 : 0 < q := by
    rcases Nat.eq_zero_or_pos q with h | h
    · rw [h] at hq; omega
    · exact h
  have hyq : y % q < q := Nat.mod_lt _ hq0
  have hle : (y % q) * 2 ^ (7 * k) + 2 ^ (7 * k) ≤ 18446744073709551616 := by
    rw [← Nat.succ_mul, hq, Nat.mul_comm (2 ^ (7 * k)) q]
    exact Nat.mul_le_mul_right _ hyq
  rw [Go.nat_join (7 * k) _ U (by rw [hY]; exact Nat.mul_mod_left _ _) (by omega), hU', Nat.add_mod (valN (l.take k)), hY]
  generalize y % q * 2 ^ (7 * k) = Z at *
  generalize 2 ^ (7 * k) = T at *
  congr 1
  omega
set_option maxRecDepth 100000 in
set_option maxHeartbeats 1600000 in
theorem get_any (v : Value) (l : List UInt8) (w : World) (hv : RB w v l) : Calls Try.prog 77 #[v] w fun e w' => e = .returned (getV l) ∧ More w w' := by
  have HV := Lib.hid hv
  obtain ⟨a, cap, rfl, hcap, hm, hc⟩ := hv
  by_cases hne : l = []
  · subst hne
    refine calls_wd ?_
    go_enter Try.func77, Try.ntmps77
    go_wp2
    refine wp_loop_rounds 1 ?_; rw [rounds_succ]
    go_wp2
    refine bodyPost_ret (v := .tuple #[.int .i64 0, .int .i64 0, .int .i64 3]) (by simp [results, Try.results77, go_sem]) rfl ⟨ret_get (by simp [getN, scan]), more_wd _ _ _⟩
  obtain ⟨b, off, rfl, hb, hcell⟩ := hc hne
  have HC := Lib.hid hcell
  clear hcell hc
  by_cases h10 : l.length ≤ 10
  all_goals
    refine calls_wd ?_
    go_enter Try.func77, Try.ntmps77
    go_wp2
    go_loopw [5, 10] (fun u i wr => ∃ (k U : Nat), k ≤ l.length ∧ k ≤ 10 ∧ u = .int .u64 (U : Int) ∧ U = valN (l.take k) % 18446744073709551616 ∧ i = .int .i64 k ∧ (∀ j, j < k → ∃ b, l[j]? = some b ∧ 128 ≤ b.toNat) ∧ wr = wd w [] w.drawn) (fun _ i _ => 10 - (intOf i).toNat)
    case atStart => exact ⟨0, 0, Nat.zero_le _, Nat.zero_le _, rfl, rfl, rfl, fun j hj => by omega, rfl⟩
    case round =>
      obtain ⟨k, U, hk, hk10, rfl, hU, rfl, hall, rfl⟩ := hrel
      have hcases : (k < l.length ∧ k < 10) ∨ (k = l.length ∧ k < 10) ∨ k = 10 := by omega
      rcases hcases with ⟨hlt, hlt10⟩ | ⟨hke, hlt10⟩ | hke
      · obtain ⟨x, hx⟩ : ∃ x, l[k]? = some x := ⟨_, List.getElem?_eq_getElem hlt⟩
        have c0 : w.cell? ⟨b, off + k, none⟩ = some (.int .u8 x.toNat) := by rw [HC.out k hlt, bc_get, hx]; rfl
        obtain ⟨U', hU'⟩ : ∃ U', U' = valN (l.take (k + 1)) % 18446744073709551616 := ⟨_, rfl⟩
        have e2 : bits .or .u64 (U : Int) (IntKind.u64.wrap (IntKind.u64.wrap (bits .and .u8 (x.toNat : Int) 127) * 2 ^ (7 * k))) = (U' : Int) := by rw [hU']; exact or_step l U k x hU hlt10 hx
        have hU2 : U' < 18446744073709551616 := by rw [hU']; exact Nat.mod_lt _ (by decide)
        have HX := Lib.hid hx
        have HA := Lib.hid hall
        have HU := Lib.hid hU
        have HU' := Lib.hid hU'
        clear hx hall hU hU'
        have hx8 : x.toNat < 256 := x.toNat_lt
        by_cases hmo : x.toNat < 128
        · have e1 := and128_lo x hmo
          have HS : Hid (scan l = k) := Lib.hid (scan_of l k x HA.out HX.out hmo)
          have HT : Hid (RB w (.slice (some ⟨b, off, none⟩) (k + 1) cap) (l.take (k + 1))) := Lib.hid (HV.out.take (k + 1) (by omega))
          by_cases hq : layN U' = l.take (k + 1)
          · have HG : Hid (((getN l).1, ((getN l).2.1 : Int), (getN l).2.2) = (zag U', (k : Int) + 1, 0)) := Lib.hid (by
              unfold getN
              rw [HS.out, if_neg (by omega), if_neg (by omega), ← HU'.out, if_pos hq]; rfl)
            have e3 : decide (layN U' = l.take (k + 1)) = true := by simp [hq]
            have HQ := Lib.hid hq
            clear hq
            go_wp2
            refine wp_region_mix [0, 2, 3, 4, 5] [1, 6, 7] [true, false, true, true, true, true] [false, true, false, false, false, false, true, true] ⟨rfl, rfl⟩ (by kernel_rfl) (by kernel_rfl) (fun _ _ d _ _ h => by cases d <;> exact h) ?_
            apply Exists.intro
            refine ⟨?_, ?_⟩
            · intro E
              simp only [sel_t, sel_f, sel_n]
              repeat (go_big_quiet_step ((fail)))
              exact wpQuiet_nil rfl
            simp only [sel_t, sel_f, sel_n, loudly_cons, loudly_nil]
            go_wp2_with (first | (go_at_call 70; ((with_reducible refine (lay_any U' hU2 _).mono ?_); rintro e w1 ⟨v1, rfl, x1⟩; obtain ⟨m1, rfl, hr1⟩ := x1.wd; clear x1)))
            have HR := Lib.hid (RB.of_row (L := []) (k := m1.n) hr1 _ rfl)
            have HT' := Lib.hid (HT.out.more (more_wd w [m1.e] m1.n))
            refine ⟨over_cons _ (over_refl _ _ _), ?_⟩
            rw [loudly_cons]
            go_wp2_with (first | (go_at_call 51; ((with_reducible refine (equal_any _ _ _ _ _ HR.out HT'.out).mono ?_); rintro e w1 ⟨rfl, rfl⟩)))
            refine ⟨over_cons _ (over_refl _ _ _), ?_⟩
            rw [loudly_cons]
            go_wp2
            refine ⟨over_cons _ (over_refl _ _ _), ?_⟩
            rw [loudly_nil]
            have hz1 : (0 : Int) ≤ (U' : Int) := by omega
            have hz2 : (U' : Int) ≤ 18446744073709551615 := by omega
            go_wp2_with (first | (go_at_call 91; ((with_reducible refine (zag_any _ hz1 hz2 _).mono ?_); rintro e w1 ⟨rfl, rfl⟩)))
            refine bodyPost_ret (v := .tuple #[.int .i64 (zag U'), .int .i64 ((k : Int) + 1), .int .i64 0]) (by simp [results, Try.results77, go_sem]) rfl ⟨ret_get HG.out, more_wd _ _ _⟩
          · have HG : Hid (((getN l).1, ((getN l).2.1 : Int), (getN l).2.2) = (0, 0, 4)) := Lib.hid (by
              unfold getN
              rw [HS.out, if_neg (by omega), if_neg (by omega), ← HU'.out, if_neg hq]; rfl)
            have e3 : decide (layN U' = l.take (k + 1)) = false := by simp [hq]
            have HQ := Lib.hid hq
            clear hq
            go_wp2
            refine wp_region_mix [0, 2, 3, 4, 5] [1, 6, 7] [true, false, true, true, true, true] [false, true, false, false, false, false, true, true] ⟨rfl, rfl⟩ (by kernel_rfl) (by kernel_rfl) (fun _ _ d _ _ h => by cases d <;> exact h) ?_
            apply Exists.intro
            refine ⟨?_, ?_⟩
            · intro E
              simp only [sel_t, sel_f, sel_n]
              repeat (go_big_quiet_step ((fail)))
              exact wpQuiet_nil rfl
            simp only [sel_t, sel_f, sel_n, loudly_cons, loudly_nil]
            go_wp2_with (first | (go_at_call 70; ((with_reducible refine (lay_any U' hU2 _).mono ?_); rintro e w1 ⟨v1, rfl, x1⟩; obtain ⟨m1, rfl, hr1⟩ := x1.wd; clear x1)))
            have HR := Lib.hid (RB.of_row (L := []) (k := m1.n) hr1 _ rfl)
            have HT' := Lib.hid (HT.out.more (more_wd w [m1.e] m1.n))
            refine ⟨over_cons _ (over_refl _ _ _), ?_⟩
            rw [loudly_cons]
            go_wp2_with (first | (go_at_call 51; ((with_reducible refine (equal_any _ _ _ _ _ HR.out HT'.out).mono ?_); rintro e w1 ⟨rfl, rfl⟩)))
            refine ⟨over_cons _ (over_refl _ _ _), ?_⟩
            rw [loudly_cons]
            go_wp2
            refine ⟨over_cons _ (over_refl _ _ _), ?_⟩
            rw [loudly_nil]
            go_wp2
            refine bodyPost_ret (v := .tuple #[.int .i64 0, .int .i64 0, .int .i64 4]) (by simp [results, Try.results77, go_sem]) rfl ⟨ret_get HG.out, more_wd _ _ _⟩
        · have e1 := and128_hi x hmo
          go_wp2
          go_roundw
          case rel => exact ⟨k + 1, U', by omega, by omega, rfl, HU'.out, by go_num, fun j hj => by rcases Nat.lt_or_eq_of_le (Nat.le_of_lt_succ hj) with h | rfl; exact HA.out j h; exact ⟨x, HX.out, by omega⟩, (by first | rfl | trivial)⟩
          case measure => simp [intOf]; omega
      · have HG : Hid (((getN l).1, ((getN l).2.1 : Int), (getN l).2.2) = (0, 0, 3)) := Lib.hid (by
          have h1 := scan_ge l k hall
          have h2 := scan_le l
          unfold getN
          rw [if_neg (by omega), if_pos (by omega)]; rfl)
        clear hall hU
        go_wp2
        all_goals (refine bodyPost_ret (v := .tuple #[.int .i64 0, .int .i64 0, .int .i64 3]) (by simp [results, Try.results77, go_sem]) rfl ⟨ret_get HG.out, more_wd _ _ _⟩)
      · have HG : Hid (((getN l).1, ((getN l).2.1 : Int), (getN l).2.2) = (0, 0, 4)) := Lib.hid (by
          have h1 := scan_ge l k hall
          unfold getN
          rw [if_pos (by omega)]; rfl)
        clear hall hU
        go_wp2
        all_goals (refine bodyPost_ret (v := .tuple #[.int .i64 0, .int .i64 0, .int .i64 4]) (by simp [results, Try.results77, go_sem]) rfl ⟨ret_get HG.out, more_wd _ _ _⟩)
end Go.Proofs.Ytlanghikmccmbaa
/- varnum, the reference: numbers off bytes. -/
namespace Go.Proofs.Ytlanghikmccmbaa
open Go.ChangeShapes Go.WideShapes Go.ChangeAt Go.RowKit
set_option linter.unusedVariables false
set_option linter.unusedSimpArgs false

end Go.Proofs.Ytlanghikmccmbaa
/- varnum: the readers: Unfixed, wide, and the reference's Reader. -/
namespace Go.Proofs.Ytlanghikmccmbaa
open Go.ChangeShapes Go.WideShapes Go.ChangeAt Go.RowKit
set_option linter.unusedVariables false
set_option linter.unusedSimpArgs false

theorem getN_le (l : List UInt8) : (getN l).2.1 ≤ l.length := by
  have := scan_le l
  unfold getN
  split
  · exact Nat.zero_le _
  · split
    · exact Nat.zero_le _
    · split
      · show scan l + 1 ≤ l.length; omega
      · exact Nat.zero_le _
/-- What is left, the error, the number. -/
def numL (l : List UInt8) (e : Int) : List UInt8 := if e = 0 then l.drop (getN l).2.1 else l
def numE (l : List UInt8) (e : Int) : Int := if e = 0 then (getN l).2.2 else e
def numV (l : List UInt8) (e : Int) : Int := if e = 0 then (getN l).1 else 0
theorem sz_u8 : ∀ w, (Go.sizeOf 5).run Try.prog w = .ok 1 w := fun w => by
  obtain ⟨i0, hi, hz0, hz1, hz2⟩ := info_parts info_u8
  simp [Go.sizeOf, typeInfo, hi, hz1]
/-! ### a byte off -/
def fixL (l : List UInt8) (e : Int) : List UInt8 := if e = 0 then l.drop 1 else l
def fixE (l : List UInt8) (e : Int) : Int := if e = 0 then (match l with | [] => 3 | _ => 0) else e
def fixV (l : List UInt8) (e : Int) : Int := if e = 0 then (match l with | [] => 0 | b :: _ => b.toNat) else 0
end Go.Proofs.Ytlanghikmccmbaa
/- varnum: the reference's Text; the program's reader. -/
namespace Go.Proofs.Ytlanghikmccmbaa
open Go.ChangeShapes Go.WideShapes Go.ChangeAt Go.RowKit
set_option linter.unusedVariables false
set_option linter.unusedSimpArgs false

/-- What is left, the error, the text. -/
def txt (l : List UInt8) (e most : Int) : List UInt8 × Int × List UInt8 :=
  if numE l e ≠ 0 then (numL l e, numE l e, [])
  else if numV l e < 0 ∨ most < numV l e then (numL l e, 5, [])
  else if ((numL l e).length : Int) < numV l e then (numL l e, 3, [])
  else ((numL l e).drop (numV l e).toNat, 0, (numL l e).take (numV l e).toNat)
end Go.Proofs.Ytlanghikmccmbaa
/- Plain: numbers, texts, records, batches as bytes: what is laid is read. No program in sight. -/
namespace Go.Proofs.Ytlanghikmccmbaa
open Go.RowKit
set_option linter.unusedVariables false
set_option linter.unusedSimpArgs false

theorem u8_toNat (u : Nat) (h : u < 256) : (UInt8.ofNat u).toNat = u := by simp; omega
theorem scan_lay (r : List UInt8) (u : Nat) : scan (layN u ++ r) + 1 = (layN u).length := by
  induction u using Nat.strongRecOn with
  | _ u ih =>
    by_cases h : u < 128
    · rw [layN_small h]
      simp only [List.singleton_append, scan, u8_toNat u (by omega), if_pos h, List.length_singleton]
    · rw [layN_big (by omega)]
      simp only [List.cons_append, scan, List.length_cons]
      rw [u8_toNat _ (by omega), if_neg (by omega), ih (u / 128) (by omega)]
theorem valN_lay (u : Nat) : valN (layN u) = u := by
  induction u using Nat.strongRecOn with
  | _ u ih =>
    by_cases h : u < 128
    · rw [layN_small h]
      simp only [valN, u8_toNat u (by omega)]
      omega
    · rw [layN_big (by omega)]
      simp only [valN]
      rw [u8_toNat _ (by omega), ih (u / 128) (by omega)]
      omega
theorem zag_zig (n : Int) : zag (zig n) = n := by
  unfold zig zag
  split <;> split <;> omega
def I64 (n : Int) : Prop := -9223372036854775808 ≤ n ∧ n ≤ 9223372036854775807
theorem getN_put (n : Int) (hn : I64 n) (r : List UInt8) : getN (put n ++ r) = (n, (put n).length, 0) := by
  obtain ⟨z1, z2⟩ := zig_bd hn.1 hn.2
  have hs := scan_lay r (zig n).toNat
  have h10 := put_len hn.1 hn.2
  have hp := layN_pos (zig n).toNat
  have hl : (put n ++ r).length = (put n).length + r.length := List.length_append
  have e1 : scan (put n ++ r) + 1 = (put n).length := hs
  have e2 : (put n ++ r).take (scan (put n ++ r) + 1) = put n := by rw [e1]; exact List.take_left
  have e3 : valN (put n) % 18446744073709551616 = (zig n).toNat := by
    unfold put; rw [valN_lay]; omega
  unfold getN
  rw [if_neg (by omega), if_neg (by omega), e2, e3, if_pos (show layN (zig n).toNat = put n from rfl), e1, Int.toNat_of_nonneg z1, zag_zig]
theorem num_put (n : Int) (hn : I64 n) (r : List UInt8) : numL (put n ++ r) 0 = r ∧ numE (put n ++ r) 0 = 0 ∧ numV (put n ++ r) 0 = n := by
  unfold numL numE numV
  rw [if_pos rfl, if_pos rfl, if_pos rfl, getN_put n hn r]
  exact ⟨List.drop_left, rfl, rfl⟩
/-- A text's bytes. -/
def textL (s : List UInt8) : List UInt8 := put s.length ++ s
theorem text_str (s : List UInt8) : text (str s) = textL s := by unfold text textL; rw [str_size]; rfl
theorem txt_text (s : List UInt8) (most : Int) (hs : (s.length : Int) ≤ most) (hm : s.length ≤ 9223372036854775807) (r : List UInt8) : txt (textL s ++ r) 0 most = (r, 0, s) := by
  have h := num_put s.length ⟨by omega, by omega⟩ (s ++ r)
  unfold txt textL
  rw [List.append_assoc, h.1, h.2.1, h.2.2, if_neg (by simp), if_neg (by omega), if_neg (by rw [List.length_append]; omega)]
  simp

/-! ### records -/
structure Rec where
  delta : Int
  time : Int
  keyed : Bool
  key : List UInt8
  dead : Bool
  value : List UInt8
def Rec.zero : Rec := ⟨0, 0, false, [], false, []⟩
instance : Inhabited Rec := ⟨Rec.zero⟩
def recCells (r : Rec) : List Value := [.int .i64 r.delta, .int .i64 r.time, .bool r.keyed, .string (str r.key), .bool r.dead, .string (str r.value)]
theorem recCells_len (r : Rec) : (recCells r).length = 6 := rfl
def recCheck (r : Rec) : Int :=
  if r.delta < 0 ∨ 32 ≤ r.delta ∨ r.time < 0 ∨ 1099511627776 < r.time then 11
  else if 64 < r.key.length ∨ 512 < r.value.length then 5
  else if (r.keyed = false ∧ (r.key ≠ [] ∨ r.dead = true)) ∨ (r.dead = true ∧ r.value ≠ []) then 4
  else 0
def recFlag (r : Rec) : UInt8 := (if r.keyed then 1 else 0) + (if r.dead then 2 else 0)
def recBytes (r : Rec) : List UInt8 := recFlag r :: (put r.delta ++ (put r.time ++ ((if r.keyed then textL r.key else []) ++ (if r.dead then [] else textL r.value))))
/-- A record's bytes, and the error. -/
def recPut (r : Rec) : List UInt8 × Int := if recCheck r = 0 then (recBytes r, 0) else ([], recCheck r)
def Rec.wf (r : Rec) : Prop := I64 r.delta ∧ I64 r.time
/-- A record off a reader. -/
def recGet (l : List UInt8) (e : Int) : List UInt8 × Int × Rec × Int :=
  let f := fixV l e
  let l1 := fixL l e
  let e1 := fixE l e
  let l2 := numL l1 e1
  let e2 := numE l1 e1
  let l3 := numL l2 e2
  let e3 := numE l2 e2
  let p := if f % 2 = 1 then txt l3 e3 64 else (l3, e3, [])
  let q := if f / 2 % 2 = 0 then txt p.1 p.2.1 512 else (p.1, p.2.1, [])
  let r : Rec := ⟨numV l1 e1, numV l2 e2, decide (f % 2 = 1), p.2.2, decide (f / 2 % 2 = 1), q.2.2⟩
  if q.2.1 ≠ 0 then (q.1, q.2.1, Rec.zero, q.2.1)
  else if 3 < f ∨ recCheck r ≠ 0 then (q.1, q.2.1, Rec.zero, 4)
  else (q.1, q.2.1, r, 0)
theorem recCheck_ok {r : Rec} (h : recCheck r = 0) : (0 ≤ r.delta ∧ r.delta < 32 ∧ 0 ≤ r.time ∧ r.time ≤ 1099511627776) ∧ (r.key.length ≤ 64 ∧ r.value.length ≤ 512) ∧ (r.keyed = false → r.key = [] ∧ r.dead = false) ∧ (r.dead = true → r.value = []) := by
  unfold recCheck at h
  split at h
  · simp at h
  · split at h
    · simp at h
    · split at h
      · simp at h
      · rename_i h1 h2 h3
        refine ⟨by omega, by omega, fun hk => ?_, fun hd => ?_⟩
        · by_cases hkey : r.key = []
          · refine ⟨hkey, ?_⟩
            cases hd : r.dead with
            | false => rfl
            | true => exact absurd (Or.inl ⟨hk, .inr hd⟩) h3
          · exact absurd (Or.inl ⟨hk, .inl hkey⟩) h3
        · by_cases hv : r.value = []
          · exact hv
          · exact absurd (Or.inr ⟨hd, hv⟩) h3
theorem recPut_len (r : Rec) : (recPut r).1.length ≤ 640 := by
  unfold recPut
  split
  · rename_i h
    obtain ⟨h1, h2, _, _⟩ := recCheck_ok h
    have p1 := put_len (n := r.delta) (by omega) (by omega)
    have p2 := put_len (n := r.time) (by omega) (by omega)
    have p3 := put_len (n := (r.key.length : Int)) (by omega) (by omega)
    have p4 := put_len (n := (r.value.length : Int)) (by omega) (by omega)
    have e1 : (if r.keyed then textL r.key else []).length ≤ 74 := by split <;> simp [textL]; omega
    have e2 : (if r.dead then [] else textL r.value).length ≤ 522 := by split <;> simp [textL]; omega
    show (recBytes r).length ≤ 640
    unfold recBytes
    rw [List.length_cons, List.length_append, List.length_append, List.length_append]
    omega
  · simp
end Go.Proofs.Ytlanghikmccmbaa
