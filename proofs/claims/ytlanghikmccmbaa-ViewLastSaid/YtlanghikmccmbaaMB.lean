/- varnum: numbers as bytes: the plain functions, and the walks of zigzag, lay, Put. -/
import Derived.Test.YtlanghikmccmbaaMA
import Derived.Lib.Zigzag
import Derived.Laws.BitsAllLaws
import Derived.Lib.Strings
namespace Go.Proofs.Ytlanghikmccmbaa
open Go.ChangeShapes Go.WideShapes Go.ChangeAt Go.RowKit
set_option linter.unusedVariables false
set_option linter.unusedSimpArgs false

def zig (n : Int) : Int := if 0 ≤ n then 2 * n else -2 * n - 1
theorem zig_bd {n : Int} (h1 : -9223372036854775808 ≤ n) (h2 : n ≤ 9223372036854775807) : 0 ≤ zig n ∧ zig n ≤ 18446744073709551615 := by unfold zig; split <;> omega
theorem xor0 (x : Int) (h0 : 0 ≤ x) (h1 : x < 18446744073709551616) : bits .xor .u64 x 0 = x := by
  have := Go.u64_xor x 0 h0 h1 (by decide) (by decide)
  simpa [Int.toNat_of_nonneg h0] using this
theorem xor1 (x : Int) (h0 : 0 ≤ x) (h1 : x < 18446744073709551616) : bits .xor .u64 x 18446744073709551615 = 18446744073709551615 - x := by
  have := Go.u64_xor x 18446744073709551615 h0 h1 (by decide) (by decide)
  rw [this, Nat.xor_comm, show (18446744073709551615 : Int).toNat = 2 ^ 64 - 1 by decide, Lib.xor_ones64 _ (by omega)]
  omega
set_option maxRecDepth 100000 in
set_option maxHeartbeats 400000 in
theorem zig_any (n : Int) (h1 : -9223372036854775808 ≤ n) (h2 : n ≤ 9223372036854775807) (w : World) : Calls Try.prog 71 #[.int .i64 n] w fun e w' => e = .returned (.int .u64 (zig n)) ∧ w = w' := by
  by_cases h : 0 ≤ n
  · have HZ : Hid (bits .xor .u64 (n * 2) (n / 9223372036854775808) = zig n) := Lib.hid (by
      rw [show n / 9223372036854775808 = 0 by omega, xor0 _ (by omega) (by omega)]; unfold zig; rw [if_pos h]; omega)
    go_enter Try.func71, Try.ntmps71
    go_wp2
    go_ret
    exact ⟨ret_i HZ.out, rfl⟩
  · go_enter Try.func71, Try.ntmps71
    go_wp2
    go_ret
    exact ⟨ret_i (by rw [IntKind.wrap_u64 n, IntKind.wrap_u64, IntKind.wrap_u64, show (n / 9223372036854775808) % 18446744073709551616 = 18446744073709551615 by omega, xor1 _ (by omega) (by omega)]; unfold zig; rw [if_neg (by omega)]; omega), rfl⟩
/-! ### a number without a sign -/
def layN (u : Nat) : List UInt8 := if u < 128 then [UInt8.ofNat u] else UInt8.ofNat (u % 128 + 128) :: layN (u / 128)
termination_by u
decreasing_by omega
theorem layN_small {u : Nat} (h : u < 128) : layN u = [UInt8.ofNat u] := by rw [layN, if_pos h]
theorem layN_big {u : Nat} (h : 128 ≤ u) : layN u = UInt8.ofNat (u % 128 + 128) :: layN (u / 128) := by rw [layN, if_neg (by omega)]
theorem layN_len : ∀ (k u : Nat), u < 128 ^ (k + 1) → (layN u).length ≤ k + 1
  | 0, u, h => by rw [layN_small (by simpa using h)]; simp
  | k + 1, u, h => by
    by_cases hu : u < 128
    · rw [layN_small hu]; simp
    · rw [layN_big (by omega), List.length_cons]
      have := layN_len k (u / 128) (by rw [Nat.div_lt_iff_lt_mul (by decide)]; rw [Nat.pow_succ] at h; exact h)
      omega
theorem layN_ten {u : Nat} (h : u < 18446744073709551616) : (layN u).length ≤ 10 := layN_len 9 u (by omega)
theorem layN_pos (u : Nat) : 1 ≤ (layN u).length := by
  by_cases h : u < 128
  · rw [layN_small h]; simp
  · rw [layN_big (by omega)]; simp
def put (n : Int) : List UInt8 := layN (zig n).toNat
set_option maxRecDepth 100000 in
theorem or128 : ∀ y : Nat, y < 256 → y ||| 128 = y % 128 + 128 := by decide
theorem byte_more (x : Nat) : bits .or .u8 (IntKind.u8.wrap (x : Int)) 128 = ((UInt8.ofNat (x % 128 + 128)).toNat : Int) := by
  rw [IntKind.wrap_u8, show ((x : Int) % 256) = ((x % 256 : Nat) : Int) by omega]
  have := u8_or ((x % 256 : Nat) : Int) 128 (by omega) (by omega) (by decide) (by decide)
  rw [this, Int.toNat_natCast, show (128 : Int).toNat = 128 by decide, or128 _ (by omega)]
  simp
  omega
theorem byte_last (x : Nat) (h : x < 128) : IntKind.u8.wrap (x : Int) = ((UInt8.ofNat x).toNat : Int) := by
  rw [IntKind.wrap_u8]; simp
theorem info_u8 : (Try.prog.info? 5).map (fun i => (i.zero, i.size, i.bytes)) = some (some (.int .u8 0), 1, 1) := by kernel_rfl
abbrev BMade (w w' : World) (v : Value) (l : List UInt8) : Prop := Made w w' 5 1 v l.length (Lib.byteCells l)
theorem snoc_byte (pre : List UInt8) (b : UInt8) (n : Int) (h : n = b.toNat) : Lib.byteCells pre ++ [Value.int .u8 n] = Lib.byteCells (pre ++ [b]) := by subst h; simp [Lib.byteCells]
theorem row_bytes {B : Nat} {S : List Nat} {e : Array Obj} {v : Value} {n : Nat} {xs : List Value} (h : rowIn B S e 5 1 v n xs) (l : List UInt8) (hx : xs = Lib.byteCells l) : rowIn B S e 5 1 v l.length (Lib.byteCells l) := by
  subst hx
  have h1 := h.1
  rw [bc_len, Nat.mul_one] at h1
  rw [h1]; exact h
theorem bmade {w : World} {e : Array Obj} {v : Value} {n k : Nat} {xs : List Value} (h : rowIn w.heap.size [] e 5 1 v n xs) (l : List UInt8) (hx : xs = Lib.byteCells l) : BMade w (wd w [e] k) v l := made_of (row_bytes h l hx)
set_option maxRecDepth 100000 in
set_option maxHeartbeats 1600000 in
theorem lay_any (u : Nat) (hu : u < 18446744073709551616) (w : World) : Calls Try.prog 70 #[.int .u64 u] w fun e w' => ∃ v, e = .returned v ∧ BMade w w' v (layN u) := by
  obtain ⟨i0, hi, hz0, hz1, hz2⟩ := info_parts info_u8
  have hlen := layN_ten hu
  refine calls_wd ?_
  go_enter Try.func70, Try.ntmps70
  go_wp2
  go_loopw [0, 3] (fun x b wr => ∃ (k : Nat) (pre : List UInt8) (m : Ext), x = .int .u64 k ∧ k < 18446744073709551616 ∧ pre ++ layN k = layN u ∧ rowIn w.heap.size [] m.e 5 1 b pre.length (Lib.byteCells pre) ∧ wr = wd w [m.e] m.n) (fun x _ _ => (intOf x).toNat)
  case atStart => exact ⟨u, [], ⟨#[], w.drawn⟩, rfl, hu, rfl, rowIn_nil _ _ _ _ _, (wd_empty _ _ _).symm⟩
  case round =>
    obtain ⟨k, pre, m, rfl, hk, hp, hrow, rfl⟩ := hrel
    have hpl : pre.length + (layN k).length ≤ 10 := by rw [← List.length_append, hp]; exact hlen
    have hl1 := layN_pos k
    have HROW := Lib.hid hrow
    have HP := Lib.hid hp
    clear hrow hp
    by_cases hlt : k < 128
    · have HB := Lib.hid (byte_last k hlt)
      go_wp2_with (at_builtin; refine wp_append_row (L := []) rfl _ _ _ rfl 5 i0 _ 1 1 Try.underlying48 hi hz0 hz1 hz2 rfl (by decide) _ _ _ rfl HROW.out _ _ 1 1 rfl rfl (by simp [Value.oneCell']) (by unfold maxLen; omega) (by omega) ?_; intro v' m' hrow')
      go_ret
      exact ⟨_, rfl, bmade hrow' _ (by rw [← HP.out, layN_small hlt]; exact snoc_byte _ _ _ (by simp; omega))⟩
    · have HB := Lib.hid (byte_more k)
      go_wp2_with (at_builtin; refine wp_append_row (L := []) rfl _ _ _ rfl 5 i0 _ 1 1 Try.underlying48 hi hz0 hz1 hz2 rfl (by decide) _ _ _ rfl HROW.out _ _ 1 1 rfl rfl (by simp [Value.oneCell']) (by unfold maxLen; omega) (by omega) ?_; intro v' m' hrow')
      go_roundw
      case rel => exact ⟨k / 128, pre ++ [UInt8.ofNat (k % 128 + 128)], m', by go_num, by omega, by rw [List.append_assoc, List.singleton_append, ← layN_big (by omega), HP.out], row_bytes hrow' _ (snoc_byte _ _ _ HB.out), rfl⟩
      case measure => simp [intOf]; omega
theorem lay_int (z : Int) (h0 : 0 ≤ z) (h1 : z ≤ 18446744073709551615) (w : World) : Calls Try.prog 70 #[.int .u64 z] w fun e w' => ∃ v, e = .returned v ∧ BMade w w' v (layN z.toNat) := by
  have h := lay_any z.toNat (by omega) w
  rwa [Int.toNat_of_nonneg h0] at h
set_option maxRecDepth 100000 in
set_option maxHeartbeats 400000 in
theorem put_any (n : Int) (h1 : -9223372036854775808 ≤ n) (h2 : n ≤ 9223372036854775807) (w : World) : Calls Try.prog 43 #[.int .i64 n] w fun e w' => ∃ v, e = .returned v ∧ BMade w w' v (put n) := by
  obtain ⟨z1, z2⟩ := zig_bd h1 h2
  refine calls_wd ?_
  go_enter Try.func43, Try.ntmps43
  go_wp2_with (first | (go_at_call 71; ((with_reducible refine (zig_any n h1 h2 _).mono ?_); rintro e w1 ⟨rfl, rfl⟩)) | (go_at_call 70; ((with_reducible refine (lay_int _ z1 z2 _).mono ?_); rintro e w1 ⟨v1, rfl, x1⟩; obtain ⟨m1, rfl, hr1⟩ := x1.wd; clear x1)))
  go_ret
  exact ⟨_, rfl, bmade hr1 _ rfl⟩
def text (s : ByteArray) : List UInt8 := put s.size ++ s.data.toList
theorem put_len {n : Int} (h1 : -9223372036854775808 ≤ n) (h2 : n ≤ 9223372036854775807) : (put n).length ≤ 10 := by
  obtain ⟨z1, z2⟩ := zig_bd h1 h2
  exact layN_ten (by omega)
set_option maxRecDepth 100000 in
set_option maxHeartbeats 400000 in
theorem text_any (s : ByteArray) (hs : s.size ≤ 1099511627776) (w : World) : Calls Try.prog 45 #[.string s] w fun e w' => ∃ v, e = .returned v ∧ BMade w w' v (text s) := by
  obtain ⟨i0, hi, hz0, hz1, hz2⟩ := info_parts info_u8
  have b1 : -9223372036854775808 ≤ (s.size : Int) := by omega
  have b2 : (s.size : Int) ≤ 9223372036854775807 := by omega
  have hl := put_len b1 b2
  refine calls_wd ?_
  go_enter Try.func45, Try.ntmps45
  go_wp2_with (first
    | (go_at_call 43; ((with_reducible refine (put_any s.size b1 b2 _).mono ?_); rintro e w1 ⟨v1, rfl, x1⟩; obtain ⟨m1, rfl, hr1⟩ := x1.wd; clear x1))
    | (at_builtin; refine wp_append_str (L := []) rfl _ _ _ _ rfl 5 i0 Try.underlying48 Try.underlying9 hi hz0 hz1 hz2 rfl v1 _ _ rfl hr1 s rfl (by unfold maxLen; omega) (by omega) ?_; intro v2 m2 hr2))
  go_ret
  exact ⟨_, rfl, bmade hr2 _ (bc_append _ _).symm⟩
end Go.Proofs.Ytlanghikmccmbaa
/- varnum: numbers off bytes: zagzig, Get (program and reference), bytes.Equal. -/
namespace Go.Proofs.Ytlanghikmccmbaa
open Go.ChangeShapes Go.WideShapes Go.ChangeAt Go.RowKit
set_option linter.unusedVariables false
set_option linter.unusedSimpArgs false

def zag (u : Int) : Int := if u % 2 = 0 then u / 2 else -(u / 2) - 1
theorem ret_b {a b : Bool} (h : a = b) : Ending.returned (.bool a) = .returned (.bool b) := by rw [h]
/-! ### a number off bytes -/
/-- The first byte of no more to come. -/
def scan : List UInt8 → Nat
  | [] => 0
  | b :: r => if b.toNat < 128 then 0 else scan r + 1
def valN : List UInt8 → Nat
  | [] => 0
  | b :: r => b.toNat % 128 + 128 * valN r
/-- What a number's reading answers: the number, how many bytes, the error. -/
def getN (l : List UInt8) : Int × Nat × Int :=
  if 10 ≤ scan l then (0, 0, 4)
  else if scan l = l.length then (0, 0, 3)
  else if layN (valN (l.take (scan l + 1)) % 18446744073709551616) = l.take (scan l + 1) then (zag (valN (l.take (scan l + 1)) % 18446744073709551616 : Nat), scan l + 1, 0)
  else (0, 0, 4)
abbrev getV (l : List UInt8) : Value := .tuple #[.int .i64 (getN l).1, .int .i64 (getN l).2.1, .int .i64 (getN l).2.2]
end Go.Proofs.Ytlanghikmccmbaa
/- varnum, the reference: numbers off bytes. -/
namespace Go.Proofs.Ytlanghikmccmbaa
open Go.ChangeShapes Go.WideShapes Go.ChangeAt Go.RowKit
set_option linter.unusedVariables false
set_option linter.unusedSimpArgs false

end Go.Proofs.Ytlanghikmccmbaa
/- varnum: the readers: Unfixed, wide, and the reference's Reader. -/
namespace Go.Proofs.Ytlanghikmccmbaa
open Go.ChangeShapes Go.WideShapes Go.ChangeAt Go.RowKit
set_option linter.unusedVariables false
set_option linter.unusedSimpArgs false

/-- What is left, the error, the number. -/
def numL (l : List UInt8) (e : Int) : List UInt8 := if e = 0 then l.drop (getN l).2.1 else l
def numE (l : List UInt8) (e : Int) : Int := if e = 0 then (getN l).2.2 else e
def numV (l : List UInt8) (e : Int) : Int := if e = 0 then (getN l).1 else 0
/-! ### a byte off -/
def fixL (l : List UInt8) (e : Int) : List UInt8 := if e = 0 then l.drop 1 else l
def fixE (l : List UInt8) (e : Int) : Int := if e = 0 then (match l with | [] => 3 | _ => 0) else e
def fixV (l : List UInt8) (e : Int) : Int := if e = 0 then (match l with | [] => 0 | b :: _ => b.toNat) else 0
end Go.Proofs.Ytlanghikmccmbaa
/- varnum: the reference's Text; the program's reader. -/
namespace Go.Proofs.Ytlanghikmccmbaa
open Go.ChangeShapes Go.WideShapes Go.ChangeAt Go.RowKit
set_option linter.unusedVariables false
set_option linter.unusedSimpArgs false

/-- What is left, the error, the text. -/
def txt (l : List UInt8) (e most : Int) : List UInt8 × Int × List UInt8 :=
  if numE l e ≠ 0 then (numL l e, numE l e, [])
  else if numV l e < 0 ∨ most < numV l e then (numL l e, 5, [])
  else if ((numL l e).length : Int) < numV l e then (numL l e, 3, [])
  else ((numL l e).drop (numV l e).toNat, 0, (numL l e).take (numV l e).toNat)
end Go.Proofs.Ytlanghikmccmbaa
/- Plain: numbers, texts, records, batches as bytes: what is laid is read. No program in sight. -/
namespace Go.Proofs.Ytlanghikmccmbaa
open Go.RowKit
set_option linter.unusedVariables false
set_option linter.unusedSimpArgs false

def I64 (n : Int) : Prop := -9223372036854775808 ≤ n ∧ n ≤ 9223372036854775807
/-- A text's bytes. -/
def textL (s : List UInt8) : List UInt8 := put s.length ++ s
theorem text_str (s : List UInt8) : text (str s) = textL s := by unfold text textL; rw [str_size]; rfl
/-! ### records -/
structure Rec where
  delta : Int
  time : Int
  keyed : Bool
  key : List UInt8
  dead : Bool
  value : List UInt8
def Rec.zero : Rec := ⟨0, 0, false, [], false, []⟩
instance : Inhabited Rec := ⟨Rec.zero⟩
def recCells (r : Rec) : List Value := [.int .i64 r.delta, .int .i64 r.time, .bool r.keyed, .string (str r.key), .bool r.dead, .string (str r.value)]
theorem recCells_len (r : Rec) : (recCells r).length = 6 := rfl
def recCheck (r : Rec) : Int :=
  if r.delta < 0 ∨ 32 ≤ r.delta ∨ r.time < 0 ∨ 1099511627776 < r.time then 11
  else if 64 < r.key.length ∨ 512 < r.value.length then 5
  else if (r.keyed = false ∧ (r.key ≠ [] ∨ r.dead = true)) ∨ (r.dead = true ∧ r.value ≠ []) then 4
  else 0
def recFlag (r : Rec) : UInt8 := (if r.keyed then 1 else 0) + (if r.dead then 2 else 0)
def recBytes (r : Rec) : List UInt8 := recFlag r :: (put r.delta ++ (put r.time ++ ((if r.keyed then textL r.key else []) ++ (if r.dead then [] else textL r.value))))
/-- A record's bytes, and the error. -/
def recPut (r : Rec) : List UInt8 × Int := if recCheck r = 0 then (recBytes r, 0) else ([], recCheck r)
def Rec.wf (r : Rec) : Prop := I64 r.delta ∧ I64 r.time
/-- A record off a reader. -/
def recGet (l : List UInt8) (e : Int) : List UInt8 × Int × Rec × Int :=
  let f := fixV l e
  let l1 := fixL l e
  let e1 := fixE l e
  let l2 := numL l1 e1
  let e2 := numE l1 e1
  let l3 := numL l2 e2
  let e3 := numE l2 e2
  let p := if f % 2 = 1 then txt l3 e3 64 else (l3, e3, [])
  let q := if f / 2 % 2 = 0 then txt p.1 p.2.1 512 else (p.1, p.2.1, [])
  let r : Rec := ⟨numV l1 e1, numV l2 e2, decide (f % 2 = 1), p.2.2, decide (f / 2 % 2 = 1), q.2.2⟩
  if q.2.1 ≠ 0 then (q.1, q.2.1, Rec.zero, q.2.1)
  else if 3 < f ∨ recCheck r ≠ 0 then (q.1, q.2.1, Rec.zero, 4)
  else (q.1, q.2.1, r, 0)
theorem recCheck_ok {r : Rec} (h : recCheck r = 0) : (0 ≤ r.delta ∧ r.delta < 32 ∧ 0 ≤ r.time ∧ r.time ≤ 1099511627776) ∧ (r.key.length ≤ 64 ∧ r.value.length ≤ 512) ∧ (r.keyed = false → r.key = [] ∧ r.dead = false) ∧ (r.dead = true → r.value = []) := by
  unfold recCheck at h
  split at h
  · simp at h
  · split at h
    · simp at h
    · split at h
      · simp at h
      · rename_i h1 h2 h3
        refine ⟨by omega, by omega, fun hk => ?_, fun hd => ?_⟩
        · by_cases hkey : r.key = []
          · refine ⟨hkey, ?_⟩
            cases hd : r.dead with
            | false => rfl
            | true => exact absurd (Or.inl ⟨hk, .inr hd⟩) h3
          · exact absurd (Or.inl ⟨hk, .inl hkey⟩) h3
        · by_cases hv : r.value = []
          · exact hv
          · exact absurd (Or.inr ⟨hd, hv⟩) h3
theorem recPut_len (r : Rec) : (recPut r).1.length ≤ 640 := by
  unfold recPut
  split
  · rename_i h
    obtain ⟨h1, h2, _, _⟩ := recCheck_ok h
    have p1 := put_len (n := r.delta) (by omega) (by omega)
    have p2 := put_len (n := r.time) (by omega) (by omega)
    have p3 := put_len (n := (r.key.length : Int)) (by omega) (by omega)
    have p4 := put_len (n := (r.value.length : Int)) (by omega) (by omega)
    have e1 : (if r.keyed then textL r.key else []).length ≤ 74 := by split <;> simp [textL]; omega
    have e2 : (if r.dead then [] else textL r.value).length ≤ 522 := by split <;> simp [textL]; omega
    show (recBytes r).length ≤ 640
    unfold recBytes
    rw [List.length_cons, List.length_append, List.length_append, List.length_append]
    omega
  · simp
end Go.Proofs.Ytlanghikmccmbaa
