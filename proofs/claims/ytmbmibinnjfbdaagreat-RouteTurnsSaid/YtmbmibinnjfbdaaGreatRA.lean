/- Routes: the checksum of bytes: half, More, Of (of check); many, Of (of route). -/
import Derived.Test.YtmbmibinnjfbdaaGreatMB
import Derived.Test.YtmbmibinnjfbdaaGreatMD
namespace Go.Proofs.YtmbmibinnjfbdaaGreat
open Go.ChangeShapes Go.WideShapes Go.ChangeAt Go.RowKit
set_option linter.unusedVariables false
set_option linter.unusedSimpArgs false

theorem u64_in (n : Int) : 0 ≤ IntKind.u64.wrap n ∧ IntKind.u64.wrap n < 18446744073709551616 := by rw [IntKind.wrap_u64]; omega
/-- A step of the checksum's register. -/
def halfS (c : Int) : Int := bits .xor .u64 (c / 2) (bits .and .u64 14514072000185962306 (IntKind.u64.wrap (-bits .and .u64 c 1)))
def halfN : Nat → Int → Int
  | 0, c => c
  | k + 1, c => halfS (halfN k c)
theorem bits_in (op : BinOp) (hop : op = .xor ∨ op = .and) (a b : Int) : 0 ≤ bits op .u64 a b ∧ bits op .u64 a b < 18446744073709551616 := by
  rcases hop with rfl | rfl <;> exact u64_in _
theorem halfS_in (c : Int) : 0 ≤ halfS c ∧ halfS c < 18446744073709551616 := bits_in .xor (.inl rfl) _ _
theorem halfN_in (c : Int) (h0 : 0 ≤ c) (h1 : c < 18446744073709551616) : ∀ k, 0 ≤ halfN k c ∧ halfN k c < 18446744073709551616
  | 0 => ⟨h0, h1⟩
  | k + 1 => halfS_in _
set_option maxRecDepth 100000 in
set_option maxHeartbeats 400000 in
theorem half_any (c : Int) (h0 : 0 ≤ c) (h1 : c < 18446744073709551616) (w : World) : Calls Tryz.prog 44 #[.int .u64 c] w fun e w' => e = .returned (.int .u64 (halfN 4 c)) ∧ w = w' := by
  refine calls_wd ?_
  go_enter Tryz.func44, Tryz.ntmps44
  go_wp2
  go_loopw [0, 3] (fun cv i wr => ∃ (k : Nat), k ≤ 4 ∧ i = .int .i64 k ∧ cv = .int .u64 (halfN k c) ∧ wr = wd w [] w.drawn) (fun _ i _ => 4 - (intOf i).toNat)
  case atStart => exact ⟨0, Nat.zero_le _, rfl, rfl, rfl⟩
  case round =>
    obtain ⟨k, hk, rfl, rfl, rfl⟩ := hrel
    obtain ⟨b0, b1⟩ := halfN_in c h0 h1 k
    by_cases hlt : k < 4
    · go_wp2
      go_roundw
      case rel => exact ⟨k + 1, by omega, by go_num, rfl, trivial⟩
      case measure => simp [intOf]; omega
    · have HK : Hid (halfN k c = halfN 4 c) := Lib.hid (by rw [show k = 4 by omega])
      go_wp2
      refine bodyPost_ret (v := .int .u64 (halfN k c)) (by simp [results, Tryz.results44, go_sem]) rfl ⟨ret_i HK.out, rfl⟩
/-- The checksum's register behind bytes. -/
def moreS (c : Int) (x : UInt8) : Int := halfN 4 (halfN 4 (bits .xor .u64 c (x.toNat : Int)))
def moreF (c : Int) (l : List UInt8) : Int := l.foldl moreS c
theorem moreF_in (c : Int) (h : 0 ≤ c ∧ c < 18446744073709551616) (l : List UInt8) : 0 ≤ moreF c l ∧ moreF c l < 18446744073709551616 := by
  induction l generalizing c with
  | nil => exact h
  | cons x l ih =>
    refine ih _ ?_
    obtain ⟨a0, a1⟩ := bits_in .xor (.inl rfl) c (x.toNat : Int)
    obtain ⟨b0, b1⟩ := halfN_in _ a0 a1 4
    exact halfN_in _ b0 b1 4
theorem moreF_snoc (c : Int) (l : List UInt8) (x : UInt8) : moreF c (l ++ [x]) = moreS (moreF c l) x := by simp [moreF]
theorem half_xor (c x : Int) : 0 ≤ halfN 4 (bits .xor .u64 c x) ∧ halfN 4 (bits .xor .u64 c x) < 18446744073709551616 := by
  obtain ⟨a0, a1⟩ := bits_in .xor (.inl rfl) c x
  exact halfN_in _ a0 a1 4
def notU (x : Int) : Int := bits .xor .u64 IntKind.u64.max x
def crcF (l : List UInt8) : Int := notU (moreF (notU 0) l)
theorem crcF_in (l : List UInt8) : 0 ≤ crcF l ∧ crcF l < 18446744073709551616 := bits_in .xor (.inl rfl) _ _
set_option maxRecDepth 100000 in
set_option maxHeartbeats 1600000 in
theorem more_any (v : Value) (l : List UInt8) (w : World) (hv : RB w v l) : Calls Tryz.prog 27 #[.int .u64 0, v] w fun e w' => e = .returned (.int .u64 (crcF l)) ∧ w = w' := by
  have HV := Lib.hid hv
  obtain ⟨a, cap, rfl, hcap, hm, hc⟩ := hv
  have hm' : cap ≤ 9223372036854775807 := hm
  refine calls_wd ?_
  go_enter Tryz.func27, Tryz.ntmps27
  go_wp2
  go_loopw [5, 12] (fun cv i wr => ∃ (k : Nat), k ≤ l.length ∧ i = .int .i64 k ∧ cv = .int .u64 (moreF (notU 0) (l.take k)) ∧ wr = wd w [] w.drawn) (fun _ i _ => l.length - (intOf i).toNat)
  case atStart => exact ⟨0, Nat.zero_le _, rfl, rfl, rfl⟩
  case round =>
    obtain ⟨k, hk, rfl, rfl, rfl⟩ := hrel
    obtain ⟨b0, b1⟩ := moreF_in (notU 0) (bits_in .xor (.inl rfl) _ _) (l.take k)
    by_cases hlt : k < l.length
    · obtain ⟨x, hx⟩ : ∃ x, l[k]? = some x := ⟨_, List.getElem?_eq_getElem hlt⟩
      obtain ⟨b, off, rfl, hb, hcell⟩ := hc (fun e => by rw [e] at hlt; simp at hlt)
      have c0 : w.cell? ⟨b, off + k, none⟩ = some (.int .u8 x.toNat) := by rw [hcell k hlt, bc_get, hx]; rfl
      have HX := Lib.hid hx
      clear hx hcell hc
      have hx8 : x.toNat < 256 := x.toNat_lt
      have HT : Hid (moreF (notU 0) (l.take (k + 1)) = halfN 4 (halfN 4 (bits .xor .u64 (moreF (notU 0) (l.take k)) (x.toNat : Int)))) := Lib.hid (by
        obtain ⟨hlt', he⟩ := List.getElem?_eq_some_iff.1 HX.out
        rw [List.take_add_one, HX.out]; exact moreF_snoc _ _ _)
      go_wp2_with (first | (go_at_call 44; ((with_reducible refine (half_any _ (bits_in .xor (.inl rfl) _ _).1 (bits_in .xor (.inl rfl) _ _).2 _).mono ?_); rintro e w1 ⟨rfl, rfl⟩)) | (go_at_call 44; ((with_reducible refine (half_any _ (half_xor _ _).1 (half_xor _ _).2 _).mono ?_); rintro e w1 ⟨rfl, rfl⟩)))
      go_roundw
      case rel => exact ⟨k + 1, by omega, by go_num, by rw [HT.out], trivial⟩
      case measure => simp [intOf]; omega
    · have HK : Hid (l.take k = l) := Lib.hid (List.take_of_length_le (by omega))
      have HR : Hid (bits .xor .u64 IntKind.u64.max (moreF (notU 0) (l.take k)) = crcF l) := Lib.hid (by rw [HK.out]; rfl)
      go_wp2
      refine bodyPost_ret (v := .int .u64 (bits .xor .u64 IntKind.u64.max (moreF (notU 0) (l.take k)))) (by simp [results, Tryz.results27, go_sem]) rfl ⟨ret_i HR.out, rfl⟩
theorem cof_any (v : Value) (l : List UInt8) (w : World) (hv : RB w v l) : Calls Tryz.prog 20 #[v] w fun e w' => e = .returned (.int .u64 (crcF l)) ∧ w = w' := by
  have HV := Lib.hid hv
  obtain ⟨a, cap, rfl, hcap, hm, hc⟩ := hv
  refine calls_wd ?_
  go_enter Tryz.func20, Tryz.ntmps20
  go_wp2_with (first | (go_at_call 27; ((with_reducible refine (more_any _ l _ (HV.out.more (more_wd _ _ _))).mono ?_); rintro e w1 ⟨rfl, rfl⟩)))
  go_ret
  exact ⟨rfl, rfl⟩
/-- Parts that count. -/
def manyF (n : Int) : Int := max 1 (min n 8)
theorem manyF_in (n : Int) : 1 ≤ manyF n ∧ manyF n ≤ 8 := by unfold manyF; omega
theorem many_any (n : Int) (w : World) : Calls Tryz.prog 13 #[.int .i64 n] w fun e w' => e = .returned (.int .i64 (manyF n)) ∧ w = w' := by
  refine calls_wd ?_
  go_enter Tryz.func13, Tryz.ntmps13
  go_wp2
  all_goals
    go_ret
    exact ⟨ret_i (by unfold manyF; omega), rfl⟩
/-- A key's part. -/
def ofF (key : List UInt8) (n : Int) : Int := crcF key % manyF n
theorem ofF_in (key : List UInt8) (n : Int) : 0 ≤ ofF key n ∧ ofF key n < manyF n := by
  have := manyF_in n
  exact ⟨Int.emod_nonneg _ (by omega), Int.emod_lt_of_pos _ (by omega)⟩
set_option maxHeartbeats 400000 in
theorem of_any (key : List UInt8) (n : Int) (hl : key.length ≤ 1099511627776) (w : World) : Calls Tryz.prog 11 #[.string (str key), .int .i64 n] w fun e w' => e = .returned (.int .i64 (ofF key n)) ∧ More w w' := by
  obtain ⟨m0, m1⟩ := manyF_in n
  obtain ⟨c0, c1⟩ := crcF_in key
  obtain ⟨o0, o1⟩ := ofF_in key n
  refine calls_wd ?_
  go_enter Tryz.func11, Tryz.ntmps11
  go_wp2_with (first
    | (show wpList _ _ _ (⟨_, .convert 9 66 _, _, _, _, _⟩ :: _) _ _; refine at_conv rfl _ rfl rfl hl ?_; intro ad cap mm hrb; have HB := Lib.hid hrb; clear hrb)
    | (go_at_call 20; ((with_reducible refine (cof_any _ key _ (HB.out _)).mono ?_); rintro e w1 ⟨rfl, rfl⟩)) | (go_at_call 13; ((with_reducible refine (many_any n _).mono ?_); rintro e w1 ⟨rfl, rfl⟩)))
  go_ret
  exact ⟨ret_i (by show wrap64 (ofF key n) = ofF key n; first | go_num | (rw [wrap64_id (by omega) (by omega)]) | (unfold wrap64; omega)), more_wd _ _ _⟩
end Go.Proofs.YtmbmibinnjfbdaaGreat
