/- The checksum of bytes: check.half and check.More, as numbers. -/
import Derived.Test.YtifoekadjnlhcaaGreatDoorMA
import Derived.Lib.Zigzag
import Derived.Laws.BitsAllLaws
import Derived.Test.YtifoekadjnlhcaaGreatDoorEK
namespace Go.Proofs.YtifoekadjnlhcaaGreatDoor
open Go.ChangeShapes Go.WideShapes Go.ChangeAt Go.RowKit
set_option linter.unusedVariables false
set_option linter.unusedSimpArgs false
def hK (c : Nat) : Nat := Nat.xor (Nat.div c 2) (Nat.mul 14514072000185962306 (Nat.mod c 2))
theorem hK_lt (c : Nat) (h : c < 18446744073709551616) : hK c < 18446744073709551616 := by
  show (c / 2) ^^^ (14514072000185962306 * (c % 2)) < 2 ^ 64
  refine Nat.xor_lt_two_pow (by omega) (by omega)
theorem neg_and (c : Nat) (h : c < 18446744073709551616) : bits .and .u64 14514072000185962306 (IntKind.u64.wrap (-bits .and .u64 (c : Int) 1)) = ((14514072000185962306 * (c % 2) : Nat) : Int) := by
  have e1 : bits .and .u64 (c : Int) 1 = ((c % 2 : Nat) : Int) := by
    have := u64_and_nat c 1 h (by decide)
    rw [Nat.and_one_is_mod] at this
    exact this
  rw [e1, IntKind.wrap_u64]
  rcases Nat.mod_two_eq_zero_or_one c with h0 | h0
  · rw [h0]
    exact (u64_and_nat 14514072000185962306 0 (by decide) (by decide)).trans (by rw [Nat.and_zero])
  · rw [h0]
    have := u64_and_nat 14514072000185962306 18446744073709551615 (by decide) (by decide)
    rw [show (14514072000185962306 &&& 18446744073709551615 : Nat) = 14514072000185962306 by decide] at this
    exact this
theorem half_step (c : Nat) (h : c < 18446744073709551616) : bits .xor .u64 ((c : Int) / 2) (bits .and .u64 14514072000185962306 (IntKind.u64.wrap (-bits .and .u64 (c : Int) 1))) = ((hK c : Nat) : Int) := by
  rw [neg_and c h, show ((c : Int) / 2) = ((c / 2 : Nat) : Int) by omega]
  exact u64_xor_nat _ _ (by omega) (by omega)
def hN : Nat → Nat → Nat
  | 0, c => c
  | k + 1, c => hK (hN k c)
theorem hN_lt (c : Nat) (h : c < 18446744073709551616) : ∀ k, hN k c < 18446744073709551616
  | 0 => h
  | k + 1 => hK_lt _ (hN_lt c h k)
set_option maxRecDepth 100000 in
set_option maxHeartbeats 400000 in
theorem half_nat (c : Nat) (h : c < 18446744073709551616) (w : World) : Calls Tryz.prog 385 #[.int .u64 (c : Int)] w fun e w' => e = .returned (.int .u64 ((hN 4 c : Nat) : Int)) ∧ w = w' := by
  refine calls_wd ?_
  go_enter Tryz.func385, Tryz.ntmps385
  go_wp2
  go_loopw [0, 3] (fun cv i wr => ∃ (k : Nat), k ≤ 4 ∧ i = .int .i64 k ∧ cv = .int .u64 ((hN k c : Nat) : Int) ∧ wr = wd w [] w.drawn) (fun _ i _ => 4 - (intOf i).toNat)
  case atStart => exact ⟨0, Nat.zero_le _, rfl, rfl, rfl⟩
  case round =>
    obtain ⟨k, hk, rfl, rfl, rfl⟩ := hrel
    have hb := hN_lt c h k
    by_cases hlt : k < 4
    · have HS := Lib.hid (half_step (hN k c) hb)
      go_wp2
      go_roundw
      case rel => exact ⟨k + 1, by omega, by go_num, by rw [HS.out]; rfl, trivial⟩
      case measure => simp [intOf]; omega
    · have HK : Hid (((hN k c : Nat) : Int) = ((hN 4 c : Nat) : Int)) := Lib.hid (by rw [show k = 4 by omega])
      go_wp2
      refine bodyPost_ret (v := .int .u64 ((hN k c : Nat) : Int)) (by simp [results, Tryz.results385, go_sem]) rfl ⟨by rw [HK.out], rfl⟩
def crcS (c x : Nat) : Nat := hN 4 (hN 4 (Nat.xor c x))
theorem xor_lt (c x : Nat) (hc : c < 18446744073709551616) (hx : x < 256) : Nat.xor c x < 18446744073709551616 := show c ^^^ x < 2 ^ 64 from Nat.xor_lt_two_pow (by omega) (by omega)
theorem crcS_lt (c x : Nat) (hc : c < 18446744073709551616) (hx : x < 256) : crcS c x < 18446744073709551616 := hN_lt _ (hN_lt _ (xor_lt c x hc hx) 4) 4
def foldN (c : Nat) (l : List UInt8) : Nat := l.foldl (fun c x => crcS c x.toNat) c
theorem foldN_lt (l : List UInt8) : ∀ c, c < 18446744073709551616 → foldN c l < 18446744073709551616 := by
  induction l with
  | nil => exact fun _ h => h
  | cons x l ih => exact fun c h => ih _ (crcS_lt c _ h x.toNat_lt)
theorem foldN_snoc (c : Nat) (l : List UInt8) (x : UInt8) : foldN c (l ++ [x]) = crcS (foldN c l) x.toNat := by simp [foldN]
def notN (x : Nat) : Nat := Nat.sub 18446744073709551615 x
theorem notN_lt (x : Nat) : notN x < 18446744073709551616 := by have e : notN x = 18446744073709551615 - x := Nat.sub_eq; rw [e]; omega
theorem not_nat (x : Nat) (h : x < 18446744073709551616) : bits .xor .u64 IntKind.u64.max (x : Int) = ((notN x : Nat) : Int) := by
  have e1 : IntKind.u64.max = ((18446744073709551615 : Nat) : Int) := by decide
  rw [e1, u64_xor_nat _ _ (by decide) h, show (18446744073709551615 : Nat) = 2 ^ 64 - 1 by decide, Lib.xor_ones64 _ (by omega)]
  have e : notN x = 18446744073709551615 - x := Nat.sub_eq
  rw [e]
def crcN (s : Nat) (l : List UInt8) : Nat := notN (foldN (notN s) l)
set_option maxRecDepth 100000 in
set_option maxHeartbeats 1600000 in
theorem more_nat (s : Nat) (hs : s < 18446744073709551616) (a : Option Addr) (cap : Nat) (l : List UInt8) (w : World) (hl : l.length ≤ 1152921504606846976)
    (hc : l ≠ [] → ∃ b off, a = some ⟨b, off, none⟩ ∧ b < w.heap.size ∧ ∀ i, i < l.length → w.cell? ⟨b, off + i, none⟩ = (Lib.byteCells l)[i]?) :
    Calls Tryz.prog 328 #[.int .u64 (s : Int), .slice a l.length cap] w fun e w' => e = .returned (.int .u64 ((crcN s l : Nat) : Int)) ∧ w = w' := by
  have HN := Lib.hid (not_nat s hs)
  have hn := notN_lt s
  refine calls_wd ?_
  go_enter Tryz.func328, Tryz.ntmps328
  go_wp2
  go_loopw [5, 12] (fun cv i wr => ∃ (k : Nat), k ≤ l.length ∧ i = .int .i64 k ∧ cv = .int .u64 ((foldN (notN s) (l.take k) : Nat) : Int) ∧ wr = wd w [] w.drawn) (fun _ i _ => l.length - (intOf i).toNat)
  case atStart => exact ⟨0, Nat.zero_le _, rfl, by rw [HN.out]; rfl, rfl⟩
  case round =>
    obtain ⟨k, hk, rfl, rfl, rfl⟩ := hrel
    have b1 := foldN_lt (l.take k) _ hn
    by_cases hlt : k < l.length
    · obtain ⟨x, hx⟩ : ∃ x, l[k]? = some x := ⟨_, List.getElem?_eq_getElem hlt⟩
      obtain ⟨b, off, rfl, hb, hcell⟩ := hc (fun e => by rw [e] at hlt; simp at hlt)
      have c0 : w.cell? ⟨b, off + k, none⟩ = some (.int .u8 x.toNat) := by rw [hcell k hlt, bc_get, hx]; rfl
      have HX := Lib.hid hx
      clear hx hcell hc
      have hx8 : x.toNat < 256 := x.toNat_lt
      have x1 := xor_lt (foldN (notN s) (l.take k)) x.toNat b1 hx8
      have x2 := hN_lt _ x1 4
      have HT : Hid (foldN (notN s) (l.take (k + 1)) = hN 4 (hN 4 (foldN (notN s) (l.take k) ^^^ x.toNat))) := Lib.hid (by
        rw [List.take_add_one, HX.out]; exact foldN_snoc _ _ _)
      have HY : Hid (bits .xor .u64 ((foldN (notN s) (l.take k) : Nat) : Int) (x.toNat : Int) = ((foldN (notN s) (l.take k) ^^^ x.toNat : Nat) : Int)) := Lib.hid (u64_xor_nat _ _ b1 (by omega))
      have hcall := fun (W : World) => half_nat _ x1 W
      have HC : Hid (∀ W : World, Calls Tryz.prog 385 #[.int .u64 (bits .xor .u64 ((foldN (notN s) (l.take k) : Nat) : Int) (x.toNat : Int))] W fun e w' => e = .returned (.int .u64 ((hN 4 (foldN (notN s) (l.take k) ^^^ x.toNat) : Nat) : Int)) ∧ W = w') := Lib.hid (by rw [HY.out]; exact hcall)
      have HD : Hid (∀ W : World, Calls Tryz.prog 385 #[.int .u64 ((hN 4 (foldN (notN s) (l.take k) ^^^ x.toNat) : Nat) : Int)] W fun e w' => e = .returned (.int .u64 ((hN 4 (hN 4 (foldN (notN s) (l.take k) ^^^ x.toNat)) : Nat) : Int)) ∧ W = w') := Lib.hid fun W => half_nat _ x2 W
      clear hcall
      go_wp2_with (first | (go_at_call 385; ((with_reducible refine (HC.out _).mono ?_); rintro e w1 ⟨rfl, rfl⟩)) | (go_at_call 385; ((with_reducible refine (HD.out _).mono ?_); rintro e w1 ⟨rfl, rfl⟩)))
      go_roundw
      case rel => exact ⟨k + 1, by omega, by go_num, by rw [HT.out], trivial⟩
      case measure => simp [intOf]; omega
    · have HK : Hid (l.take k = l) := Lib.hid (List.take_of_length_le (by omega))
      have HR : Hid (bits .xor .u64 IntKind.u64.max ((foldN (notN s) (l.take k) : Nat) : Int) = ((crcN s l : Nat) : Int)) := Lib.hid (by rw [not_nat _ b1, HK.out]; rfl)
      go_wp2
      refine bodyPost_ret (v := .int .u64 (bits .xor .u64 IntKind.u64.max ((foldN (notN s) (l.take k) : Nat) : Int))) (by simp [results, Tryz.results328, go_sem]) rfl ⟨by rw [HR.out], rfl⟩
end Go.Proofs.YtifoekadjnlhcaaGreatDoor
noncomputable section
namespace Go.Proofs.YtifoekadjnlhcaaGreatDoor
open Go.RowKit
set_option linter.unusedVariables false
set_option linter.unusedSimpArgs false
namespace Ev
def intO : Value → Option (IntKind × Nat) :=
  @Value.rec (fun _ => Option (IntKind × Nat)) (fun _ => Unit) (fun _ => Unit) (fun _ => none) (fun d n => @Int.rec (fun _ => Option (IntKind × Nat)) (fun m => some (d, m)) (fun _ => none) n)
    (fun _ _ => none) (fun _ _ _ => none) (fun _ => none) (fun _ => none) (fun _ _ _ => none) (fun _ => none) (fun _ => none) (fun _ _ _ _ _ => none) none (fun _ _ _ => none) none (fun _ _ => none) (fun _ _ => none) (fun _ _ => ()) () (fun _ _ _ _ => ())
def byteC (v : Value) (k : Nat → Option Nat) : Option Nat :=
  @Option.rec (IntKind × Nat) (fun _ => Option Nat) none (fun p => @Bool.rec (fun _ => Option Nat) none (@Bool.rec (fun _ => Option Nat) none (k p.2) (Nat.ble p.2 255)) (Nat.beq (numK p.1) 4)) (intO v)
def stepK (c x : Nat) : Nat := hK (hK (hK (hK (hK (hK (hK (hK (Nat.xor c x))))))))
def foldK (vs : List Value) : Nat → Option Nat :=
  @List.rec Value (fun _ => Nat → Option Nat) (fun c => some c) (fun v _ ih c => byteC v fun x => @Nat.rec (fun _ => Option Nat) (ih 0) (fun m _ => ih (Nat.succ m)) (stepK c x)) vs
theorem intO_some {v : Value} {k : IntKind} {n : Nat} (h : intO v = some (k, n)) : v = .int k (.ofNat n) := by
  cases v <;> try cases h
  next d i => cases i <;> cases h; rfl
theorem byteC_some {v : Value} {k : Nat → Option Nat} {r : Nat} (h : byteC v k = some r) : ∃ b : UInt8, v = .int .u8 b.toNat ∧ k b.toNat = some r := by
  unfold byteC at h
  cases ha : intO v with
  | none => rw [ha] at h; cases h
  | some p =>
    obtain ⟨d, m⟩ := p
    rw [ha] at h
    have h1 : (@Bool.rec (fun _ => Option Nat) none (@Bool.rec (fun _ => Option Nat) none (k m) (Nat.ble m 255)) (Nat.beq (numK d) 4)) = some r := h
    cases hb : Nat.beq (numK d) 4 with
    | false => rw [hb] at h1; cases h1
    | true =>
      rw [hb] at h1
      have h2 : (@Bool.rec (fun _ => Option Nat) none (k m) (Nat.ble m 255)) = some r := h1
      cases hc : Nat.ble m 255 with
      | false => rw [hc] at h2; cases h2
      | true =>
        rw [hc] at h2
        have h3 : k m = some r := h2
        have hd : d = .u8 := numK_inj (b := .u8) hb
        have hm := Nat.le_of_ble_eq_true hc
        have e : (UInt8.ofNat m).toNat = m := by rw [UInt8.toNat_ofNat']; exact Nat.mod_eq_of_lt (by omega)
        refine ⟨UInt8.ofNat m, ?_, by rw [e]; exact h3⟩
        rw [intO_some ha, hd, e]; rfl
theorem foldK_some : ∀ (vs : List Value) (c r : Nat), foldK vs c = some r → ∃ l : List UInt8, vs = Lib.byteCells l ∧ r = foldN c l
  | [], c, r, h => by cases h; exact ⟨[], rfl, rfl⟩
  | v :: vs, c, r, h => by
    have h : byteC v (fun x => @Nat.rec (fun _ => Option Nat) (foldK vs 0) (fun m _ => foldK vs (Nat.succ m)) (stepK c x)) = some r := h
    obtain ⟨b, rfl, h1⟩ := byteC_some h
    have h2 : foldK vs (stepK c b.toNat) = some r := by
      rw [← h1]
      cases stepK c b.toNat <;> rfl
    obtain ⟨l, rfl, rfl⟩ := foldK_some vs _ _ h2
    exact ⟨b :: l, rfl, rfl⟩
def noSp (o : Option Nat) : Bool := @Option.rec Nat (fun _ => Bool) true (fun _ => false) o
def outK (s : Nat) (vs : List Value) : Option Value := @Option.rec Nat (fun _ => Option Value) none (fun r => some (.int .u64 (.ofNat (notN r)))) (foldK vs (notN s))
def crcOf (H : Heap) (s : Nat) (v : Value) : Option Value :=
  @Option.rec (Option Addr × Nat) (fun _ => Option Value) none (fun p => @Option.rec Addr (fun _ => Option Value) (ifB (Nat.beq p.2 0) (outK s []))
    (fun a => ifB (noSp a.spot) (ifB (Nat.ble p.2 1152921504606846976) (@Option.rec (List Value) (fun _ => Option Value) none (fun vs => outK s vs) (H.load a.block a.off p.2)))) p.1) (slcO v)
def sum2 (H : Heap) (u v : Value) : Option Value := asIntC u fun k s => ifB (Nat.beq (numK k) 7) (ifB (Nat.ble s 18446744073709551615) (crcOf H s v))
def sumD : List Value → Heap → Option Value := @List.rec Value (fun _ => Heap → Option Value) (fun _ => none) (fun u r _ H => @List.rec Value (fun _ => Option Value) none (fun v q _ => @List.rec Value (fun _ => Option Value) (sum2 H u v) (fun _ _ _ => none) q) r)
def smSum (f : Nat) (args : List Value) (H : Heap) : Option Value := @Bool.rec (fun _ => Option Value) none (sumD args H) (Nat.beq f 328)
theorem sumD_some {args : List Value} {H : Heap} {v : Value} (h : sumD args H = some v) : ∃ u x, args = [u, x] ∧ sum2 H u x = some v := by
  match args, h with
  | [], h => cases h
  | [_], h => cases h
  | [u, x], h => exact ⟨u, x, rfl, h⟩
  | _ :: _ :: _ :: _, h => cases h
theorem outK_some {s : Nat} {vs : List Value} {v : Value} (h : outK s vs = some v) : ∃ l : List UInt8, vs = Lib.byteCells l ∧ v = .int .u64 ((crcN s l : Nat) : Int) := by
  unfold outK at h
  cases hf : foldK vs (notN s) with
  | none => rw [hf] at h; cases h
  | some r =>
    rw [hf] at h
    obtain ⟨l, h1, h2⟩ := foldK_some _ _ _ hf
    have h3 : some (Value.int .u64 (.ofNat (notN r))) = some v := h
    exact ⟨l, h1, by rw [← Option.some.inj h3, h2]; rfl⟩
theorem concL_bytes {φ : Phi} : ∀ (l : List UInt8), concL φ (Lib.byteCells l) = some (Lib.byteCells l)
  | [] => rfl
  | b :: l => by
    show concL φ (.int .u8 b.toNat :: Lib.byteCells l) = some (.int .u8 b.toNat :: Lib.byteCells l)
    simp only [concL, conc, concL_bytes l]
theorem concL_two {φ : Phi} {a b A B : Value} (h1 : conc φ a = some A) (h2 : conc φ b = some B) : concL φ [a, b] = some [A, B] := by simp only [concL, h1, h2]
theorem sum_ok {H : Heap} {u x v : Value} (h : sum2 H u x = some v) {φ : Phi} {w : World} (hR : Rel φ H w) : Gives Tryz.prog φ H w 328 [u, x] v H := by
  unfold sum2 at h
  obtain ⟨k, s, rfl, h0⟩ := asIntC_some h
  clear h
  obtain ⟨h1, h2⟩ := ifB_some h0
  clear h0
  obtain ⟨h3, h4⟩ := ifB_some h2
  clear h2
  obtain rfl : k = .u64 := numK_inj (b := .u64) h1
  clear h1
  have hs := Nat.le_of_ble_eq_true h3
  clear h3
  have fin : ∀ (l : List UInt8) (a : Option Addr) (cap : Nat), l.length ≤ 1152921504606846976 → v = .int .u64 ((crcN s l : Nat) : Int) →
      (l ≠ [] → ∃ b off, a = some ⟨b, off, none⟩ ∧ b < w.heap.size ∧ ∀ i, i < l.length → w.cell? ⟨b, off + i, none⟩ = (Lib.byteCells l)[i]?) →
      Calls Tryz.prog 328 #[.int .u64 (s : Int), .slice a l.length cap] w fun e w' => ∃ V φ', e = .returned V ∧ conc φ' v = some V ∧ Rel φ' H w' ∧ Step φ H w φ' H w' := by
    intro l a cap hl hv hc
    refine (more_nat s (by omega) a cap l w hl hc).mono fun e w' ⟨he, hw⟩ => ?_
    subst hw
    exact ⟨_, φ, he, by rw [hv]; rfl, hR, Step.refl _ _ _⟩
  intro A hA
  unfold crcOf at h4
  cases hx : slcO x with
  | none => rw [hx] at h4; cases h4
  | some p =>
    obtain ⟨a, n⟩ := p
    rw [hx] at h4
    obtain ⟨cap, rfl⟩ := slcO_some hx
    cases a with
    | none =>
      have h5 : ifB (Nat.beq n 0) (outK s []) = some v := h4
      clear h4
      obtain ⟨h6, h7⟩ := ifB_some h5
      obtain rfl : n = 0 := Nat.eq_of_beq_eq_true h6
      obtain ⟨l, e1, e2⟩ := outK_some h7
      obtain rfl : l = [] := by cases l with
        | nil => rfl
        | cons b l => cases e1
      simp only [concL, conc, Option.some.injEq] at hA
      subst hA
      exact fin [] none cap (by simp) e2 (fun hne => absurd rfl hne)
    | some a =>
      have h5 : ifB (noSp a.spot) (ifB (Nat.ble n 1152921504606846976) (@Option.rec (List Value) (fun _ => Option Value) none (fun vs => outK s vs) (H.load a.block a.off n))) = some v := h4
      clear h4
      obtain ⟨h6, h7⟩ := ifB_some h5
      clear h5
      obtain ⟨h8, h9⟩ := ifB_some h7
      clear h7
      cases hld : H.load a.block a.off n with
      | none => rw [hld] at h9; cases h9
      | some vs =>
        rw [hld] at h9
        obtain ⟨l, rfl, e2⟩ := outK_some (show outK s vs = some v from h9)
        clear h9
        have hsp : a.spot = none := by cases hq : a.spot with
          | none => rfl
          | some q => rw [hq] at h6; cases h6
        obtain ⟨B, cs, el, fr, a', hAe, hB, g1, g2, g3, g4, ea⟩ : ∃ B cs el fr a', A = [.int .u64 (s : Int), .slice (some a') n (if cap < BIG then cap else cap - BIG + B.exc)] ∧ φ.at_ a.block = some B ∧ w.heap[B.blk]? = some (.cells cs el fr) ∧ B.base + a.off + n ≤ cs.size ∧
            (Lib.byteCells l).length = n ∧ concL φ (Lib.byteCells l) = some (cs.extract (B.base + a.off) (B.base + a.off + n)).toList ∧ a' = ⟨B.blk, B.base + a.off, none⟩ := by
          have hA2 : concL φ [.int .u64 (.ofNat s), .slice (some a) n cap] = some A := hA
          cases hV : conc φ (.slice (some a) n cap) with
          | none => simp only [concL, hV] at hA2; split at hA2 <;> simp_all
          | some V =>
            obtain ⟨B, a', hB, ha', rfl⟩ := conc_slice hV
            obtain ⟨cs, el, fr, g1, g2, g3, g4⟩ := hR.load hld hB
            have ea : a' = ⟨B.blk, B.base + a.off, none⟩ := by
              unfold concA at ha'
              rw [hB, hsp] at ha'
              exact (Option.some.inj ha').symm
            refine ⟨B, cs, el, fr, a', ?_, hB, g1, g2, g3, g4, ea⟩
            exact Option.some.inj (hA2.symm.trans (concL_two rfl hV))
        subst hAe
        have hlen : l.length = n := by rw [← g3]; exact (Lib.byteCells_length l).symm
        have e4 : Lib.byteCells l = (cs.extract (B.base + a.off) (B.base + a.off + n)).toList := Option.some.inj ((concL_bytes l).symm.trans g4)
        have hle := Nat.le_of_ble_eq_true h8
        have hc : l ≠ [] → ∃ b off, (some a') = some (⟨b, off, none⟩ : Addr) ∧ b < w.heap.size ∧ ∀ i, i < l.length → w.cell? ⟨b, off + i, none⟩ = (Lib.byteCells l)[i]? := by
          intro _
          refine ⟨B.blk, B.base + a.off, by rw [ea], lt_of_get g1, fun i hi => ?_⟩
          have e5 : w.cell? ⟨B.blk, B.base + a.off + i, none⟩ = cs[B.base + a.off + i]? := by simp [World.cell?, g1]
          rw [e5, e4, Array.getElem?_toList, Array.getElem?_extract, if_pos (by omega)]
        have := fin l (some a') (if cap < BIG then cap else cap - BIG + B.exc) (by omega) e2 hc
        rw [hlen] at this
        exact this
theorem sum_tab {fn : Nat → Option Func} (hfn : ∀ f F, fn f = some F → Tryz.prog.funcs[f]? = some F) : TabOk Tryz.prog ⟨fn, smK smSum⟩ := by
  refine tab_smK hfn fun f args H v h => ?_
  have h : (@Bool.rec (fun _ => Option Value) none (sumD args H) (Nat.beq f 328)) = some v := h
  cases hb : Nat.beq f 328 with
  | false => rw [hb] at h; cases h
  | true =>
    rw [hb] at h
    have h2 : sumD args H = some v := h
    obtain rfl := Nat.eq_of_beq_eq_true hb
    obtain ⟨u, x, rfl, h3⟩ := sumD_some h2
    exact ⟨fun φ w hR => sum_ok h3 hR, Tryz.f328, Tryz.func328, by kernel_rfl, by kernel_rfl⟩
def fnT (f : Nat) : Option Func := nthK Tryz.prog.funcs.toList f
theorem fnT_ok (f : Nat) (F : Func) (h : fnT f = some F) : Tryz.prog.funcs[f]? = some F := by
  unfold fnT at h
  rw [nthK_eq, Array.getElem?_toList] at h
  exact h
end Ev
end Go.Proofs.YtifoekadjnlhcaaGreatDoor
