/- THE ENGINE: check.More known beforehand: the checksum of bytes, as a number. -/
import Derived.Test.YtlanghikmccmbaaEL
import Derived.Test.YtlanghikmccmbaaEM
noncomputable section
namespace Go.Proofs.Ytlanghikmccmbaa
open Go.RowKit
set_option linter.unusedVariables false
set_option linter.unusedSimpArgs false
namespace Ev
def intO : Value → Option (IntKind × Nat) :=
  @Value.rec (fun _ => Option (IntKind × Nat)) (fun _ => Unit) (fun _ => Unit) (fun _ => none) (fun d n => @Int.rec (fun _ => Option (IntKind × Nat)) (fun m => some (d, m)) (fun _ => none) n)
    (fun _ _ => none) (fun _ _ _ => none) (fun _ => none) (fun _ => none) (fun _ _ _ => none) (fun _ => none) (fun _ => none) (fun _ _ _ _ _ => none) none (fun _ _ _ => none) none (fun _ _ => none) (fun _ _ => none) (fun _ _ => ()) () (fun _ _ _ _ => ())
/-- A byte's number. -/
def byteC (v : Value) (k : Nat → Option Nat) : Option Nat :=
  @Option.rec (IntKind × Nat) (fun _ => Option Nat) none (fun p => @Bool.rec (fun _ => Option Nat) none (@Bool.rec (fun _ => Option Nat) none (k p.2) (Nat.ble p.2 255)) (Nat.beq (numK p.1) 4)) (intO v)
def stepK (c x : Nat) : Nat := hK (hK (hK (hK (hK (hK (hK (hK (Nat.xor c x))))))))
def foldK (vs : List Value) : Nat → Option Nat :=
  @List.rec Value (fun _ => Nat → Option Nat) (fun c => some c) (fun v _ ih c => byteC v fun x => @Nat.rec (fun _ => Option Nat) (ih 0) (fun m _ => ih (Nat.succ m)) (stepK c x)) vs
theorem intO_some {v : Value} {k : IntKind} {n : Nat} (h : intO v = some (k, n)) : v = .int k (.ofNat n) := by
  cases v <;> try cases h
  next d i => cases i <;> cases h; rfl
theorem byteC_some {v : Value} {k : Nat → Option Nat} {r : Nat} (h : byteC v k = some r) : ∃ b : UInt8, v = .int .u8 b.toNat ∧ k b.toNat = some r := by
  unfold byteC at h
  cases ha : intO v with
  | none => rw [ha] at h; cases h
  | some p =>
    obtain ⟨d, m⟩ := p
    rw [ha] at h
    have h1 : (@Bool.rec (fun _ => Option Nat) none (@Bool.rec (fun _ => Option Nat) none (k m) (Nat.ble m 255)) (Nat.beq (numK d) 4)) = some r := h
    cases hb : Nat.beq (numK d) 4 with
    | false => rw [hb] at h1; cases h1
    | true =>
      rw [hb] at h1
      have h2 : (@Bool.rec (fun _ => Option Nat) none (k m) (Nat.ble m 255)) = some r := h1
      cases hc : Nat.ble m 255 with
      | false => rw [hc] at h2; cases h2
      | true =>
        rw [hc] at h2
        have h3 : k m = some r := h2
        have hd : d = .u8 := numK_inj (b := .u8) hb
        have hm := Nat.le_of_ble_eq_true hc
        have e : (UInt8.ofNat m).toNat = m := by rw [UInt8.toNat_ofNat']; exact Nat.mod_eq_of_lt (by omega)
        refine ⟨UInt8.ofNat m, ?_, by rw [e]; exact h3⟩
        rw [intO_some ha, hd, e]; rfl
theorem stepK_eq (c x : Nat) : stepK c x = crcS c x := rfl
theorem foldK_some : ∀ (vs : List Value) (c r : Nat), foldK vs c = some r → ∃ l : List UInt8, vs = Lib.byteCells l ∧ r = foldN c l
  | [], c, r, h => by cases h; exact ⟨[], rfl, rfl⟩
  | v :: vs, c, r, h => by
    have h : byteC v (fun x => @Nat.rec (fun _ => Option Nat) (foldK vs 0) (fun m _ => foldK vs (Nat.succ m)) (stepK c x)) = some r := h
    obtain ⟨b, rfl, h1⟩ := byteC_some h
    have h2 : foldK vs (stepK c b.toNat) = some r := by
      rw [← h1]
      cases stepK c b.toNat <;> rfl
    obtain ⟨l, rfl, rfl⟩ := foldK_some vs _ _ h2
    exact ⟨b :: l, rfl, rfl⟩
def noSp (o : Option Nat) : Bool := @Option.rec Nat (fun _ => Bool) true (fun _ => false) o
def outK (s : Nat) (vs : List Value) : Option Value := @Option.rec Nat (fun _ => Option Value) none (fun r => some (.int .u64 (.ofNat (notN r)))) (foldK vs (notN s))
def crcOf (H : Heap) (s : Nat) (v : Value) : Option Value :=
  @Option.rec (Option Addr × Nat) (fun _ => Option Value) none (fun p => @Option.rec Addr (fun _ => Option Value) (ifB (Nat.beq p.2 0) (outK s []))
    (fun a => ifB (noSp a.spot) (ifB (Nat.ble p.2 1152921504606846976) (@Option.rec (List Value) (fun _ => Option Value) none (fun vs => outK s vs) (H.load a.block a.off p.2)))) p.1) (slcO v)
def sum2 (H : Heap) (u v : Value) : Option Value := asIntC u fun k s => ifB (Nat.beq (numK k) 7) (ifB (Nat.ble s 18446744073709551615) (crcOf H s v))
def sumD : List Value → Heap → Option Value := @List.rec Value (fun _ => Heap → Option Value) (fun _ => none) (fun u r _ H => @List.rec Value (fun _ => Option Value) none (fun v q _ => @List.rec Value (fun _ => Option Value) (sum2 H u v) (fun _ _ _ => none) q) r)
theorem sumD_some {args : List Value} {H : Heap} {v : Value} (h : sumD args H = some v) : ∃ u x, args = [u, x] ∧ sum2 H u x = some v := by
  match args, h with
  | [], h => cases h
  | [_], h => cases h
  | [u, x], h => exact ⟨u, x, rfl, h⟩
  | _ :: _ :: _ :: _, h => cases h
theorem outK_some {s : Nat} {vs : List Value} {v : Value} (h : outK s vs = some v) : ∃ l : List UInt8, vs = Lib.byteCells l ∧ v = .int .u64 ((crcN s l : Nat) : Int) := by
  unfold outK at h
  cases hf : foldK vs (notN s) with
  | none => rw [hf] at h; cases h
  | some r =>
    rw [hf] at h
    obtain ⟨l, h1, h2⟩ := foldK_some _ _ _ hf
    have h3 : some (Value.int .u64 (.ofNat (notN r))) = some v := h
    exact ⟨l, h1, by rw [← Option.some.inj h3, h2]; rfl⟩
theorem concL_bytes {φ : Phi} : ∀ (l : List UInt8), concL φ (Lib.byteCells l) = some (Lib.byteCells l)
  | [] => rfl
  | b :: l => by
    show concL φ (.int .u8 b.toNat :: Lib.byteCells l) = some (.int .u8 b.toNat :: Lib.byteCells l)
    simp only [concL, conc, concL_bytes l]
theorem concL_two {φ : Phi} {a b A B : Value} (h1 : conc φ a = some A) (h2 : conc φ b = some B) : concL φ [a, b] = some [A, B] := by simp only [concL, h1, h2]
/-- The functions, by a walk of few steps. -/
def fnT (f : Nat) : Option Func := nthK Try.prog.funcs.toList f
theorem fnT_ok (f : Nat) (F : Func) (h : fnT f = some F) : Try.prog.funcs[f]? = some F := by
  unfold fnT at h
  rw [nthK_eq, Array.getElem?_toList] at h
  exact h
end Ev
end Go.Proofs.Ytlanghikmccmbaa
