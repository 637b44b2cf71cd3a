/- THE ENGINE: check.More known beforehand: the checksum of bytes, as a number. -/
import Derived.Test.YtlanghikmccmbaaEL
import Derived.Test.YtlanghikmccmbaaEM
noncomputable section
namespace Go.Proofs.Ytlanghikmccmbaa
open Go.RowKit
set_option linter.unusedVariables false
set_option linter.unusedSimpArgs false
namespace Ev
def intO : Value → Option (IntKind × Nat) :=
  @Value.rec (fun _ => Option (IntKind × Nat)) (fun _ => Unit) (fun _ => Unit) (fun _ => none) (fun d n => @Int.rec (fun _ => Option (IntKind × Nat)) (fun m => some (d, m)) (fun _ => none) n)
    (fun _ _ => none) (fun _ _ _ => none) (fun _ => none) (fun _ => none) (fun _ _ _ => none) (fun _ => none) (fun _ => none) (fun _ _ _ _ _ => none) none (fun _ _ _ => none) none (fun _ _ => none) (fun _ _ => none) (fun _ _ => ()) () (fun _ _ _ _ => ())
/-- A byte's number. -/
def byteC (v : Value) (k : Nat → Option Nat) : Option Nat :=
  @Option.rec (IntKind × Nat) (fun _ => Option Nat) none (fun p => @Bool.rec (fun _ => Option Nat) none (@Bool.rec (fun _ => Option Nat) none (k p.2) (Nat.ble p.2 255)) (Nat.beq (numK p.1) 4)) (intO v)
def stepK (c x : Nat) : Nat := hK (hK (hK (hK (hK (hK (hK (hK (Nat.xor c x))))))))
def foldK (vs : List Value) : Nat → Option Nat :=
  @List.rec Value (fun _ => Nat → Option Nat) (fun c => some c) (fun v _ ih c => byteC v fun x => @Nat.rec (fun _ => Option Nat) (ih 0) (fun m _ => ih (Nat.succ m)) (stepK c x)) vs
def noSp (o : Option Nat) : Bool := @Option.rec Nat (fun _ => Bool) true (fun _ => false) o
def outK (s : Nat) (vs : List Value) : Option Value := @Option.rec Nat (fun _ => Option Value) none (fun r => some (.int .u64 (.ofNat (notN r)))) (foldK vs (notN s))
def crcOf (H : Heap) (s : Nat) (v : Value) : Option Value :=
  @Option.rec (Option Addr × Nat) (fun _ => Option Value) none (fun p => @Option.rec Addr (fun _ => Option Value) (ifB (Nat.beq p.2 0) (outK s []))
    (fun a => ifB (noSp a.spot) (ifB (Nat.ble p.2 1152921504606846976) (@Option.rec (List Value) (fun _ => Option Value) none (fun vs => outK s vs) (H.load a.block a.off p.2)))) p.1) (slcO v)
def sum2 (H : Heap) (u v : Value) : Option Value := asIntC u fun k s => ifB (Nat.beq (numK k) 7) (ifB (Nat.ble s 18446744073709551615) (crcOf H s v))
def sumD : List Value → Heap → Option Value := @List.rec Value (fun _ => Heap → Option Value) (fun _ => none) (fun u r _ H => @List.rec Value (fun _ => Option Value) none (fun v q _ => @List.rec Value (fun _ => Option Value) (sum2 H u v) (fun _ _ _ => none) q) r)
/-- The functions, by a walk of few steps. -/
def fnT (f : Nat) : Option Func := nthK Try.prog.funcs.toList f
theorem fnT_ok (f : Nat) (F : Func) (h : fnT f = some F) : Try.prog.funcs[f]? = some F := by
  unfold fnT at h
  rw [nthK_eq, Array.getElem?_toList] at h
  exact h
end Ev
end Go.Proofs.Ytlanghikmccmbaa
