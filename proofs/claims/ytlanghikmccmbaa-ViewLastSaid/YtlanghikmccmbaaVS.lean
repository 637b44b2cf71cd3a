/- THE ENGINE: strings.Compare known beforehand; law 36's closed case. -/
import Derived.Test.YtlanghikmccmbaaEN
import Derived.Lib.Bytealg
import Derived.Lib.Walk
import Derived.Lib.Strings
namespace Go.Proofs.Ytlanghikmccmbaa
open Go.ChangeShapes Go.WideShapes Go.ChangeAt Go.RowKit
set_option linter.unusedVariables false
set_option maxRecDepth 100000
theorem cmpstr_any (a b : ByteArray) (w : World) : Calls Try.prog 105 #[.string a, .string b] w fun e w' => e = .returned (.int .i64 (Lib.compareBytes a.data.toList b.data.toList)) ∧ w = w' := by
  refine calls_wd ?_
  go_enter Try.func105, Try.ntmps105
  go_wp2
  rw [run_callFunc_extern Try.func112 (by kernel_rfl) (by kernel_rfl) (by kernel_rfl) (e := Extern.BytealgCompare.compare) (by kernel_rfl), Lib.run_compareString]
  simp only [Result.andThen]
  rw [Oper.upon_value]
  go_wp2
  go_ret
  exact ⟨rfl, rfl⟩
theorem scmp_any (a b : ByteArray) (w : World) : Calls Try.prog 86 #[.string a, .string b] w fun e w' => e = .returned (.int .i64 (Lib.compareBytes a.data.toList b.data.toList)) ∧ w = w' := by
  refine calls_wd ?_
  go_enter Try.func86, Try.ntmps86
  go_wp2_with (first | (go_at_call 105; ((with_reducible refine (cmpstr_any _ _ _).mono ?_); rintro e w1 ⟨rfl, rfl⟩)))
  go_ret
  exact ⟨rfl, rfl⟩
noncomputable section
namespace Ev
def strO : Value → Option ByteArray
  | .string b => some b
  | _ => none
def smC : List Value → Option Value
  | [u, x] => match strO u, strO x with
    | some a, some b => some (.int .i64 (Lib.compareBytes a.data.toList b.data.toList))
    | _, _ => none
  | _ => none
theorem strO_some {v : Value} {b : ByteArray} (h : strO v = some b) : v = .string b := by
  cases v <;> simp [strO] at h
  rw [h]
theorem smC_some {args : List Value} {v : Value} (h : smC args = some v) : ∃ a b, args = [.string a, .string b] ∧ v = .int .i64 (Lib.compareBytes a.data.toList b.data.toList) := by
  unfold smC at h
  split at h
  · split at h
    · next h1 h2 => exact ⟨_, _, by rw [strO_some h1, strO_some h2], (Option.some.inj h).symm⟩
    · cases h
  · cases h
def fnV : Tab := ⟨fnT, smK fun f args H => @Bool.rec (fun _ => Option Value) none (smC args) (Nat.beq f 86)⟩
theorem fnV_ok : TabOk Try.prog fnV := by
  refine tab_smK fnT_ok fun f args H v h => ?_
  have h : (@Bool.rec (fun _ => Option Value) none (smC args) (Nat.beq f 86)) = some v := h
  cases hb : Nat.beq f 86 with
  | false => rw [hb] at h; cases h
  | true =>
    rw [hb] at h
    have h2 : smC args = some v := h
    obtain rfl := Nat.eq_of_beq_eq_true hb
    obtain ⟨a, b, rfl, rfl⟩ := smC_some h2
    refine ⟨fun φ w hR A hA => ?_, Try.f86, Try.func86, by kernel_rfl, by kernel_rfl⟩
    simp only [concL, conc, Option.some.injEq] at hA
    subst hA
    refine (scmp_any a b w).mono fun e w' ⟨he, hw⟩ => ?_
    subst hw
    exact ⟨_, φ, he, rfl, hR, Step.more (More.refl w)⟩
def isOk (o : Option (Value × Heap)) (v : Value) : Bool := match o with | some (u, _) => beqV u v | none => false
theorem of_isOk {o : Option (Value × Heap)} {v : Value} (h : isOk o v = true) : ∃ H, o = some (v, H) := by
  unfold isOk at h
  split at h
  · next u H => exact ⟨H, by rw [beqV_eq u v h]⟩
  · cases h
theorem follows : Try.prog.follows .mixedOrders = true := by kernel_rfl
theorem awake36_run : isOk (callS Try.prog fnV (exec Try.prog fnV 2000) [] 9 [] Heap.empty) (.bool true) = true := by kernel_rfl
end Ev
end
theorem awake36 (W : World) : Calls Try.prog 9 #[] W fun e w' => e = .returned (.bool true) ∧ More W w' := by
  obtain ⟨H, h⟩ := Ev.of_isOk Ev.awake36_run
  exact Ev.call_more Ev.follows Ev.fnV_ok 2000 h rfl (fun _ => none) rfl W
end Go.Proofs.Ytlanghikmccmbaa
