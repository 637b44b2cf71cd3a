/- Law 28's closed case, run by the engine in the kernel. -/
import Derived.Test.YtifoekadjnlhcaaGreatDoorMZ
import Derived.Test.YtifoekadjnlhcaaGreatDoorMJ
namespace Go.Proofs.YtifoekadjnlhcaaGreatDoor
set_option linter.unusedVariables false
set_option maxRecDepth 100000
namespace Ev
theorem awake_run : isOk (callS Tryz.prog fnC (exec Tryz.prog fnC 3000) [] 6 [] Heap.empty) (.bool true) = true := by kernel_rfl
end Ev
theorem awake28 (W : World) : Calls Tryz.prog 6 #[] W fun e w' => e = .returned (.bool true) ∧ More W w' := by
  obtain ⟨H, h⟩ := Ev.of_isOk Ev.awake_run
  exact Ev.call_more Ev.follows Ev.fnC_ok 3000 h rfl (fun _ => none) rfl W
end Go.Proofs.YtifoekadjnlhcaaGreatDoor
namespace Go.Proofs.YtifoekadjnlhcaaGreatDoor
open Go.ChangeShapes Go.WideShapes Go.ChangeAt Go.RowKit
set_option linter.unusedVariables false
set_option linter.unusedSimpArgs false
set_option maxRecDepth 100000 in
set_option maxHeartbeats 1600000 in
theorem cdigs_any (n : Nat) (hn : n ≤ 4611686018427387910) : ∀ w : World, Calls Tryz.prog 13 #[.int .i64 n] w fun x w' => x = .returned (.string (str (digs n))) ∧ More w w' := by
  induction n using Nat.strongRecOn with
  | _ n ih =>
    intro w
    have hls := fun k => lit_str0 w k _ _ (digit_byte n)
    by_cases h10 : n < 10
    · have hd := Lib.hid (digs_lt h10)
      clear ih
      refine calls_wd ?_
      go_enter Tryz.func13, Tryz.ntmps13
      go_wp2
      go_ret
      exact ⟨by rw [hd.out]; rfl, more_wd _ _ _⟩
    · have hd := Lib.hid (digs_ge h10)
      have H := Lib.hid (ih (n / 10) (by omega) (by omega))
      rw [show ((n / 10 : Nat) : Int) = (n : Int) / 10 by omega] at H
      have hlen : (digs (n / 10)).length ≤ 19 := digs_len 18 (n / 10) (by have : (4611686018427387910 : Nat) < 10 ^ (18 + 1) := by decide
                                                                          omega)
      have ha := sadd (P := Tryz.prog) (digs (n / 10)) [decB n] (by simp; omega)
      have h10' : ¬ (n : Int) < 10 := by omega
      clear ih
      refine calls_wd ?_
      go_enter Tryz.func13, Tryz.ntmps13
      go_wp2_with (first | (go_at_call 13; ((with_reducible refine (H.out _).mono ?_); rintro e w1 ⟨rfl, x1, n1, rfl⟩)))
      go_ret
      exact ⟨by rw [hd.out]; rfl, more_wd _ _ _⟩
def digI (n : Int) : List UInt8 := if n < 0 then 45 :: digs (-n).toNat else digs n.toNat
theorem cdig_any (n : Int) (h1 : -4611686018427387910 ≤ n) (h2 : n ≤ 4611686018427387910) (w : World) : Calls Tryz.prog 13 #[.int .i64 n] w fun x w' => x = .returned (.string (str (digI n))) ∧ More w w' := by
  by_cases h0 : n < 0
  · obtain ⟨k, hkn⟩ : ∃ k : Nat, -n = (k : Int) := ⟨(-n).toNat, by omega⟩
    have hk : k ≤ 4611686018427387910 := by omega
    have H : Hid (∀ w, Calls Tryz.prog 13 #[.int .i64 k] w fun x w' => x = .returned (.string (str (digs k))) ∧ More w w') := Lib.hid (cdigs_any k hk)
    have hdl := digs_len 18 k (Nat.lt_of_le_of_lt hk (by decide))
    have ha := sadd (P := Tryz.prog) [45] (digs k) (by simp; omega)
    clear hdl
    rw [show str [45] = { data := #[45] } from rfl] at ha
    have hd : Hid (digI n = [45] ++ digs k) := Lib.hid (by unfold digI; rw [if_pos h0, hkn]; rfl)
    have hkm : (k : Int) ≤ 4611686018427387910 := by omega
    clear h1 h2
    refine calls_wd ?_
    go_enter Tryz.func13, Tryz.ntmps13
    go_wp2_with (first | (go_at_call 13; ((with_reducible refine (H.out _).mono ?_); rintro e w1 ⟨rfl, x1, n1, rfl⟩)))
    go_ret
    exact ⟨by rw [hd.out]; rfl, more_wd _ _ _⟩
  · have h := cdigs_any n.toNat (by omega) w
    rw [show ((n.toNat : Nat) : Int) = n by omega] at h
    have e : digI n = digs n.toNat := by unfold digI; rw [if_neg h0]
    rw [e]; exact h
end Go.Proofs.YtifoekadjnlhcaaGreatDoor
