/- The quota bucket's plain functions and the walks of Check, New, Fill, Take, Wait (program and reference). -/
import Derived.Test.YtlahfjnfidhleaaLib
namespace Go.Proofs.Ytlahfjnfidhleaa
open Go.RowKit
set_option linter.unusedVariables false
set_option linter.unusedSimpArgs false

def inB (n e : Int) : Bool := decide (0 ≤ n) && decide (n ≤ e)

set_option maxHeartbeats 400000 in
theorem qin_any (n e : Int) (w : World) :
    Calls Try.prog 33 #[.int .i64 n, .int .i64 e] w fun r w' => r = .returned (.bool (inB n e)) ∧ w = w' := by
  by_cases h : 0 ≤ n
  · refine calls_wd ?_
    go_enter Try.func33, Try.ntmps33
    go_wp2
    go_ret
    exact ⟨by simp [inB, h], rfl⟩
  · have h' : n < 0 := by omega
    refine calls_wd ?_
    go_enter Try.func33, Try.ntmps33
    go_wp2
    go_ret
    exact ⟨by simp [inB]; omega, rfl⟩

set_option maxHeartbeats 400000 in
theorem rin_any (n e : Int) (w : World) :
    Calls Try.prog 34 #[.int .i64 n, .int .i64 e] w fun r w' => r = .returned (.bool (inB n e)) ∧ w = w' := by
  by_cases h : 0 ≤ n
  · refine calls_wd ?_
    go_enter Try.func34, Try.ntmps34
    go_wp2
    go_ret
    exact ⟨by simp [inB, h], rfl⟩
  · have h' : n < 0 := by omega
    refine calls_wd ?_
    go_enter Try.func34, Try.ntmps34
    go_wp2
    go_ret
    exact ⟨by simp [inB]; omega, rfl⟩

def chk (s r l a : Int) : Int := if inB s 1073741824 && inB r 1073741824 && inB l s && inB a 1099511627776 then 0 else 11
theorem callin (a : Act) (dst : Option Tmp) (t : Nat) (h : a.eval (.tmp t) = .func (.func 33) #[] #[]) (xs : Array Operand) (ats : Array TypeId) (ty : TypeId) (pos : String) (after : Array Edge) (guard : Option (Nat × Bool)) :
    execOp a.eval { dst, op := .call { callee := .value (.tmp t), args := xs, argTypes := ats }, type := ty, pos, after, guard } = callFunc 33 (#[] ++ xs.map a.eval ++ #[]) := execOp_call_tmp a dst t 33 #[] #[] h xs ats ty pos after guard
attribute [local go_sem ↓] callin

set_option maxHeartbeats 800000 in
theorem qchk_any (s r l a : Int) (w : World) :
    Calls Try.prog 21 #[.agg #[.int .i64 s, .int .i64 r, .int .i64 l, .int .i64 a]] w fun e w' => e = .returned (.int .i64 (chk s r l a)) ∧ More w w' := by
  rcases (Bool.eq_false_or_eq_true (inB s 1073741824)).symm with h1 | h1
  · refine calls_wd ?_
    go_enter Try.func21, Try.ntmps21
    go_wp2_with (refine (qin_any _ _ _).mono ?_; rintro e w' ⟨rfl, rfl⟩)
    go_ret
    exact ⟨by simp [chk, *], more_wd _ _ _⟩
  ·
    rcases (Bool.eq_false_or_eq_true (inB r 1073741824)).symm with h2 | h2
    · refine calls_wd ?_
      go_enter Try.func21, Try.ntmps21
      go_wp2_with (refine (qin_any _ _ _).mono ?_; rintro e w' ⟨rfl, rfl⟩)
      go_ret
      exact ⟨by simp [chk, *], more_wd _ _ _⟩
    ·
      rcases (Bool.eq_false_or_eq_true (inB l s)).symm with h3 | h3
      · refine calls_wd ?_
        go_enter Try.func21, Try.ntmps21
        go_wp2_with (refine (qin_any _ _ _).mono ?_; rintro e w' ⟨rfl, rfl⟩)
        go_ret
        exact ⟨by simp [chk, *], more_wd _ _ _⟩
      ·
        rcases (Bool.eq_false_or_eq_true (inB a 1099511627776)).symm with h4 | h4
        · refine calls_wd ?_
          go_enter Try.func21, Try.ntmps21
          go_wp2_with (refine (qin_any _ _ _).mono ?_; rintro e w' ⟨rfl, rfl⟩)
          go_ret
          exact ⟨by simp [chk, *], more_wd _ _ _⟩
        · refine calls_wd ?_
          go_enter Try.func21, Try.ntmps21
          go_wp2_with (refine (qin_any _ _ _).mono ?_; rintro e w' ⟨rfl, rfl⟩)
          go_ret
          exact ⟨by simp [chk, *], more_wd _ _ _⟩

set_option maxHeartbeats 800000 in
theorem rchk_any (s r l a : Int) (w : World) :
    Calls Try.prog 22 #[.agg #[.int .i64 s, .int .i64 r, .int .i64 l, .int .i64 a]] w fun e w' => e = .returned (.int .i64 (chk s r l a)) ∧ More w w' := by
  rcases (Bool.eq_false_or_eq_true (inB s 1073741824)).symm with h1 | h1
  · refine calls_wd ?_
    go_enter Try.func22, Try.ntmps22
    go_wp2_with (refine (rin_any _ _ _).mono ?_; rintro e w' ⟨rfl, rfl⟩)
    go_ret
    exact ⟨by simp [chk, *], more_wd _ _ _⟩
  ·
    rcases (Bool.eq_false_or_eq_true (inB r 1073741824)).symm with h2 | h2
    · refine calls_wd ?_
      go_enter Try.func22, Try.ntmps22
      go_wp2_with (refine (rin_any _ _ _).mono ?_; rintro e w' ⟨rfl, rfl⟩)
      go_ret
      exact ⟨by simp [chk, *], more_wd _ _ _⟩
    ·
      rcases (Bool.eq_false_or_eq_true (inB l s)).symm with h3 | h3
      · refine calls_wd ?_
        go_enter Try.func22, Try.ntmps22
        go_wp2_with (refine (rin_any _ _ _).mono ?_; rintro e w' ⟨rfl, rfl⟩)
        go_ret
        exact ⟨by simp [chk, *], more_wd _ _ _⟩
      ·
        rcases (Bool.eq_false_or_eq_true (inB a 1099511627776)).symm with h4 | h4
        · refine calls_wd ?_
          go_enter Try.func22, Try.ntmps22
          go_wp2_with (refine (rin_any _ _ _).mono ?_; rintro e w' ⟨rfl, rfl⟩)
          go_ret
          exact ⟨by simp [chk, *], more_wd _ _ _⟩
        · refine calls_wd ?_
          go_enter Try.func22, Try.ntmps22
          go_wp2_with (refine (rin_any _ _ _).mono ?_; rintro e w' ⟨rfl, rfl⟩)
          go_ret
          exact ⟨by simp [chk, *], more_wd _ _ _⟩
end Go.Proofs.Ytlahfjnfidhleaa
