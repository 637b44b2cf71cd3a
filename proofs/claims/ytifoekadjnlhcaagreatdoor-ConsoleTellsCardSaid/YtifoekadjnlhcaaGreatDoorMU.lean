/- console: step, whatever the words; Words; the closure that Parse defers. -/
import Derived.Test.YtifoekadjnlhcaaGreatDoorMS
import Derived.Test.YtifoekadjnlhcaaGreatDoorMR
import Derived.Test.YtifoekadjnlhcaaGreatDoorMJ
import Derived.Test.YtifoekadjnlhcaaGreatDoorMT
import Derived.Defers
import Derived.Recover
namespace Go.Proofs.YtifoekadjnlhcaaGreatDoor
open Go.ChangeShapes Go.WideShapes Go.ChangeAt Go.RowKit
set_option linter.unusedVariables false
set_option linter.unusedSimpArgs false
theorem step_any (p : Nat) (v : Value) (ws : List Word) (w : World) (h0 : CS w p v ws) : Calls Tryz.prog 25 #[.pointer (some ⟨p, 0, none⟩)] w fun e w' => StepRet w w' e p v ws := by
  cases ws with
  | nil => exact step_nil p v w h0
  | cons t r =>
    cases hq : requestW t r with
    | none => exact step_reqno p v t r w h0 hq
    | some y =>
      obtain ⟨q, r2⟩ := y
      cases q with
      | some q => exact step_req p v t r q r2 w h0 hq
      | none =>
        by_cases h1 : t = w_tick
        · subst h1
          cases hn : tkN r with
          | none => exact step_tick_no0 p v r hn w h0
          | some z => obtain ⟨n, r0⟩ := z; exact step_tick p v r n r0 hn w h0
        by_cases h2 : t = w_work
        · subst h2
          cases hn : tkN r with
          | none => exact step_work_no0 p v r hn w h0
          | some z => obtain ⟨n, r0⟩ := z; exact step_work p v r n r0 hn w h0
        by_cases h3 : t = w_fail
        · subst h3
          cases hn : tkN r with
          | none => exact step_fail_no0 p v r hn w h0
          | some z =>
            obtain ⟨n, r0⟩ := z
            cases hy : tkY r0 with
            | none => exact step_fail_no1 p v r n r0 hn hy w h0
            | some z => obtain ⟨y, r1⟩ := z; exact step_fail p v r n r0 hn y r1 hy w h0
        by_cases h4 : t = w_crash
        · subst h4; exact step_crash p v r w h0
        by_cases h5 : t = w_open
        · subst h5; exact step_open p v r w h0
        exact step_other p v t r r2 w h0 hq h1 h2 h3 h4 h5
theorem srd_words (w : World) (L : List (Array Obj)) (n : Nat) (line : List UInt8) (hl : line.length < 4294967281) :
    SRd (wd w (#[.cells ((splitC 32 line).flatMap strCell).toArray 9] :: L) n) (.slice (some ⟨sz w.heap.size (shape L), 0, none⟩) (splitC 32 line).length (splitC 32 line).length) (splitC 32 line) := by
  have h1 := splitC_len_le 32 line
  refine ⟨⟨_, _, rfl, Nat.le_refl _, by unfold maxLen; omega, fun _ => ⟨_, 0, rfl, ?_, fun i s hs => ?_⟩⟩, fun s hs => ?_⟩
  · rw [wd_size]; simp only [shape, sz]; simp
  · rw [Nat.zero_add]
    simp only [World.cell?, wd_at w L n _ _ _ rfl rfl]
    have h2 := flat_at strCell 1 strCell_len (splitC 32 line) i s 0 hs (by omega)
    rw [Nat.mul_one, Nat.add_zero] at h2
    simpa [strCell] using h2
  · have := splitC_each 32 line s hs; omega
structure WordsRet (w w' : World) (e : Ending) (line : List UInt8) : Prop where
  out : ∃ v x n, e = .returned v ∧ w' = plus w x n ∧ SRd w' v (splitC 32 line)
set_option maxRecDepth 100000 in
set_option maxHeartbeats 800000 in
theorem cwords_any (line : List UInt8) (w : World) (hl : line.length < 4294967281) : Calls Tryz.prog 11 #[.string (str line)] w fun e w' => WordsRet w w' e line := by
  have HSR := Lib.hid (fun n => srd_words w [] n line hl)
  have HSP := Lib.hid (fun n => split_any line 32 (wd w [] n) hl)
  have hc : Value.string (ByteArray.mk #[32]) = .string (str [32]) := rfl
  obtain ⟨S, hS⟩ : ∃ S, splitC 32 line = S := ⟨_, rfl⟩
  obtain ⟨C, hC⟩ : ∃ C, ((splitC 32 line).flatMap strCell).toArray = C := ⟨_, rfl⟩
  obtain ⟨N, hN⟩ : ∃ N, (splitC 32 line).length = N := ⟨_, rfl⟩
  rw [hC, hN] at HSR HSP
  refine calls_wd ?_
  go_enter Tryz.func11, Tryz.ntmps11
  go_wp2_with (first | (go_at_call 33; refine (HSP.out _).mono ?_; rintro e w1 ⟨rfl, rfl⟩))
  go_ret
  exact ⟨_, #[.cells C 9], _, rfl, rfl, HSR.out _⟩
theorem pad24 (a b : Value) : (#[a, b] ++ Array.replicate (Tryz.f24.ntmps - (#[a, b] : Array Value).size) undef : Array Value) = #[a, b, undef, undef, undef, undef, undef, undef, undef, undef, undef, undef] := by rw [Tryz.ntmps24]; rfl
theorem assert_fault (W : World) : (Instr.typeAssert (.iface 64 (.agg #[])) 20 64 true).run Tryz.prog W = .ok (.tuple #[.agg #[], .bool true]) W := by
  simp [Instr.typeAssert, go_sem, Tryz.underlying64]
set_option maxRecDepth 100000 in
set_option maxHeartbeats 1600000 in
theorem catch_pan (w : World) (X : Array Obj) (s : Stp) (a : Option Addr) (cap : Nat) (f : Option Addr) (fc n : Nat) :
    CallsD Tryz.prog 24 #[.pointer (some ⟨sz w.heap.size [], 0, none⟩), .pointer (some ⟨sz w.heap.size [1], 0, none⟩)] (.panicking [{ v := .iface 64 (.agg #[]), recovered := false }])
      (wd w [X, #[.cells #[.int .i64 0] 31], #[.cells (stp s a cap f fc) 30]] n) fun e u' w' =>
      e = .returned (.tuple #[]) ∧ u' = .panicking [{ v := .iface 64 (.agg #[]), recovered := true }] ∧ ∃ Y m, w' = wd w [Y, #[.cells #[.int .i64 60] 31], #[.cells (stp (stpBlank 0) none 0 none 0) 30]] m := by
  have hta := assert_fault
  refine callsD_of_wpS Tryz.func24 rfl fun c₀ cs hu => ?_
  rw [pad24]
  apply wpS_seq
  apply wpS_region
  simp [wpOpsS, go_sem, recoverD, hu, Tryz.ntmps24, Exit.thenS]
  refine wpS_of_wp ?_
  go_wp2
  simp [bodyPostS, results, Tryz.results24, go_sem]
  exact ⟨_, _, wd_merge _ _ _ _ _⟩
theorem catch_idle (w : World) (p q : Value) : CallsD Tryz.prog 24 #[p, q] .returning w fun e u' w' => e = .returned (.tuple #[]) ∧ u' = .returning ∧ w' = w := by
  refine callsD_of_wpS Tryz.func24 rfl fun c₀ cs hu => ?_
  apply wpS_seq
  apply wpS_region
  simp [wpOpsS, go_sem, recoverD, hu, Tryz.ntmps24, Exit.thenS]
  refine wpS_of_wp ?_
  go_wp2
  cases c₀
  simp_all [bodyPostS, results, Tryz.results24]
end Go.Proofs.YtifoekadjnlhcaaGreatDoor
