/- script: whether two steps are one. -/
import Derived.Test.YtifoekadjnlhcaaGreatDoorMH
import Derived.Test.YtifoekadjnlhcaaGreatDoorMO
namespace Go.Proofs.YtifoekadjnlhcaaGreatDoor
open Go.ChangeShapes Go.WideShapes Go.ChangeAt Go.RowKit
set_option linter.unusedVariables false
set_option linter.unusedSimpArgs false
structure StpAt (w : World) (s : Stp) (a : Option Addr) (f : Option Addr) (fc : Nat) : Prop where
  r : RecsAt w a s.q.batch.recs
  f : RB w (.slice f s.fate.length fc) s.fate
theorem StpAt.more {w w' : World} {s : Stp} {a f : Option Addr} {fc : Nat} (h : StpAt w s a f fc) (hm : More w w') : StpAt w' s a f fc := ⟨h.r.more hm, h.f.more hm⟩
theorem stp_dec (x y : Stp) : decide (x = y) = (decide (x.kind = y.kind) && decide (x.q = y.q) && decide (x.n = y.n) && decide (x.done = y.done) && decide (x.fate = y.fate)) := by
  rw [Bool.eq_iff_iff]
  simp only [Bool.and_eq_true, decide_eq_true_eq, stp_eq, and_assoc]
set_option maxRecDepth 100000 in
set_option maxHeartbeats 3200000 in
theorem rsame_stp (x y : Stp) (a1 a2 : Option Addr) (c1 c2 : Nat) (f1 f2 : Option Addr) (d1 d2 : Nat) (w : World) (h1 : StpAt w x a1 f1 d1) (h2 : StpAt w y a2 f2 d2) (hm1 : x.q.batch.recs.length ≤ maxLen) (hm2 : y.q.batch.recs.length ≤ maxLen) :
    Calls Tryz.prog 9 #[.agg (stp x a1 c1 f1 d1), .agg (stp y a2 c2 f2 d2)] w fun e w' => e = .returned (.bool (decide (x = y))) ∧ More w w' := by
  have HQ := Lib.hid (fun W g1 g2 => rsame_q x.q y.q a1 a2 c1 c2 W g1 g2 hm1 hm2)
  have H1 := Lib.hid h1
  have H2 := Lib.hid h2
  have HX := Lib.hid (stp_dec x y)
  have hc1 := fun (L : List (Array Obj)) (n : Nat) => (h1.f.more (more_wd w L n)).run_str (P := Tryz.prog) 28 9 5 Tryz.underlying28 Tryz.underlying5 Tryz.underlying9
  have hc2 := fun (L : List (Array Obj)) (n : Nat) => (h2.f.more (more_wd w L n)).run_str (P := Tryz.prog) 28 9 5 Tryz.underlying28 Tryz.underlying5 Tryz.underlying9
  clear h1 h2 hm1 hm2
  refine calls_wd ?_
  go_enter Tryz.func9, Tryz.ntmps9
  go_wp2_with (first
    | (go_at_call 32; ((with_reducible refine (HQ.out _ (H1.out.r.more (more_wd _ _ _)) (H2.out.r.more (more_wd _ _ _))).mono ?_); rintro e w1 ⟨rfl, x1, n1, rfl⟩)))
  all_goals go_ret
  all_goals (refine ⟨ret_b ?_, more_wd _ _ _⟩; rw [HX.out]; clear HX HQ H1 H2 hc1 hc2; symm; simp_all [str_beq] <;> (intros; omega))
end Go.Proofs.YtifoekadjnlhcaaGreatDoor
