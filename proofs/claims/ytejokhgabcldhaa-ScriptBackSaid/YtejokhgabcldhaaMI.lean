/- wire: whether two requests are one; the letters of a kind. -/
import Derived.Test.YtejokhgabcldhaaMG
import Derived.Test.YtejokhgabcldhaaME
import Derived.Laws.RangeString
namespace Go.Proofs.Ytejokhgabcldhaa
open Go.ChangeShapes Go.WideShapes Go.ChangeAt Go.RowKit
set_option linter.unusedVariables false
set_option linter.unusedSimpArgs false

theorem bool_beq_dec {α : Type} [DecidableEq α] (a b : α) : (a == b) = decide (a = b) := by
  by_cases h : a = b <;> simp [h]
set_option maxRecDepth 100000 in
set_option maxHeartbeats 6400000 in
theorem same_req (xk : Nat) (xtp : List UInt8) (xix xpa : Int) (xco xfl : Bool) (xof xmo xti : Int) (xgr xme : List UInt8) (xge xb0 xb1 xb2 xb3 xb4 : Int) (xrs : List Rec) (yk : Nat) (ytp : List UInt8) (yix ypa : Int) (yco yfl : Bool) (yof ymo yti : Int) (ygr yme : List UInt8) (yge yb0 yb1 yb2 yb3 yb4 : Int) (yrs : List Rec) (a1 a2 : Option Addr) (c1 c2 : Nat) (w : World) (h1 : RecsAt w a1 xrs) (h2 : RecsAt w a2 yrs) (hm1 : xrs.length ≤ maxLen) (hm2 : yrs.length ≤ maxLen) :
    Calls Try.prog 56 #[.agg #[.int .u8 (xk : Nat), .string (str xtp), .int .i64 xix, .int .i64 xpa, .bool xco, .bool xfl, .int .i64 xof, .int .i64 xmo, .int .i64 xti, .string (str xgr), .string (str xme), .int .i64 xge, .int .i64 xb0, .int .i64 xb1, .int .i64 xb2, .int .i64 xb3, .int .i64 xb4, .slice a1 xrs.length c1], .agg #[.int .u8 (yk : Nat), .string (str ytp), .int .i64 yix, .int .i64 ypa, .bool yco, .bool yfl, .int .i64 yof, .int .i64 ymo, .int .i64 yti, .string (str ygr), .string (str yme), .int .i64 yge, .int .i64 yb0, .int .i64 yb1, .int .i64 yb2, .int .i64 yb3, .int .i64 yb4, .slice a2 yrs.length c2]] w fun e w' =>
    e = .returned (.bool (decide ((⟨xk, xtp, xix, xpa, xco, xfl, xof, xmo, xti, xgr, xme, xge, ⟨xb0, xb1, xb2, xb3, xb4, xrs⟩⟩ : Req) = ⟨yk, ytp, yix, ypa, yco, yfl, yof, ymo, yti, ygr, yme, yge, ⟨yb0, yb1, yb2, yb3, yb4, yrs⟩⟩))) ∧ More w w' := by
  have hs := fun W h1 h2 => same_bat ⟨xb0, xb1, xb2, xb3, xb4, xrs⟩ ⟨yb0, yb1, yb2, yb3, yb4, yrs⟩ a1 a2 c1 c2 W h1 h2 hm1 hm2
  have HQ := Lib.hid hs
  have H1 := Lib.hid h1
  have H2 := Lib.hid h2
  unfold maxLen at hm1 hm2
  clear hs h1 h2
  refine calls_wd ?_
  go_enter Try.func56, Try.ntmps56
  go_wp2_with (first | (go_at_call 107; ((with_reducible refine (HQ.out _ (H1.out.more (more_wd _ _ _)) (H2.out.more (more_wd _ _ _))).mono ?_); rintro e w1 ⟨rfl, x1, n1, rfl⟩)))
  all_goals (go_ret; refine ⟨ret_b ?_, more_wd _ _ _⟩; clear HQ H1 H2; first | (symm; rw [decide_eq_false_iff_not]; intro h; rw [req_eq] at h; dsimp only at h; obtain ⟨rfl, rfl, rfl, rfl, rfl, rfl, rfl, rfl, rfl, rfl, rfl, rfl, _⟩ := h; simp_all; done) | (rw [Bool.eq_iff_iff]; (try simp only [str_toList, bne_eq_false_iff_eq] at *); simp only [Bool.and_eq_true, decide_eq_true_eq, req_eq, bat_eq]; constructor; (rintro ⟨g0, g1, g2, g3, g4, g5⟩; exact ⟨by omega, by assumption, by assumption, by assumption, by assumption, by assumption, by assumption, by assumption, by assumption, by assumption, by assumption, by assumption, g0, g1, g2, g3, g4, g5⟩); (rintro ⟨_, _, _, _, _, _, _, _, _, _, _, _, g0, g1, g2, g3, g4, g5⟩; exact ⟨g0, g1, g2, g3, g4, g5⟩)) | (have hne : ¬ xk = yk := (by omega); simp [hne]; done) | (simp only [Req.mk.injEq, str_toList] at * <;> simp_all; done))
end Go.Proofs.Ytejokhgabcldhaa
