/- wire: whether two requests are one; the letters of a kind. -/
import Derived.Test.YtifoekadjnlhcaaGreatDoorMH
import Derived.Test.YtifoekadjnlhcaaGreatDoorME
import Derived.Laws.RangeString
import Derived.Deep.LoopGhost
namespace Go.Proofs.YtifoekadjnlhcaaGreatDoor
open Go.ChangeShapes Go.WideShapes Go.ChangeAt Go.RowKit
set_option linter.unusedVariables false
set_option linter.unusedSimpArgs false
abbrev BOwn (W w : World) (L : List (Array Obj)) (v : Value) (l : List UInt8) : Prop := W.ownsRow (sz w.heap.size (shape L)) 5 1 v l.length (Lib.byteCells l)
def max3 (x y z : Int) : Int := if z > (if y > x then y else x) then z else (if y > x then y else x)
theorem run_max3 {P : Program} (ts : Array TypeId) (t : TypeId) (k k' k'' : IntKind) (x y z : Int) (w : World) : (Builtin.max_ ts t #[.int k x, .int k' y, .int k'' z]).run P w = .ok (.int k (max3 x y z)) w := run_max_int3 w ts t k k' k'' x y z
attribute [local go_sem 2000] run_max3
end Go.Proofs.YtifoekadjnlhcaaGreatDoor
namespace Go.Proofs.YtifoekadjnlhcaaGreatDoor
open Go.ChangeShapes Go.WideShapes Go.ChangeAt Go.RowKit
set_option linter.unusedVariables false
set_option linter.unusedSimpArgs false
set_option maxRecDepth 100000 in
set_option maxHeartbeats 6400000 in
theorem rsame_req (xk : Nat) (xtp : List UInt8) (xix xpa : Int) (xco xfl : Bool) (xof xmo xti : Int) (xgr xme : List UInt8) (xge xb0 xb1 xb2 xb3 xb4 : Int) (xrs : List Rec) (yk : Nat) (ytp : List UInt8) (yix ypa : Int) (yco yfl : Bool) (yof ymo yti : Int) (ygr yme : List UInt8) (yge yb0 yb1 yb2 yb3 yb4 : Int) (yrs : List Rec) (a1 a2 : Option Addr) (c1 c2 : Nat) (w : World) (h1 : RecsAt w a1 xrs) (h2 : RecsAt w a2 yrs) (hm1 : xrs.length ≤ maxLen) (hm2 : yrs.length ≤ maxLen) :
    Calls Tryz.prog 32 #[.agg #[.int .u8 (xk : Nat), .string (str xtp), .int .i64 xix, .int .i64 xpa, .bool xco, .bool xfl, .int .i64 xof, .int .i64 xmo, .int .i64 xti, .string (str xgr), .string (str xme), .int .i64 xge, .int .i64 xb0, .int .i64 xb1, .int .i64 xb2, .int .i64 xb3, .int .i64 xb4, .slice a1 xrs.length c1], .agg #[.int .u8 (yk : Nat), .string (str ytp), .int .i64 yix, .int .i64 ypa, .bool yco, .bool yfl, .int .i64 yof, .int .i64 ymo, .int .i64 yti, .string (str ygr), .string (str yme), .int .i64 yge, .int .i64 yb0, .int .i64 yb1, .int .i64 yb2, .int .i64 yb3, .int .i64 yb4, .slice a2 yrs.length c2]] w fun e w' =>
    e = .returned (.bool (decide ((⟨xk, xtp, xix, xpa, xco, xfl, xof, xmo, xti, xgr, xme, xge, ⟨xb0, xb1, xb2, xb3, xb4, xrs⟩⟩ : Req) = ⟨yk, ytp, yix, ypa, yco, yfl, yof, ymo, yti, ygr, yme, yge, ⟨yb0, yb1, yb2, yb3, yb4, yrs⟩⟩))) ∧ More w w' := by
  have hs := fun W h1 h2 => rsame_bat ⟨xb0, xb1, xb2, xb3, xb4, xrs⟩ ⟨yb0, yb1, yb2, yb3, yb4, yrs⟩ a1 a2 c1 c2 W h1 h2 hm1 hm2
  have HQ := Lib.hid hs
  have H1 := Lib.hid h1
  have H2 := Lib.hid h2
  unfold maxLen at hm1 hm2
  clear hs h1 h2
  refine calls_wd ?_
  go_enter Tryz.func32, Tryz.ntmps32
  go_wp2_with (first | (go_at_call 54; ((with_reducible refine (HQ.out _ (H1.out.more (more_wd _ _ _)) (H2.out.more (more_wd _ _ _))).mono ?_); rintro e w1 ⟨rfl, x1, n1, rfl⟩)))
  all_goals (go_ret; refine ⟨ret_b ?_, more_wd _ _ _⟩; clear HQ H1 H2; first | (symm; rw [decide_eq_false_iff_not]; intro h; rw [req_eq] at h; dsimp only at h; obtain ⟨rfl, rfl, rfl, rfl, rfl, rfl, rfl, rfl, rfl, rfl, rfl, rfl, _⟩ := h; simp_all; done) | (rw [Bool.eq_iff_iff]; (try simp only [str_toList, bne_eq_false_iff_eq] at *); simp only [Bool.and_eq_true, decide_eq_true_eq, req_eq, bat_eq]; constructor; (rintro ⟨g0, g1, g2, g3, g4, g5⟩; exact ⟨by omega, by assumption, by assumption, by assumption, by assumption, by assumption, by assumption, by assumption, by assumption, by assumption, by assumption, by assumption, g0, g1, g2, g3, g4, g5⟩); (rintro ⟨_, _, _, _, _, _, _, _, _, _, _, _, g0, g1, g2, g3, g4, g5⟩; exact ⟨g0, g1, g2, g3, g4, g5⟩)) | (have hne : ¬ xk = yk := (by omega); simp [hne]; done) | (simp only [Req.mk.injEq, str_toList] at * <;> simp_all; done))
theorem rsame_q (x y : Req) (a1 a2 : Option Addr) (c1 c2 : Nat) (w : World) (h1 : RecsAt w a1 x.batch.recs) (h2 : RecsAt w a2 y.batch.recs) (hm1 : x.batch.recs.length ≤ maxLen) (hm2 : y.batch.recs.length ≤ maxLen) :
    Calls Tryz.prog 32 #[.agg (rq x a1 c1), .agg (rq y a2 c2)] w fun e w' => e = .returned (.bool (decide (x = y))) ∧ More w w' := by
  obtain ⟨xk, xtp, xix, xpa, xco, xfl, xof, xmo, xti, xgr, xme, xge, ⟨xb0, xb1, xb2, xb3, xb4, xrs⟩⟩ := x
  obtain ⟨yk, ytp, yix, ypa, yco, yfl, yof, ymo, yti, ygr, yme, yge, ⟨yb0, yb1, yb2, yb3, yb4, yrs⟩⟩ := y
  exact rsame_req xk xtp xix xpa xco xfl xof xmo xti xgr xme xge xb0 xb1 xb2 xb3 xb4 xrs yk ytp yix ypa yco yfl yof ymo yti ygr yme yge yb0 yb1 yb2 yb3 yb4 yrs a1 a2 c1 c2 w h1 h2 hm1 hm2
@[go_sem] theorem rq_set17 (x : Req) (a0 a : Option Addr) (c0 cap : Nat) (l : List Rec) : (rq x a0 c0).setIfInBounds 17 (.slice a l.length cap) = rq { x with batch := { x.batch with recs := l } } a cap := by unfold rq reqCells; rfl
def reqOnly (q : Req) : Req :=
  ⟨q.kind, if 116 ∈ usesL q.kind then q.topic else [], if 105 ∈ usesL q.kind then q.index else 0, if 112 ∈ usesL q.kind then q.parts else 0, if 112 ∈ usesL q.kind then q.compact else false, if 102 ∈ usesL q.kind then q.flush else false,
    if 111 ∈ usesL q.kind then q.offset else 0, if 109 ∈ usesL q.kind then q.most else 0, if 119 ∈ usesL q.kind then q.time else 0, if 103 ∈ usesL q.kind then q.group else [], if 107 ∈ usesL q.kind then q.member else [], if 110 ∈ usesL q.kind then q.gen else 0,
    if 102 ∈ usesL q.kind then q.batch else Bat.zero⟩
end Go.Proofs.YtifoekadjnlhcaaGreatDoor
