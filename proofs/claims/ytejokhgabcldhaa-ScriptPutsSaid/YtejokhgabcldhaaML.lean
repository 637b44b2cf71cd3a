/- wire: a request with just the fields of its kind. -/
import Derived.Test.YtejokhgabcldhaaMK2
import Derived.Test.YtejokhgabcldhaaMJ
import Derived.Test.YtejokhgabcldhaaMG
namespace Go.Proofs.Ytejokhgabcldhaa
open Go.ChangeShapes Go.WideShapes Go.ChangeAt Go.RowKit
set_option linter.unusedVariables false
set_option linter.unusedSimpArgs false

theorem rsame_q (x y : Req) (a1 a2 : Option Addr) (c1 c2 : Nat) (w : World) (h1 : RecsAt w a1 x.batch.recs) (h2 : RecsAt w a2 y.batch.recs) (hm1 : x.batch.recs.length ≤ maxLen) (hm2 : y.batch.recs.length ≤ maxLen) :
    Calls Try.prog 58 #[.agg (rq x a1 c1), .agg (rq y a2 c2)] w fun e w' => e = .returned (.bool (decide (x = y))) ∧ More w w' := by
  obtain ⟨xk, xtp, xix, xpa, xco, xfl, xof, xmo, xti, xgr, xme, xge, ⟨xb0, xb1, xb2, xb3, xb4, xrs⟩⟩ := x
  obtain ⟨yk, ytp, yix, ypa, yco, yfl, yof, ymo, yti, ygr, yme, yge, ⟨yb0, yb1, yb2, yb3, yb4, yrs⟩⟩ := y
  exact rsame_req xk xtp xix xpa xco xfl xof xmo xti xgr xme xge xb0 xb1 xb2 xb3 xb4 xrs yk ytp yix ypa yco yfl yof ymo yti ygr yme yge yb0 yb1 yb2 yb3 yb4 yrs a1 a2 c1 c2 w h1 h2 hm1 hm2
@[go_sem] theorem rq_set17 (x : Req) (a0 a : Option Addr) (c0 cap : Nat) (l : List Rec) : (rq x a0 c0).setIfInBounds 17 (.slice a l.length cap) = rq { x with batch := { x.batch with recs := l } } a cap := by unfold rq reqCells; rfl
def reqOnly (q : Req) : Req :=
  ⟨q.kind, if 116 ∈ usesL q.kind then q.topic else [], if 105 ∈ usesL q.kind then q.index else 0, if 112 ∈ usesL q.kind then q.parts else 0, if 112 ∈ usesL q.kind then q.compact else false, if 102 ∈ usesL q.kind then q.flush else false,
    if 111 ∈ usesL q.kind then q.offset else 0, if 109 ∈ usesL q.kind then q.most else 0, if 119 ∈ usesL q.kind then q.time else 0, if 103 ∈ usesL q.kind then q.group else [], if 107 ∈ usesL q.kind then q.member else [], if 110 ∈ usesL q.kind then q.gen else 0,
    if 102 ∈ usesL q.kind then q.batch else Bat.zero⟩
theorem only_val_tpc (q : Req) (hu : usesL q.kind = [116, 112, 99]) : reqOnly q = ⟨q.kind, q.topic, 0, q.parts, q.compact, false, 0, 0, 0, [], [], 0, Bat.zero⟩ := by unfold reqOnly; rw [hu]; rfl
set_option maxRecDepth 100000 in
set_option maxHeartbeats 3200000 in
theorem only_tpc (q : Req) (a : Option Addr) (cap : Nat) (w : World) (hk : q.kind < 256) (hu : usesL q.kind = [116, 112, 99]) : Calls Try.prog 101 #[.agg (rq q a cap)] w fun x w' => x = .returned (.agg (rq (reqOnly q) none 0)) ∧ More w w' := by
  rw [only_val_tpc q hu]
  have hU := fun W => ruses_any q.kind hk W
  rw [hu] at hU
  have HU := Lib.hid hU
  have k116 := Lib.hid (fun W => has_any [116, 112, 99] 116 116 true rfl (by decide) (by decide) W)
  have k105 := Lib.hid (fun W => has_any [116, 112, 99] 105 105 false rfl (by decide) (by decide) W)
  have k112 := Lib.hid (fun W => has_any [116, 112, 99] 112 112 true rfl (by decide) (by decide) W)
  have k102 := Lib.hid (fun W => has_any [116, 112, 99] 102 102 false rfl (by decide) (by decide) W)
  have k111 := Lib.hid (fun W => has_any [116, 112, 99] 111 111 false rfl (by decide) (by decide) W)
  have k109 := Lib.hid (fun W => has_any [116, 112, 99] 109 109 false rfl (by decide) (by decide) W)
  have k119 := Lib.hid (fun W => has_any [116, 112, 99] 119 119 false rfl (by decide) (by decide) W)
  have k103 := Lib.hid (fun W => has_any [116, 112, 99] 103 103 false rfl (by decide) (by decide) W)
  have k107 := Lib.hid (fun W => has_any [116, 112, 99] 107 107 false rfl (by decide) (by decide) W)
  have k110 := Lib.hid (fun W => has_any [116, 112, 99] 110 110 false rfl (by decide) (by decide) W)
  clear hU hu
  refine calls_wd ?_
  go_enter Try.func101, Try.ntmps101
  go_wp2_with (first | (go_at_call 103; ((with_reducible refine (HU.out _).mono ?_); rintro e w1 ⟨rfl, rfl⟩)) | (go_at_call 135; ((with_reducible refine (k116.out _).mono ?_); rintro e w1 ⟨rfl, rfl⟩)) | (go_at_call 135; ((with_reducible refine (k105.out _).mono ?_); rintro e w1 ⟨rfl, rfl⟩)) | (go_at_call 135; ((with_reducible refine (k112.out _).mono ?_); rintro e w1 ⟨rfl, rfl⟩)) | (go_at_call 135; ((with_reducible refine (k102.out _).mono ?_); rintro e w1 ⟨rfl, rfl⟩)) | (go_at_call 135; ((with_reducible refine (k111.out _).mono ?_); rintro e w1 ⟨rfl, rfl⟩)) | (go_at_call 135; ((with_reducible refine (k109.out _).mono ?_); rintro e w1 ⟨rfl, rfl⟩)) | (go_at_call 135; ((with_reducible refine (k119.out _).mono ?_); rintro e w1 ⟨rfl, rfl⟩)) | (go_at_call 135; ((with_reducible refine (k103.out _).mono ?_); rintro e w1 ⟨rfl, rfl⟩)) | (go_at_call 135; ((with_reducible refine (k107.out _).mono ?_); rintro e w1 ⟨rfl, rfl⟩)) | (go_at_call 135; ((with_reducible refine (k110.out _).mono ?_); rintro e w1 ⟨rfl, rfl⟩)))
  refine wp_region_mixf (fun (s : Req × Option Addr × Nat) => wd w [#[.cells (rq s.1 s.2.1 s.2.2) 27], #[.cells (rq (reqBlank 0) none 0) 27], #[.cells (rq q a cap) 27]] (w.drawn + 1)) (({ reqBlank q.kind with topic := q.topic }, none, 0)) [0, 1, 2, 3, 4] [5, 6, 7] [true, true, true, true, true] [false, false, false, false, false, true, true, true] rfl ⟨rfl, rfl⟩ (by kernel_rfl) (by kernel_rfl) (fun _ _ d _ _ h => by cases d <;> exact h) ?_
  apply Exists.intro
  refine ⟨?_, ?_⟩
  · intro E
    simp only [sel_t, sel_f, sel_n]
    repeat (go_big_quiet_step ((fail)))
    exact wpQuiet_nil rfl
  simp only [sel_t, sel_f, sel_n, loudly_cons, loudly_nil]
  go_wp2
  refine ⟨⟨(_, _, _), rfl⟩, ?_⟩
  rw [loudly_cons]
  go_wp2
  refine ⟨⟨(_, _, _), rfl⟩, ?_⟩
  rw [loudly_cons]
  go_wp2
  refine ⟨⟨(_, _, _), rfl⟩, ?_⟩
  rw [loudly_nil]
  go_wp2_with (first | (go_at_call 103; ((with_reducible refine (HU.out _).mono ?_); rintro e w1 ⟨rfl, rfl⟩)) | (go_at_call 135; ((with_reducible refine (k116.out _).mono ?_); rintro e w1 ⟨rfl, rfl⟩)) | (go_at_call 135; ((with_reducible refine (k105.out _).mono ?_); rintro e w1 ⟨rfl, rfl⟩)) | (go_at_call 135; ((with_reducible refine (k112.out _).mono ?_); rintro e w1 ⟨rfl, rfl⟩)) | (go_at_call 135; ((with_reducible refine (k102.out _).mono ?_); rintro e w1 ⟨rfl, rfl⟩)) | (go_at_call 135; ((with_reducible refine (k111.out _).mono ?_); rintro e w1 ⟨rfl, rfl⟩)) | (go_at_call 135; ((with_reducible refine (k109.out _).mono ?_); rintro e w1 ⟨rfl, rfl⟩)) | (go_at_call 135; ((with_reducible refine (k119.out _).mono ?_); rintro e w1 ⟨rfl, rfl⟩)) | (go_at_call 135; ((with_reducible refine (k103.out _).mono ?_); rintro e w1 ⟨rfl, rfl⟩)) | (go_at_call 135; ((with_reducible refine (k107.out _).mono ?_); rintro e w1 ⟨rfl, rfl⟩)) | (go_at_call 135; ((with_reducible refine (k110.out _).mono ?_); rintro e w1 ⟨rfl, rfl⟩)))
  refine bodyPost_ret (v := .agg (rq ⟨q.kind, q.topic, 0, q.parts, q.compact, false, 0, 0, 0, [], [], 0, Bat.zero⟩ none 0)) ?_ rfl ⟨rfl, more_wd _ _ _⟩
  simp [results, Try.results101, go_sem]
  try rfl
theorem only_val_t (q : Req) (hu : usesL q.kind = [116]) : reqOnly q = ⟨q.kind, q.topic, 0, 0, false, false, 0, 0, 0, [], [], 0, Bat.zero⟩ := by unfold reqOnly; rw [hu]; rfl
set_option maxRecDepth 100000 in
set_option maxHeartbeats 3200000 in
theorem only_t (q : Req) (a : Option Addr) (cap : Nat) (w : World) (hk : q.kind < 256) (hu : usesL q.kind = [116]) : Calls Try.prog 101 #[.agg (rq q a cap)] w fun x w' => x = .returned (.agg (rq (reqOnly q) none 0)) ∧ More w w' := by
  rw [only_val_t q hu]
  have hU := fun W => ruses_any q.kind hk W
  rw [hu] at hU
  have HU := Lib.hid hU
  have k116 := Lib.hid (fun W => has_any [116] 116 116 true rfl (by decide) (by decide) W)
  have k105 := Lib.hid (fun W => has_any [116] 105 105 false rfl (by decide) (by decide) W)
  have k112 := Lib.hid (fun W => has_any [116] 112 112 false rfl (by decide) (by decide) W)
  have k102 := Lib.hid (fun W => has_any [116] 102 102 false rfl (by decide) (by decide) W)
  have k111 := Lib.hid (fun W => has_any [116] 111 111 false rfl (by decide) (by decide) W)
  have k109 := Lib.hid (fun W => has_any [116] 109 109 false rfl (by decide) (by decide) W)
  have k119 := Lib.hid (fun W => has_any [116] 119 119 false rfl (by decide) (by decide) W)
  have k103 := Lib.hid (fun W => has_any [116] 103 103 false rfl (by decide) (by decide) W)
  have k107 := Lib.hid (fun W => has_any [116] 107 107 false rfl (by decide) (by decide) W)
  have k110 := Lib.hid (fun W => has_any [116] 110 110 false rfl (by decide) (by decide) W)
  clear hU hu
  refine calls_wd ?_
  go_enter Try.func101, Try.ntmps101
  go_wp2_with (first | (go_at_call 103; ((with_reducible refine (HU.out _).mono ?_); rintro e w1 ⟨rfl, rfl⟩)) | (go_at_call 135; ((with_reducible refine (k116.out _).mono ?_); rintro e w1 ⟨rfl, rfl⟩)) | (go_at_call 135; ((with_reducible refine (k105.out _).mono ?_); rintro e w1 ⟨rfl, rfl⟩)) | (go_at_call 135; ((with_reducible refine (k112.out _).mono ?_); rintro e w1 ⟨rfl, rfl⟩)) | (go_at_call 135; ((with_reducible refine (k102.out _).mono ?_); rintro e w1 ⟨rfl, rfl⟩)) | (go_at_call 135; ((with_reducible refine (k111.out _).mono ?_); rintro e w1 ⟨rfl, rfl⟩)) | (go_at_call 135; ((with_reducible refine (k109.out _).mono ?_); rintro e w1 ⟨rfl, rfl⟩)) | (go_at_call 135; ((with_reducible refine (k119.out _).mono ?_); rintro e w1 ⟨rfl, rfl⟩)) | (go_at_call 135; ((with_reducible refine (k103.out _).mono ?_); rintro e w1 ⟨rfl, rfl⟩)) | (go_at_call 135; ((with_reducible refine (k107.out _).mono ?_); rintro e w1 ⟨rfl, rfl⟩)) | (go_at_call 135; ((with_reducible refine (k110.out _).mono ?_); rintro e w1 ⟨rfl, rfl⟩)))
  refine bodyPost_ret (v := .agg (rq ⟨q.kind, q.topic, 0, 0, false, false, 0, 0, 0, [], [], 0, Bat.zero⟩ none 0)) ?_ rfl ⟨rfl, more_wd _ _ _⟩
  simp [results, Try.results101, go_sem]
  try rfl
theorem only_val_tifb (q : Req) (hu : usesL q.kind = [116, 105, 102, 98]) : reqOnly q = ⟨q.kind, q.topic, q.index, 0, false, q.flush, 0, 0, 0, [], [], 0, q.batch⟩ := by unfold reqOnly; rw [hu]; rfl
set_option maxRecDepth 100000 in
set_option maxHeartbeats 3200000 in
theorem only_tifb (q : Req) (a : Option Addr) (cap : Nat) (w : World) (hk : q.kind < 256) (hu : usesL q.kind = [116, 105, 102, 98]) : Calls Try.prog 101 #[.agg (rq q a cap)] w fun x w' => x = .returned (.agg (rq (reqOnly q) a cap)) ∧ More w w' := by
  rw [only_val_tifb q hu]
  have hU := fun W => ruses_any q.kind hk W
  rw [hu] at hU
  have HU := Lib.hid hU
  have k116 := Lib.hid (fun W => has_any [116, 105, 102, 98] 116 116 true rfl (by decide) (by decide) W)
  have k105 := Lib.hid (fun W => has_any [116, 105, 102, 98] 105 105 true rfl (by decide) (by decide) W)
  have k112 := Lib.hid (fun W => has_any [116, 105, 102, 98] 112 112 false rfl (by decide) (by decide) W)
  have k102 := Lib.hid (fun W => has_any [116, 105, 102, 98] 102 102 true rfl (by decide) (by decide) W)
  have k111 := Lib.hid (fun W => has_any [116, 105, 102, 98] 111 111 false rfl (by decide) (by decide) W)
  have k109 := Lib.hid (fun W => has_any [116, 105, 102, 98] 109 109 false rfl (by decide) (by decide) W)
  have k119 := Lib.hid (fun W => has_any [116, 105, 102, 98] 119 119 false rfl (by decide) (by decide) W)
  have k103 := Lib.hid (fun W => has_any [116, 105, 102, 98] 103 103 false rfl (by decide) (by decide) W)
  have k107 := Lib.hid (fun W => has_any [116, 105, 102, 98] 107 107 false rfl (by decide) (by decide) W)
  have k110 := Lib.hid (fun W => has_any [116, 105, 102, 98] 110 110 false rfl (by decide) (by decide) W)
  clear hU hu
  refine calls_wd ?_
  go_enter Try.func101, Try.ntmps101
  go_wp2_with (first | (go_at_call 103; ((with_reducible refine (HU.out _).mono ?_); rintro e w1 ⟨rfl, rfl⟩)) | (go_at_call 135; ((with_reducible refine (k116.out _).mono ?_); rintro e w1 ⟨rfl, rfl⟩)) | (go_at_call 135; ((with_reducible refine (k105.out _).mono ?_); rintro e w1 ⟨rfl, rfl⟩)) | (go_at_call 135; ((with_reducible refine (k112.out _).mono ?_); rintro e w1 ⟨rfl, rfl⟩)) | (go_at_call 135; ((with_reducible refine (k102.out _).mono ?_); rintro e w1 ⟨rfl, rfl⟩)) | (go_at_call 135; ((with_reducible refine (k111.out _).mono ?_); rintro e w1 ⟨rfl, rfl⟩)) | (go_at_call 135; ((with_reducible refine (k109.out _).mono ?_); rintro e w1 ⟨rfl, rfl⟩)) | (go_at_call 135; ((with_reducible refine (k119.out _).mono ?_); rintro e w1 ⟨rfl, rfl⟩)) | (go_at_call 135; ((with_reducible refine (k103.out _).mono ?_); rintro e w1 ⟨rfl, rfl⟩)) | (go_at_call 135; ((with_reducible refine (k107.out _).mono ?_); rintro e w1 ⟨rfl, rfl⟩)) | (go_at_call 135; ((with_reducible refine (k110.out _).mono ?_); rintro e w1 ⟨rfl, rfl⟩)))
  refine wp_region_mixf (fun (s : Req × Option Addr × Nat) => wd w [#[.cells (rq s.1 s.2.1 s.2.2) 27], #[.cells (rq (reqBlank 0) none 0) 27], #[.cells (rq q a cap) 27]] (w.drawn + 1)) (({ ({ reqBlank q.kind with topic := q.topic } : Req) with index := q.index }, none, 0)) [0, 1, 2, 3, 4] [5, 6, 7] [true, true, true, true, true] [false, false, false, false, false, true, true, true] rfl ⟨rfl, rfl⟩ (by kernel_rfl) (by kernel_rfl) (fun _ _ d _ _ h => by cases d <;> exact h) ?_
  apply Exists.intro
  refine ⟨?_, ?_⟩
  · intro E
    simp only [sel_t, sel_f, sel_n]
    repeat (go_big_quiet_step ((fail)))
    exact wpQuiet_nil rfl
  simp only [sel_t, sel_f, sel_n, loudly_cons, loudly_nil]
  go_wp2
  refine ⟨⟨(_, _, _), rfl⟩, ?_⟩
  rw [loudly_cons]
  go_wp2
  refine ⟨⟨(_, _, _), rfl⟩, ?_⟩
  rw [loudly_cons]
  go_wp2
  refine ⟨⟨(_, _, _), rfl⟩, ?_⟩
  rw [loudly_nil]
  go_wp2_with (first | (go_at_call 103; ((with_reducible refine (HU.out _).mono ?_); rintro e w1 ⟨rfl, rfl⟩)) | (go_at_call 135; ((with_reducible refine (k116.out _).mono ?_); rintro e w1 ⟨rfl, rfl⟩)) | (go_at_call 135; ((with_reducible refine (k105.out _).mono ?_); rintro e w1 ⟨rfl, rfl⟩)) | (go_at_call 135; ((with_reducible refine (k112.out _).mono ?_); rintro e w1 ⟨rfl, rfl⟩)) | (go_at_call 135; ((with_reducible refine (k102.out _).mono ?_); rintro e w1 ⟨rfl, rfl⟩)) | (go_at_call 135; ((with_reducible refine (k111.out _).mono ?_); rintro e w1 ⟨rfl, rfl⟩)) | (go_at_call 135; ((with_reducible refine (k109.out _).mono ?_); rintro e w1 ⟨rfl, rfl⟩)) | (go_at_call 135; ((with_reducible refine (k119.out _).mono ?_); rintro e w1 ⟨rfl, rfl⟩)) | (go_at_call 135; ((with_reducible refine (k103.out _).mono ?_); rintro e w1 ⟨rfl, rfl⟩)) | (go_at_call 135; ((with_reducible refine (k107.out _).mono ?_); rintro e w1 ⟨rfl, rfl⟩)) | (go_at_call 135; ((with_reducible refine (k110.out _).mono ?_); rintro e w1 ⟨rfl, rfl⟩)))
  refine bodyPost_ret (v := .agg (rq ⟨q.kind, q.topic, q.index, 0, false, q.flush, 0, 0, 0, [], [], 0, q.batch⟩ a cap)) ?_ rfl ⟨rfl, more_wd _ _ _⟩
  simp [results, Try.results101, go_sem]
  try rfl
theorem only_val_tiom (q : Req) (hu : usesL q.kind = [116, 105, 111, 109]) : reqOnly q = ⟨q.kind, q.topic, q.index, 0, false, false, q.offset, q.most, 0, [], [], 0, Bat.zero⟩ := by unfold reqOnly; rw [hu]; rfl
set_option maxRecDepth 100000 in
set_option maxHeartbeats 3200000 in
theorem only_tiom (q : Req) (a : Option Addr) (cap : Nat) (w : World) (hk : q.kind < 256) (hu : usesL q.kind = [116, 105, 111, 109]) : Calls Try.prog 101 #[.agg (rq q a cap)] w fun x w' => x = .returned (.agg (rq (reqOnly q) none 0)) ∧ More w w' := by
  rw [only_val_tiom q hu]
  have hU := fun W => ruses_any q.kind hk W
  rw [hu] at hU
  have HU := Lib.hid hU
  have k116 := Lib.hid (fun W => has_any [116, 105, 111, 109] 116 116 true rfl (by decide) (by decide) W)
  have k105 := Lib.hid (fun W => has_any [116, 105, 111, 109] 105 105 true rfl (by decide) (by decide) W)
  have k112 := Lib.hid (fun W => has_any [116, 105, 111, 109] 112 112 false rfl (by decide) (by decide) W)
  have k102 := Lib.hid (fun W => has_any [116, 105, 111, 109] 102 102 false rfl (by decide) (by decide) W)
  have k111 := Lib.hid (fun W => has_any [116, 105, 111, 109] 111 111 true rfl (by decide) (by decide) W)
  have k109 := Lib.hid (fun W => has_any [116, 105, 111, 109] 109 109 true rfl (by decide) (by decide) W)
  have k119 := Lib.hid (fun W => has_any [116, 105, 111, 109] 119 119 false rfl (by decide) (by decide) W)
  have k103 := Lib.hid (fun W => has_any [116, 105, 111, 109] 103 103 false rfl (by decide) (by decide) W)
  have k107 := Lib.hid (fun W => has_any [116, 105, 111, 109] 107 107 false rfl (by decide) (by decide) W)
  have k110 := Lib.hid (fun W => has_any [116, 105, 111, 109] 110 110 false rfl (by decide) (by decide) W)
  clear hU hu
  refine calls_wd ?_
  go_enter Try.func101, Try.ntmps101
  go_wp2_with (first | (go_at_call 103; ((with_reducible refine (HU.out _).mono ?_); rintro e w1 ⟨rfl, rfl⟩)) | (go_at_call 135; ((with_reducible refine (k116.out _).mono ?_); rintro e w1 ⟨rfl, rfl⟩)) | (go_at_call 135; ((with_reducible refine (k105.out _).mono ?_); rintro e w1 ⟨rfl, rfl⟩)) | (go_at_call 135; ((with_reducible refine (k112.out _).mono ?_); rintro e w1 ⟨rfl, rfl⟩)) | (go_at_call 135; ((with_reducible refine (k102.out _).mono ?_); rintro e w1 ⟨rfl, rfl⟩)) | (go_at_call 135; ((with_reducible refine (k111.out _).mono ?_); rintro e w1 ⟨rfl, rfl⟩)) | (go_at_call 135; ((with_reducible refine (k109.out _).mono ?_); rintro e w1 ⟨rfl, rfl⟩)) | (go_at_call 135; ((with_reducible refine (k119.out _).mono ?_); rintro e w1 ⟨rfl, rfl⟩)) | (go_at_call 135; ((with_reducible refine (k103.out _).mono ?_); rintro e w1 ⟨rfl, rfl⟩)) | (go_at_call 135; ((with_reducible refine (k107.out _).mono ?_); rintro e w1 ⟨rfl, rfl⟩)) | (go_at_call 135; ((with_reducible refine (k110.out _).mono ?_); rintro e w1 ⟨rfl, rfl⟩)))
  refine bodyPost_ret (v := .agg (rq ⟨q.kind, q.topic, q.index, 0, false, false, q.offset, q.most, 0, [], [], 0, Bat.zero⟩ none 0)) ?_ rfl ⟨rfl, more_wd _ _ _⟩
  simp [results, Try.results101, go_sem]
  try rfl
theorem only_val_tiw (q : Req) (hu : usesL q.kind = [116, 105, 119]) : reqOnly q = ⟨q.kind, q.topic, q.index, 0, false, false, 0, 0, q.time, [], [], 0, Bat.zero⟩ := by unfold reqOnly; rw [hu]; rfl
set_option maxRecDepth 100000 in
set_option maxHeartbeats 3200000 in
theorem only_tiw (q : Req) (a : Option Addr) (cap : Nat) (w : World) (hk : q.kind < 256) (hu : usesL q.kind = [116, 105, 119]) : Calls Try.prog 101 #[.agg (rq q a cap)] w fun x w' => x = .returned (.agg (rq (reqOnly q) none 0)) ∧ More w w' := by
  rw [only_val_tiw q hu]
  have hU := fun W => ruses_any q.kind hk W
  rw [hu] at hU
  have HU := Lib.hid hU
  have k116 := Lib.hid (fun W => has_any [116, 105, 119] 116 116 true rfl (by decide) (by decide) W)
  have k105 := Lib.hid (fun W => has_any [116, 105, 119] 105 105 true rfl (by decide) (by decide) W)
  have k112 := Lib.hid (fun W => has_any [116, 105, 119] 112 112 false rfl (by decide) (by decide) W)
  have k102 := Lib.hid (fun W => has_any [116, 105, 119] 102 102 false rfl (by decide) (by decide) W)
  have k111 := Lib.hid (fun W => has_any [116, 105, 119] 111 111 false rfl (by decide) (by decide) W)
  have k109 := Lib.hid (fun W => has_any [116, 105, 119] 109 109 false rfl (by decide) (by decide) W)
  have k119 := Lib.hid (fun W => has_any [116, 105, 119] 119 119 true rfl (by decide) (by decide) W)
  have k103 := Lib.hid (fun W => has_any [116, 105, 119] 103 103 false rfl (by decide) (by decide) W)
  have k107 := Lib.hid (fun W => has_any [116, 105, 119] 107 107 false rfl (by decide) (by decide) W)
  have k110 := Lib.hid (fun W => has_any [116, 105, 119] 110 110 false rfl (by decide) (by decide) W)
  clear hU hu
  refine calls_wd ?_
  go_enter Try.func101, Try.ntmps101
  go_wp2_with (first | (go_at_call 103; ((with_reducible refine (HU.out _).mono ?_); rintro e w1 ⟨rfl, rfl⟩)) | (go_at_call 135; ((with_reducible refine (k116.out _).mono ?_); rintro e w1 ⟨rfl, rfl⟩)) | (go_at_call 135; ((with_reducible refine (k105.out _).mono ?_); rintro e w1 ⟨rfl, rfl⟩)) | (go_at_call 135; ((with_reducible refine (k112.out _).mono ?_); rintro e w1 ⟨rfl, rfl⟩)) | (go_at_call 135; ((with_reducible refine (k102.out _).mono ?_); rintro e w1 ⟨rfl, rfl⟩)) | (go_at_call 135; ((with_reducible refine (k111.out _).mono ?_); rintro e w1 ⟨rfl, rfl⟩)) | (go_at_call 135; ((with_reducible refine (k109.out _).mono ?_); rintro e w1 ⟨rfl, rfl⟩)) | (go_at_call 135; ((with_reducible refine (k119.out _).mono ?_); rintro e w1 ⟨rfl, rfl⟩)) | (go_at_call 135; ((with_reducible refine (k103.out _).mono ?_); rintro e w1 ⟨rfl, rfl⟩)) | (go_at_call 135; ((with_reducible refine (k107.out _).mono ?_); rintro e w1 ⟨rfl, rfl⟩)) | (go_at_call 135; ((with_reducible refine (k110.out _).mono ?_); rintro e w1 ⟨rfl, rfl⟩)))
  refine bodyPost_ret (v := .agg (rq ⟨q.kind, q.topic, q.index, 0, false, false, 0, 0, q.time, [], [], 0, Bat.zero⟩ none 0)) ?_ rfl ⟨rfl, more_wd _ _ _⟩
  simp [results, Try.results101, go_sem]
  try rfl
theorem only_val_gk (q : Req) (hu : usesL q.kind = [103, 107]) : reqOnly q = ⟨q.kind, [], 0, 0, false, false, 0, 0, 0, q.group, q.member, 0, Bat.zero⟩ := by unfold reqOnly; rw [hu]; rfl
set_option maxRecDepth 100000 in
set_option maxHeartbeats 3200000 in
theorem only_gk (q : Req) (a : Option Addr) (cap : Nat) (w : World) (hk : q.kind < 256) (hu : usesL q.kind = [103, 107]) : Calls Try.prog 101 #[.agg (rq q a cap)] w fun x w' => x = .returned (.agg (rq (reqOnly q) none 0)) ∧ More w w' := by
  rw [only_val_gk q hu]
  have hU := fun W => ruses_any q.kind hk W
  rw [hu] at hU
  have HU := Lib.hid hU
  have k116 := Lib.hid (fun W => has_any [103, 107] 116 116 false rfl (by decide) (by decide) W)
  have k105 := Lib.hid (fun W => has_any [103, 107] 105 105 false rfl (by decide) (by decide) W)
  have k112 := Lib.hid (fun W => has_any [103, 107] 112 112 false rfl (by decide) (by decide) W)
  have k102 := Lib.hid (fun W => has_any [103, 107] 102 102 false rfl (by decide) (by decide) W)
  have k111 := Lib.hid (fun W => has_any [103, 107] 111 111 false rfl (by decide) (by decide) W)
  have k109 := Lib.hid (fun W => has_any [103, 107] 109 109 false rfl (by decide) (by decide) W)
  have k119 := Lib.hid (fun W => has_any [103, 107] 119 119 false rfl (by decide) (by decide) W)
  have k103 := Lib.hid (fun W => has_any [103, 107] 103 103 true rfl (by decide) (by decide) W)
  have k107 := Lib.hid (fun W => has_any [103, 107] 107 107 true rfl (by decide) (by decide) W)
  have k110 := Lib.hid (fun W => has_any [103, 107] 110 110 false rfl (by decide) (by decide) W)
  clear hU hu
  refine calls_wd ?_
  go_enter Try.func101, Try.ntmps101
  go_wp2_with (first | (go_at_call 103; ((with_reducible refine (HU.out _).mono ?_); rintro e w1 ⟨rfl, rfl⟩)) | (go_at_call 135; ((with_reducible refine (k116.out _).mono ?_); rintro e w1 ⟨rfl, rfl⟩)) | (go_at_call 135; ((with_reducible refine (k105.out _).mono ?_); rintro e w1 ⟨rfl, rfl⟩)) | (go_at_call 135; ((with_reducible refine (k112.out _).mono ?_); rintro e w1 ⟨rfl, rfl⟩)) | (go_at_call 135; ((with_reducible refine (k102.out _).mono ?_); rintro e w1 ⟨rfl, rfl⟩)) | (go_at_call 135; ((with_reducible refine (k111.out _).mono ?_); rintro e w1 ⟨rfl, rfl⟩)) | (go_at_call 135; ((with_reducible refine (k109.out _).mono ?_); rintro e w1 ⟨rfl, rfl⟩)) | (go_at_call 135; ((with_reducible refine (k119.out _).mono ?_); rintro e w1 ⟨rfl, rfl⟩)) | (go_at_call 135; ((with_reducible refine (k103.out _).mono ?_); rintro e w1 ⟨rfl, rfl⟩)) | (go_at_call 135; ((with_reducible refine (k107.out _).mono ?_); rintro e w1 ⟨rfl, rfl⟩)) | (go_at_call 135; ((with_reducible refine (k110.out _).mono ?_); rintro e w1 ⟨rfl, rfl⟩)))
  refine bodyPost_ret (v := .agg (rq ⟨q.kind, [], 0, 0, false, false, 0, 0, 0, q.group, q.member, 0, Bat.zero⟩ none 0)) ?_ rfl ⟨rfl, more_wd _ _ _⟩
  simp [results, Try.results101, go_sem]
  try rfl
theorem only_val_tgkn (q : Req) (hu : usesL q.kind = [116, 103, 107, 110]) : reqOnly q = ⟨q.kind, q.topic, 0, 0, false, false, 0, 0, 0, q.group, q.member, q.gen, Bat.zero⟩ := by unfold reqOnly; rw [hu]; rfl
set_option maxRecDepth 100000 in
set_option maxHeartbeats 3200000 in
theorem only_tgkn (q : Req) (a : Option Addr) (cap : Nat) (w : World) (hk : q.kind < 256) (hu : usesL q.kind = [116, 103, 107, 110]) : Calls Try.prog 101 #[.agg (rq q a cap)] w fun x w' => x = .returned (.agg (rq (reqOnly q) none 0)) ∧ More w w' := by
  rw [only_val_tgkn q hu]
  have hU := fun W => ruses_any q.kind hk W
  rw [hu] at hU
  have HU := Lib.hid hU
  have k116 := Lib.hid (fun W => has_any [116, 103, 107, 110] 116 116 true rfl (by decide) (by decide) W)
  have k105 := Lib.hid (fun W => has_any [116, 103, 107, 110] 105 105 false rfl (by decide) (by decide) W)
  have k112 := Lib.hid (fun W => has_any [116, 103, 107, 110] 112 112 false rfl (by decide) (by decide) W)
  have k102 := Lib.hid (fun W => has_any [116, 103, 107, 110] 102 102 false rfl (by decide) (by decide) W)
  have k111 := Lib.hid (fun W => has_any [116, 103, 107, 110] 111 111 false rfl (by decide) (by decide) W)
  have k109 := Lib.hid (fun W => has_any [116, 103, 107, 110] 109 109 false rfl (by decide) (by decide) W)
  have k119 := Lib.hid (fun W => has_any [116, 103, 107, 110] 119 119 false rfl (by decide) (by decide) W)
  have k103 := Lib.hid (fun W => has_any [116, 103, 107, 110] 103 103 true rfl (by decide) (by decide) W)
  have k107 := Lib.hid (fun W => has_any [116, 103, 107, 110] 107 107 true rfl (by decide) (by decide) W)
  have k110 := Lib.hid (fun W => has_any [116, 103, 107, 110] 110 110 true rfl (by decide) (by decide) W)
  clear hU hu
  refine calls_wd ?_
  go_enter Try.func101, Try.ntmps101
  go_wp2_with (first | (go_at_call 103; ((with_reducible refine (HU.out _).mono ?_); rintro e w1 ⟨rfl, rfl⟩)) | (go_at_call 135; ((with_reducible refine (k116.out _).mono ?_); rintro e w1 ⟨rfl, rfl⟩)) | (go_at_call 135; ((with_reducible refine (k105.out _).mono ?_); rintro e w1 ⟨rfl, rfl⟩)) | (go_at_call 135; ((with_reducible refine (k112.out _).mono ?_); rintro e w1 ⟨rfl, rfl⟩)) | (go_at_call 135; ((with_reducible refine (k102.out _).mono ?_); rintro e w1 ⟨rfl, rfl⟩)) | (go_at_call 135; ((with_reducible refine (k111.out _).mono ?_); rintro e w1 ⟨rfl, rfl⟩)) | (go_at_call 135; ((with_reducible refine (k109.out _).mono ?_); rintro e w1 ⟨rfl, rfl⟩)) | (go_at_call 135; ((with_reducible refine (k119.out _).mono ?_); rintro e w1 ⟨rfl, rfl⟩)) | (go_at_call 135; ((with_reducible refine (k103.out _).mono ?_); rintro e w1 ⟨rfl, rfl⟩)) | (go_at_call 135; ((with_reducible refine (k107.out _).mono ?_); rintro e w1 ⟨rfl, rfl⟩)) | (go_at_call 135; ((with_reducible refine (k110.out _).mono ?_); rintro e w1 ⟨rfl, rfl⟩)))
  refine bodyPost_ret (v := .agg (rq ⟨q.kind, q.topic, 0, 0, false, false, 0, 0, 0, q.group, q.member, q.gen, Bat.zero⟩ none 0)) ?_ rfl ⟨rfl, more_wd _ _ _⟩
  simp [results, Try.results101, go_sem]
  try rfl
theorem only_val_gkn (q : Req) (hu : usesL q.kind = [103, 107, 110]) : reqOnly q = ⟨q.kind, [], 0, 0, false, false, 0, 0, 0, q.group, q.member, q.gen, Bat.zero⟩ := by unfold reqOnly; rw [hu]; rfl
set_option maxRecDepth 100000 in
set_option maxHeartbeats 3200000 in
theorem only_gkn (q : Req) (a : Option Addr) (cap : Nat) (w : World) (hk : q.kind < 256) (hu : usesL q.kind = [103, 107, 110]) : Calls Try.prog 101 #[.agg (rq q a cap)] w fun x w' => x = .returned (.agg (rq (reqOnly q) none 0)) ∧ More w w' := by
  rw [only_val_gkn q hu]
  have hU := fun W => ruses_any q.kind hk W
  rw [hu] at hU
  have HU := Lib.hid hU
  have k116 := Lib.hid (fun W => has_any [103, 107, 110] 116 116 false rfl (by decide) (by decide) W)
  have k105 := Lib.hid (fun W => has_any [103, 107, 110] 105 105 false rfl (by decide) (by decide) W)
  have k112 := Lib.hid (fun W => has_any [103, 107, 110] 112 112 false rfl (by decide) (by decide) W)
  have k102 := Lib.hid (fun W => has_any [103, 107, 110] 102 102 false rfl (by decide) (by decide) W)
  have k111 := Lib.hid (fun W => has_any [103, 107, 110] 111 111 false rfl (by decide) (by decide) W)
  have k109 := Lib.hid (fun W => has_any [103, 107, 110] 109 109 false rfl (by decide) (by decide) W)
  have k119 := Lib.hid (fun W => has_any [103, 107, 110] 119 119 false rfl (by decide) (by decide) W)
  have k103 := Lib.hid (fun W => has_any [103, 107, 110] 103 103 true rfl (by decide) (by decide) W)
  have k107 := Lib.hid (fun W => has_any [103, 107, 110] 107 107 true rfl (by decide) (by decide) W)
  have k110 := Lib.hid (fun W => has_any [103, 107, 110] 110 110 true rfl (by decide) (by decide) W)
  clear hU hu
  refine calls_wd ?_
  go_enter Try.func101, Try.ntmps101
  go_wp2_with (first | (go_at_call 103; ((with_reducible refine (HU.out _).mono ?_); rintro e w1 ⟨rfl, rfl⟩)) | (go_at_call 135; ((with_reducible refine (k116.out _).mono ?_); rintro e w1 ⟨rfl, rfl⟩)) | (go_at_call 135; ((with_reducible refine (k105.out _).mono ?_); rintro e w1 ⟨rfl, rfl⟩)) | (go_at_call 135; ((with_reducible refine (k112.out _).mono ?_); rintro e w1 ⟨rfl, rfl⟩)) | (go_at_call 135; ((with_reducible refine (k102.out _).mono ?_); rintro e w1 ⟨rfl, rfl⟩)) | (go_at_call 135; ((with_reducible refine (k111.out _).mono ?_); rintro e w1 ⟨rfl, rfl⟩)) | (go_at_call 135; ((with_reducible refine (k109.out _).mono ?_); rintro e w1 ⟨rfl, rfl⟩)) | (go_at_call 135; ((with_reducible refine (k119.out _).mono ?_); rintro e w1 ⟨rfl, rfl⟩)) | (go_at_call 135; ((with_reducible refine (k103.out _).mono ?_); rintro e w1 ⟨rfl, rfl⟩)) | (go_at_call 135; ((with_reducible refine (k107.out _).mono ?_); rintro e w1 ⟨rfl, rfl⟩)) | (go_at_call 135; ((with_reducible refine (k110.out _).mono ?_); rintro e w1 ⟨rfl, rfl⟩)))
  refine bodyPost_ret (v := .agg (rq ⟨q.kind, [], 0, 0, false, false, 0, 0, 0, q.group, q.member, q.gen, Bat.zero⟩ none 0)) ?_ rfl ⟨rfl, more_wd _ _ _⟩
  simp [results, Try.results101, go_sem]
  try rfl
theorem only_val_tiogkn (q : Req) (hu : usesL q.kind = [116, 105, 111, 103, 107, 110]) : reqOnly q = ⟨q.kind, q.topic, q.index, 0, false, false, q.offset, 0, 0, q.group, q.member, q.gen, Bat.zero⟩ := by unfold reqOnly; rw [hu]; rfl
set_option maxRecDepth 100000 in
set_option maxHeartbeats 3200000 in
theorem only_tiogkn (q : Req) (a : Option Addr) (cap : Nat) (w : World) (hk : q.kind < 256) (hu : usesL q.kind = [116, 105, 111, 103, 107, 110]) : Calls Try.prog 101 #[.agg (rq q a cap)] w fun x w' => x = .returned (.agg (rq (reqOnly q) none 0)) ∧ More w w' := by
  rw [only_val_tiogkn q hu]
  have hU := fun W => ruses_any q.kind hk W
  rw [hu] at hU
  have HU := Lib.hid hU
  have k116 := Lib.hid (fun W => has_any [116, 105, 111, 103, 107, 110] 116 116 true rfl (by decide) (by decide) W)
  have k105 := Lib.hid (fun W => has_any [116, 105, 111, 103, 107, 110] 105 105 true rfl (by decide) (by decide) W)
  have k112 := Lib.hid (fun W => has_any [116, 105, 111, 103, 107, 110] 112 112 false rfl (by decide) (by decide) W)
  have k102 := Lib.hid (fun W => has_any [116, 105, 111, 103, 107, 110] 102 102 false rfl (by decide) (by decide) W)
  have k111 := Lib.hid (fun W => has_any [116, 105, 111, 103, 107, 110] 111 111 true rfl (by decide) (by decide) W)
  have k109 := Lib.hid (fun W => has_any [116, 105, 111, 103, 107, 110] 109 109 false rfl (by decide) (by decide) W)
  have k119 := Lib.hid (fun W => has_any [116, 105, 111, 103, 107, 110] 119 119 false rfl (by decide) (by decide) W)
  have k103 := Lib.hid (fun W => has_any [116, 105, 111, 103, 107, 110] 103 103 true rfl (by decide) (by decide) W)
  have k107 := Lib.hid (fun W => has_any [116, 105, 111, 103, 107, 110] 107 107 true rfl (by decide) (by decide) W)
  have k110 := Lib.hid (fun W => has_any [116, 105, 111, 103, 107, 110] 110 110 true rfl (by decide) (by decide) W)
  clear hU hu
  refine calls_wd ?_
  go_enter Try.func101, Try.ntmps101
  go_wp2_with (first | (go_at_call 103; ((with_reducible refine (HU.out _).mono ?_); rintro e w1 ⟨rfl, rfl⟩)) | (go_at_call 135; ((with_reducible refine (k116.out _).mono ?_); rintro e w1 ⟨rfl, rfl⟩)) | (go_at_call 135; ((with_reducible refine (k105.out _).mono ?_); rintro e w1 ⟨rfl, rfl⟩)) | (go_at_call 135; ((with_reducible refine (k112.out _).mono ?_); rintro e w1 ⟨rfl, rfl⟩)) | (go_at_call 135; ((with_reducible refine (k102.out _).mono ?_); rintro e w1 ⟨rfl, rfl⟩)) | (go_at_call 135; ((with_reducible refine (k111.out _).mono ?_); rintro e w1 ⟨rfl, rfl⟩)) | (go_at_call 135; ((with_reducible refine (k109.out _).mono ?_); rintro e w1 ⟨rfl, rfl⟩)) | (go_at_call 135; ((with_reducible refine (k119.out _).mono ?_); rintro e w1 ⟨rfl, rfl⟩)) | (go_at_call 135; ((with_reducible refine (k103.out _).mono ?_); rintro e w1 ⟨rfl, rfl⟩)) | (go_at_call 135; ((with_reducible refine (k107.out _).mono ?_); rintro e w1 ⟨rfl, rfl⟩)) | (go_at_call 135; ((with_reducible refine (k110.out _).mono ?_); rintro e w1 ⟨rfl, rfl⟩)))
  refine bodyPost_ret (v := .agg (rq ⟨q.kind, q.topic, q.index, 0, false, false, q.offset, 0, 0, q.group, q.member, q.gen, Bat.zero⟩ none 0)) ?_ rfl ⟨rfl, more_wd _ _ _⟩
  simp [results, Try.results101, go_sem]
  try rfl
theorem only_val_tig (q : Req) (hu : usesL q.kind = [116, 105, 103]) : reqOnly q = ⟨q.kind, q.topic, q.index, 0, false, false, 0, 0, 0, q.group, [], 0, Bat.zero⟩ := by unfold reqOnly; rw [hu]; rfl
set_option maxRecDepth 100000 in
set_option maxHeartbeats 3200000 in
theorem only_tig (q : Req) (a : Option Addr) (cap : Nat) (w : World) (hk : q.kind < 256) (hu : usesL q.kind = [116, 105, 103]) : Calls Try.prog 101 #[.agg (rq q a cap)] w fun x w' => x = .returned (.agg (rq (reqOnly q) none 0)) ∧ More w w' := by
  rw [only_val_tig q hu]
  have hU := fun W => ruses_any q.kind hk W
  rw [hu] at hU
  have HU := Lib.hid hU
  have k116 := Lib.hid (fun W => has_any [116, 105, 103] 116 116 true rfl (by decide) (by decide) W)
  have k105 := Lib.hid (fun W => has_any [116, 105, 103] 105 105 true rfl (by decide) (by decide) W)
  have k112 := Lib.hid (fun W => has_any [116, 105, 103] 112 112 false rfl (by decide) (by decide) W)
  have k102 := Lib.hid (fun W => has_any [116, 105, 103] 102 102 false rfl (by decide) (by decide) W)
  have k111 := Lib.hid (fun W => has_any [116, 105, 103] 111 111 false rfl (by decide) (by decide) W)
  have k109 := Lib.hid (fun W => has_any [116, 105, 103] 109 109 false rfl (by decide) (by decide) W)
  have k119 := Lib.hid (fun W => has_any [116, 105, 103] 119 119 false rfl (by decide) (by decide) W)
  have k103 := Lib.hid (fun W => has_any [116, 105, 103] 103 103 true rfl (by decide) (by decide) W)
  have k107 := Lib.hid (fun W => has_any [116, 105, 103] 107 107 false rfl (by decide) (by decide) W)
  have k110 := Lib.hid (fun W => has_any [116, 105, 103] 110 110 false rfl (by decide) (by decide) W)
  clear hU hu
  refine calls_wd ?_
  go_enter Try.func101, Try.ntmps101
  go_wp2_with (first | (go_at_call 103; ((with_reducible refine (HU.out _).mono ?_); rintro e w1 ⟨rfl, rfl⟩)) | (go_at_call 135; ((with_reducible refine (k116.out _).mono ?_); rintro e w1 ⟨rfl, rfl⟩)) | (go_at_call 135; ((with_reducible refine (k105.out _).mono ?_); rintro e w1 ⟨rfl, rfl⟩)) | (go_at_call 135; ((with_reducible refine (k112.out _).mono ?_); rintro e w1 ⟨rfl, rfl⟩)) | (go_at_call 135; ((with_reducible refine (k102.out _).mono ?_); rintro e w1 ⟨rfl, rfl⟩)) | (go_at_call 135; ((with_reducible refine (k111.out _).mono ?_); rintro e w1 ⟨rfl, rfl⟩)) | (go_at_call 135; ((with_reducible refine (k109.out _).mono ?_); rintro e w1 ⟨rfl, rfl⟩)) | (go_at_call 135; ((with_reducible refine (k119.out _).mono ?_); rintro e w1 ⟨rfl, rfl⟩)) | (go_at_call 135; ((with_reducible refine (k103.out _).mono ?_); rintro e w1 ⟨rfl, rfl⟩)) | (go_at_call 135; ((with_reducible refine (k107.out _).mono ?_); rintro e w1 ⟨rfl, rfl⟩)) | (go_at_call 135; ((with_reducible refine (k110.out _).mono ?_); rintro e w1 ⟨rfl, rfl⟩)))
  refine bodyPost_ret (v := .agg (rq ⟨q.kind, q.topic, q.index, 0, false, false, 0, 0, 0, q.group, [], 0, Bat.zero⟩ none 0)) ?_ rfl ⟨rfl, more_wd _ _ _⟩
  simp [results, Try.results101, go_sem]
  try rfl
theorem only_val_no (q : Req) (hu : usesL q.kind = []) : reqOnly q = ⟨q.kind, [], 0, 0, false, false, 0, 0, 0, [], [], 0, Bat.zero⟩ := by unfold reqOnly; rw [hu]; rfl
set_option maxRecDepth 100000 in
set_option maxHeartbeats 3200000 in
theorem only_no (q : Req) (a : Option Addr) (cap : Nat) (w : World) (hk : q.kind < 256) (hu : usesL q.kind = []) : Calls Try.prog 101 #[.agg (rq q a cap)] w fun x w' => x = .returned (.agg (rq (reqOnly q) none 0)) ∧ More w w' := by
  rw [only_val_no q hu]
  have hU := fun W => ruses_any q.kind hk W
  rw [hu] at hU
  have HU := Lib.hid hU
  have k116 := Lib.hid (fun W => has_any ([] : List UInt8) 116 116 false rfl (by decide) (by decide) W)
  have k105 := Lib.hid (fun W => has_any ([] : List UInt8) 105 105 false rfl (by decide) (by decide) W)
  have k112 := Lib.hid (fun W => has_any ([] : List UInt8) 112 112 false rfl (by decide) (by decide) W)
  have k102 := Lib.hid (fun W => has_any ([] : List UInt8) 102 102 false rfl (by decide) (by decide) W)
  have k111 := Lib.hid (fun W => has_any ([] : List UInt8) 111 111 false rfl (by decide) (by decide) W)
  have k109 := Lib.hid (fun W => has_any ([] : List UInt8) 109 109 false rfl (by decide) (by decide) W)
  have k119 := Lib.hid (fun W => has_any ([] : List UInt8) 119 119 false rfl (by decide) (by decide) W)
  have k103 := Lib.hid (fun W => has_any ([] : List UInt8) 103 103 false rfl (by decide) (by decide) W)
  have k107 := Lib.hid (fun W => has_any ([] : List UInt8) 107 107 false rfl (by decide) (by decide) W)
  have k110 := Lib.hid (fun W => has_any ([] : List UInt8) 110 110 false rfl (by decide) (by decide) W)
  clear hU hu
  refine calls_wd ?_
  go_enter Try.func101, Try.ntmps101
  go_wp2_with (first | (go_at_call 103; ((with_reducible refine (HU.out _).mono ?_); rintro e w1 ⟨rfl, rfl⟩)) | (go_at_call 135; ((with_reducible refine (k116.out _).mono ?_); rintro e w1 ⟨rfl, rfl⟩)) | (go_at_call 135; ((with_reducible refine (k105.out _).mono ?_); rintro e w1 ⟨rfl, rfl⟩)) | (go_at_call 135; ((with_reducible refine (k112.out _).mono ?_); rintro e w1 ⟨rfl, rfl⟩)) | (go_at_call 135; ((with_reducible refine (k102.out _).mono ?_); rintro e w1 ⟨rfl, rfl⟩)) | (go_at_call 135; ((with_reducible refine (k111.out _).mono ?_); rintro e w1 ⟨rfl, rfl⟩)) | (go_at_call 135; ((with_reducible refine (k109.out _).mono ?_); rintro e w1 ⟨rfl, rfl⟩)) | (go_at_call 135; ((with_reducible refine (k119.out _).mono ?_); rintro e w1 ⟨rfl, rfl⟩)) | (go_at_call 135; ((with_reducible refine (k103.out _).mono ?_); rintro e w1 ⟨rfl, rfl⟩)) | (go_at_call 135; ((with_reducible refine (k107.out _).mono ?_); rintro e w1 ⟨rfl, rfl⟩)) | (go_at_call 135; ((with_reducible refine (k110.out _).mono ?_); rintro e w1 ⟨rfl, rfl⟩)))
  refine bodyPost_ret (v := .agg (rq ⟨q.kind, [], 0, 0, false, false, 0, 0, 0, [], [], 0, Bat.zero⟩ none 0)) ?_ rfl ⟨rfl, more_wd _ _ _⟩
  simp [results, Try.results101, go_sem]
  try rfl
end Go.Proofs.Ytejokhgabcldhaa
