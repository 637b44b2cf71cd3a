/- wire: the reference's field. -/
import Derived.Test.YtejokhgabcldhaaMK2
import Derived.Test.YtejokhgabcldhaaMS
import Derived.Test.YtejokhgabcldhaaMG
import Derived.Test.YtejokhgabcldhaaMT
namespace Go.Proofs.Ytejokhgabcldhaa
open Go.ChangeShapes Go.WideShapes Go.ChangeAt Go.RowKit
set_option linter.unusedVariables false
set_option linter.unusedSimpArgs false

@[go_sem] theorem rq_set17' (x : Req) (a0 a : Option Addr) (c0 cap : Nat) (l : List Rec) : (rq x a0 c0).setIfInBounds 17 (.slice a l.length cap) = rq { x with batch := { x.batch with recs := l } } a cap := by unfold rq reqCells; rfl
def mostR : Int := 1073741824
/-- A field taken, by value. -/
structure FieldR (w w' : World) (x : Ending) (v : Value) (l : List UInt8) (e : Int) (q : Req) (a : Option Addr) (c : UInt8) : Prop where
  out : ∃ (v' : Value) (a' : Option Addr) (cap' : Nat), x = .returned (.tuple #[.agg #[v', .int .i64 (reqTake 1073741824 (l, e, q) c).2.1], .agg (rq (reqTake 1073741824 (l, e, q) c).2.2 a' cap')]) ∧
    (∀ W0, RB W0 v l → RB W0 v' (reqTake 1073741824 (l, e, q) c).1) ∧ RecsAt w' a' (reqTake 1073741824 (l, e, q) c).2.2.batch.recs ∧ More w w' ∧ (∀ B, B ≤ w.heap.size → From B a q.batch.recs → From B a' (reqTake 1073741824 (l, e, q) c).2.2.batch.recs)
theorem fieldr_of {w w' : World} {v v' : Value} {l l' : List UInt8} {e e' : Int} {q q' : Req} {a a' : Option Addr} {cap' : Nat} {c : UInt8} (h : reqTake 1073741824 (l, e, q) c = (l', e', q')) (hk : ∀ W0, RB W0 v l → RB W0 v' l') (hr : RecsAt w' a' q'.batch.recs) (hm : More w w') (hf : ∀ B, B ≤ w.heap.size → From B a q.batch.recs → From B a' q'.batch.recs) :
    FieldR w w' (.returned (.tuple #[.agg #[v', .int .i64 e'], .agg (rq q' a' cap')])) v l e q a c := ⟨v', a', cap', by rw [h], by rw [h]; exact hk, by rw [h]; exact hr, hm, fun B h1 h2 => by rw [h]; exact hf B h1 h2⟩
set_option maxRecDepth 100000 in
set_option maxHeartbeats 3200000 in
theorem rfield_116 (v : Value) (l : List UInt8) (e : Int) (q : Req) (a : Option Addr) (cap : Nat) (w : World) (hv : RB w v l) (hra : RecsAt w a q.batch.recs) :
    Calls Try.prog 114 #[.agg #[v, .int .i64 e], .agg (rq q a cap), .int .u8 116] w fun x w' => FieldR w w' x v l e q a 116 := by
  have HV := Lib.hid hv
  have HRA := Lib.hid hra
  have HT : Hid (reqTake 1073741824 (l, e, q) 116 = ((txt l e 255).1, (txt l e 255).2.1, ({ q with topic := (txt l e 255).2.2 } : Req))) := Lib.hid rfl
  clear hv hra
  refine calls_wd ?_
  go_enter Try.func114, Try.ntmps114
  go_wp2_with (first | (go_at_call 72; (with_reducible refine (rtxt_any v l e 255 (by decide) _ (HV.out.more (more_wd w _ _))).mono ?_); rintro x w1 ⟨v1, rfl, hb1, x1, n1, rfl⟩; have HB1 := Lib.hid hb1; obtain ⟨a1, cap1, rfl, hc1, hm1, hr1⟩ := hb1 w HV.out; clear hb1 hr1))
  refine wp_region_mixf (fun (s : Value × Value × Req × Option Addr × Nat) => wd w [x1, #[.cells (rq s.2.2.1 s.2.2.2.1 s.2.2.2.2) 27], #[.cells #[s.1, s.2.1] 118], #[.cells (rq ({ q with topic := (txt l e 255).2.2 } : Req) a cap) 27], #[.cells #[.slice a1 ((txt l e 255).1).length cap1, .int .i64 (txt l e 255).2.1] 118]] (n1 + 1)) ((.slice none 0 0, .int .i64 0, reqBlank 0, none, 0)) [0, 1] [2, 3] [true, true] [false, false, true, true] rfl ⟨rfl, rfl⟩ (by kernel_rfl) (by kernel_rfl) (fun _ _ d _ _ h => by cases d <;> exact h) ?_
  apply Exists.intro
  refine ⟨?_, ?_⟩
  · intro E
    simp only [sel_t, sel_f, sel_n]
    repeat (go_big_quiet_step ((fail)))
    exact wpQuiet_nil rfl
  simp only [sel_t, sel_f, sel_n, loudly_cons, loudly_nil]
  go_wp2
  refine ⟨⟨(_, _, _, _, _), rfl⟩, ?_⟩
  rw [loudly_cons]
  go_wp2
  refine ⟨⟨(_, _, _, _, _), rfl⟩, ?_⟩
  rw [loudly_nil]
  go_wp2
  refine bodyPost_ret (v := .tuple #[.agg #[.slice a1 ((txt l e 255).1).length cap1, .int .i64 (txt l e 255).2.1], .agg (rq ({ q with topic := (txt l e 255).2.2 } : Req) a cap)]) ?_ rfl (fieldr_of HT.out HB1.out (HRA.out.more (more_wd _ _ _)) (more_wd _ _ _) (fun _ _ h => h))
  simp [results, Try.results114, go_sem]
set_option maxRecDepth 100000 in
set_option maxHeartbeats 3200000 in
theorem rfield_105 (v : Value) (l : List UInt8) (e : Int) (q : Req) (a : Option Addr) (cap : Nat) (w : World) (hv : RB w v l) (hra : RecsAt w a q.batch.recs) :
    Calls Try.prog 114 #[.agg #[v, .int .i64 e], .agg (rq q a cap), .int .u8 105] w fun x w' => FieldR w w' x v l e q a 105 := by
  have HV := Lib.hid hv
  have HRA := Lib.hid hra
  have HT : Hid (reqTake 1073741824 (l, e, q) 105 = ((numL l e), (numE l e), ({ q with index := (numV l e) } : Req))) := Lib.hid rfl
  clear hv hra
  refine calls_wd ?_
  go_enter Try.func114, Try.ntmps114
  go_wp2_with (first | (go_at_call 67; (with_reducible refine (rnum_any v l e _ (HV.out.more (more_wd w _ _))).mono ?_); rintro x w1 ⟨v1, rfl, hb1, x1, n1, rfl⟩; have HB1 := Lib.hid hb1; obtain ⟨a1, cap1, rfl, hc1, hm1, hr1⟩ := hb1 w HV.out; clear hb1 hr1))
  refine wp_region_mixf (fun (s : Value × Value × Req × Option Addr × Nat) => wd w [x1, #[.cells (rq s.2.2.1 s.2.2.2.1 s.2.2.2.2) 27], #[.cells #[s.1, s.2.1] 118], #[.cells (rq ({ q with index := (numV l e) } : Req) a cap) 27], #[.cells #[.slice a1 ((numL l e)).length cap1, .int .i64 (numE l e)] 118]] (n1 + 1)) ((.slice none 0 0, .int .i64 0, reqBlank 0, none, 0)) [0, 1] [2, 3] [true, true] [false, false, true, true] rfl ⟨rfl, rfl⟩ (by kernel_rfl) (by kernel_rfl) (fun _ _ d _ _ h => by cases d <;> exact h) ?_
  apply Exists.intro
  refine ⟨?_, ?_⟩
  · intro E
    simp only [sel_t, sel_f, sel_n]
    repeat (go_big_quiet_step ((fail)))
    exact wpQuiet_nil rfl
  simp only [sel_t, sel_f, sel_n, loudly_cons, loudly_nil]
  go_wp2
  refine ⟨⟨(_, _, _, _, _), rfl⟩, ?_⟩
  rw [loudly_cons]
  go_wp2
  refine ⟨⟨(_, _, _, _, _), rfl⟩, ?_⟩
  rw [loudly_nil]
  go_wp2
  refine bodyPost_ret (v := .tuple #[.agg #[.slice a1 ((numL l e)).length cap1, .int .i64 (numE l e)], .agg (rq ({ q with index := (numV l e) } : Req) a cap)]) ?_ rfl (fieldr_of HT.out HB1.out (HRA.out.more (more_wd _ _ _)) (more_wd _ _ _) (fun _ _ h => h))
  simp [results, Try.results114, go_sem]
set_option maxRecDepth 100000 in
set_option maxHeartbeats 3200000 in
theorem rfield_112 (v : Value) (l : List UInt8) (e : Int) (q : Req) (a : Option Addr) (cap : Nat) (w : World) (hv : RB w v l) (hra : RecsAt w a q.batch.recs) :
    Calls Try.prog 114 #[.agg #[v, .int .i64 e], .agg (rq q a cap), .int .u8 112] w fun x w' => FieldR w w' x v l e q a 112 := by
  have HV := Lib.hid hv
  have HRA := Lib.hid hra
  have HT : Hid (reqTake 1073741824 (l, e, q) 112 = ((numL l e), (numE l e), ({ q with parts := (numV l e) } : Req))) := Lib.hid rfl
  clear hv hra
  refine calls_wd ?_
  go_enter Try.func114, Try.ntmps114
  go_wp2_with (first | (go_at_call 67; (with_reducible refine (rnum_any v l e _ (HV.out.more (more_wd w _ _))).mono ?_); rintro x w1 ⟨v1, rfl, hb1, x1, n1, rfl⟩; have HB1 := Lib.hid hb1; obtain ⟨a1, cap1, rfl, hc1, hm1, hr1⟩ := hb1 w HV.out; clear hb1 hr1))
  refine wp_region_mixf (fun (s : Value × Value × Req × Option Addr × Nat) => wd w [x1, #[.cells (rq s.2.2.1 s.2.2.2.1 s.2.2.2.2) 27], #[.cells #[s.1, s.2.1] 118], #[.cells (rq ({ q with parts := (numV l e) } : Req) a cap) 27], #[.cells #[.slice a1 ((numL l e)).length cap1, .int .i64 (numE l e)] 118]] (n1 + 1)) ((.slice none 0 0, .int .i64 0, reqBlank 0, none, 0)) [0, 1] [2, 3] [true, true] [false, false, true, true] rfl ⟨rfl, rfl⟩ (by kernel_rfl) (by kernel_rfl) (fun _ _ d _ _ h => by cases d <;> exact h) ?_
  apply Exists.intro
  refine ⟨?_, ?_⟩
  · intro E
    simp only [sel_t, sel_f, sel_n]
    repeat (go_big_quiet_step ((fail)))
    exact wpQuiet_nil rfl
  simp only [sel_t, sel_f, sel_n, loudly_cons, loudly_nil]
  go_wp2
  refine ⟨⟨(_, _, _, _, _), rfl⟩, ?_⟩
  rw [loudly_cons]
  go_wp2
  refine ⟨⟨(_, _, _, _, _), rfl⟩, ?_⟩
  rw [loudly_nil]
  go_wp2
  refine bodyPost_ret (v := .tuple #[.agg #[.slice a1 ((numL l e)).length cap1, .int .i64 (numE l e)], .agg (rq ({ q with parts := (numV l e) } : Req) a cap)]) ?_ rfl (fieldr_of HT.out HB1.out (HRA.out.more (more_wd _ _ _)) (more_wd _ _ _) (fun _ _ h => h))
  simp [results, Try.results114, go_sem]
set_option maxRecDepth 100000 in
set_option maxHeartbeats 3200000 in
theorem rfield_99 (v : Value) (l : List UInt8) (e : Int) (q : Req) (a : Option Addr) (cap : Nat) (w : World) (hv : RB w v l) (hra : RecsAt w a q.batch.recs) :
    Calls Try.prog 114 #[.agg #[v, .int .i64 e], .agg (rq q a cap), .int .u8 99] w fun x w' => FieldR w w' x v l e q a 99 := by
  have HV := Lib.hid hv
  have HRA := Lib.hid hra
  have HT : Hid (reqTake 1073741824 (l, e, q) 99 = ((fixL l e), (fixE l e), ({ q with compact := decide (fixV l e = 1) } : Req))) := Lib.hid rfl
  clear hv hra
  refine calls_wd ?_
  go_enter Try.func114, Try.ntmps114
  go_wp2_with (first | (go_at_call 68; (with_reducible refine (rfix_any v l e _ (HV.out.more (more_wd w _ _))).mono ?_); rintro x w1 ⟨v1, rfl, hb1, x1, n1, rfl⟩; have HB1 := Lib.hid hb1; obtain ⟨a1, cap1, rfl, hc1, hm1, hr1⟩ := hb1 w HV.out; clear hb1 hr1))
  refine wp_region_mixf (fun (s : Value × Value × Req × Option Addr × Nat) => wd w [x1, #[.cells (rq s.2.2.1 s.2.2.2.1 s.2.2.2.2) 27], #[.cells #[s.1, s.2.1] 118], #[.cells (rq ({ q with compact := decide (fixV l e = 1) } : Req) a cap) 27], #[.cells #[.slice a1 ((fixL l e)).length cap1, .int .i64 (fixE l e)] 118]] (n1 + 1)) ((.slice none 0 0, .int .i64 0, reqBlank 0, none, 0)) [0, 1] [2, 3] [true, true] [false, false, true, true] rfl ⟨rfl, rfl⟩ (by kernel_rfl) (by kernel_rfl) (fun _ _ d _ _ h => by cases d <;> exact h) ?_
  apply Exists.intro
  refine ⟨?_, ?_⟩
  · intro E
    simp only [sel_t, sel_f, sel_n]
    repeat (go_big_quiet_step ((fail)))
    exact wpQuiet_nil rfl
  simp only [sel_t, sel_f, sel_n, loudly_cons, loudly_nil]
  go_wp2
  refine ⟨⟨(_, _, _, _, _), rfl⟩, ?_⟩
  rw [loudly_cons]
  go_wp2
  refine ⟨⟨(_, _, _, _, _), rfl⟩, ?_⟩
  rw [loudly_nil]
  go_wp2
  refine bodyPost_ret (v := .tuple #[.agg #[.slice a1 ((fixL l e)).length cap1, .int .i64 (fixE l e)], .agg (rq ({ q with compact := decide (fixV l e = 1) } : Req) a cap)]) ?_ rfl (fieldr_of HT.out HB1.out (HRA.out.more (more_wd _ _ _)) (more_wd _ _ _) (fun _ _ h => h))
  simp [results, Try.results114, go_sem]
set_option maxRecDepth 100000 in
set_option maxHeartbeats 3200000 in
theorem rfield_102 (v : Value) (l : List UInt8) (e : Int) (q : Req) (a : Option Addr) (cap : Nat) (w : World) (hv : RB w v l) (hra : RecsAt w a q.batch.recs) :
    Calls Try.prog 114 #[.agg #[v, .int .i64 e], .agg (rq q a cap), .int .u8 102] w fun x w' => FieldR w w' x v l e q a 102 := by
  have HV := Lib.hid hv
  have HRA := Lib.hid hra
  have HT : Hid (reqTake 1073741824 (l, e, q) 102 = ((fixL l e), (fixE l e), ({ q with flush := decide (fixV l e = 1) } : Req))) := Lib.hid rfl
  clear hv hra
  refine calls_wd ?_
  go_enter Try.func114, Try.ntmps114
  go_wp2_with (first | (go_at_call 68; (with_reducible refine (rfix_any v l e _ (HV.out.more (more_wd w _ _))).mono ?_); rintro x w1 ⟨v1, rfl, hb1, x1, n1, rfl⟩; have HB1 := Lib.hid hb1; obtain ⟨a1, cap1, rfl, hc1, hm1, hr1⟩ := hb1 w HV.out; clear hb1 hr1))
  refine wp_region_mixf (fun (s : Value × Value × Req × Option Addr × Nat) => wd w [x1, #[.cells (rq s.2.2.1 s.2.2.2.1 s.2.2.2.2) 27], #[.cells #[s.1, s.2.1] 118], #[.cells (rq ({ q with flush := decide (fixV l e = 1) } : Req) a cap) 27], #[.cells #[.slice a1 ((fixL l e)).length cap1, .int .i64 (fixE l e)] 118]] (n1 + 1)) ((.slice none 0 0, .int .i64 0, reqBlank 0, none, 0)) [0, 1] [2, 3] [true, true] [false, false, true, true] rfl ⟨rfl, rfl⟩ (by kernel_rfl) (by kernel_rfl) (fun _ _ d _ _ h => by cases d <;> exact h) ?_
  apply Exists.intro
  refine ⟨?_, ?_⟩
  · intro E
    simp only [sel_t, sel_f, sel_n]
    repeat (go_big_quiet_step ((fail)))
    exact wpQuiet_nil rfl
  simp only [sel_t, sel_f, sel_n, loudly_cons, loudly_nil]
  go_wp2
  refine ⟨⟨(_, _, _, _, _), rfl⟩, ?_⟩
  rw [loudly_cons]
  go_wp2
  refine ⟨⟨(_, _, _, _, _), rfl⟩, ?_⟩
  rw [loudly_nil]
  go_wp2
  refine bodyPost_ret (v := .tuple #[.agg #[.slice a1 ((fixL l e)).length cap1, .int .i64 (fixE l e)], .agg (rq ({ q with flush := decide (fixV l e = 1) } : Req) a cap)]) ?_ rfl (fieldr_of HT.out HB1.out (HRA.out.more (more_wd _ _ _)) (more_wd _ _ _) (fun _ _ h => h))
  simp [results, Try.results114, go_sem]
set_option maxRecDepth 100000 in
set_option maxHeartbeats 3200000 in
theorem rfield_111 (v : Value) (l : List UInt8) (e : Int) (q : Req) (a : Option Addr) (cap : Nat) (w : World) (hv : RB w v l) (hra : RecsAt w a q.batch.recs) :
    Calls Try.prog 114 #[.agg #[v, .int .i64 e], .agg (rq q a cap), .int .u8 111] w fun x w' => FieldR w w' x v l e q a 111 := by
  have HV := Lib.hid hv
  have HRA := Lib.hid hra
  have HT : Hid (reqTake 1073741824 (l, e, q) 111 = ((numL l e), (numE l e), ({ q with offset := (numV l e) } : Req))) := Lib.hid rfl
  clear hv hra
  refine calls_wd ?_
  go_enter Try.func114, Try.ntmps114
  go_wp2_with (first | (go_at_call 67; (with_reducible refine (rnum_any v l e _ (HV.out.more (more_wd w _ _))).mono ?_); rintro x w1 ⟨v1, rfl, hb1, x1, n1, rfl⟩; have HB1 := Lib.hid hb1; obtain ⟨a1, cap1, rfl, hc1, hm1, hr1⟩ := hb1 w HV.out; clear hb1 hr1))
  refine wp_region_mixf (fun (s : Value × Value × Req × Option Addr × Nat) => wd w [x1, #[.cells (rq s.2.2.1 s.2.2.2.1 s.2.2.2.2) 27], #[.cells #[s.1, s.2.1] 118], #[.cells (rq ({ q with offset := (numV l e) } : Req) a cap) 27], #[.cells #[.slice a1 ((numL l e)).length cap1, .int .i64 (numE l e)] 118]] (n1 + 1)) ((.slice none 0 0, .int .i64 0, reqBlank 0, none, 0)) [0, 1] [2, 3] [true, true] [false, false, true, true] rfl ⟨rfl, rfl⟩ (by kernel_rfl) (by kernel_rfl) (fun _ _ d _ _ h => by cases d <;> exact h) ?_
  apply Exists.intro
  refine ⟨?_, ?_⟩
  · intro E
    simp only [sel_t, sel_f, sel_n]
    repeat (go_big_quiet_step ((fail)))
    exact wpQuiet_nil rfl
  simp only [sel_t, sel_f, sel_n, loudly_cons, loudly_nil]
  go_wp2
  refine ⟨⟨(_, _, _, _, _), rfl⟩, ?_⟩
  rw [loudly_cons]
  go_wp2
  refine ⟨⟨(_, _, _, _, _), rfl⟩, ?_⟩
  rw [loudly_nil]
  go_wp2
  refine bodyPost_ret (v := .tuple #[.agg #[.slice a1 ((numL l e)).length cap1, .int .i64 (numE l e)], .agg (rq ({ q with offset := (numV l e) } : Req) a cap)]) ?_ rfl (fieldr_of HT.out HB1.out (HRA.out.more (more_wd _ _ _)) (more_wd _ _ _) (fun _ _ h => h))
  simp [results, Try.results114, go_sem]
set_option maxRecDepth 100000 in
set_option maxHeartbeats 3200000 in
theorem rfield_109 (v : Value) (l : List UInt8) (e : Int) (q : Req) (a : Option Addr) (cap : Nat) (w : World) (hv : RB w v l) (hra : RecsAt w a q.batch.recs) :
    Calls Try.prog 114 #[.agg #[v, .int .i64 e], .agg (rq q a cap), .int .u8 109] w fun x w' => FieldR w w' x v l e q a 109 := by
  have HV := Lib.hid hv
  have HRA := Lib.hid hra
  have HT : Hid (reqTake 1073741824 (l, e, q) 109 = ((numL l e), (numE l e), ({ q with most := (numV l e) } : Req))) := Lib.hid rfl
  clear hv hra
  refine calls_wd ?_
  go_enter Try.func114, Try.ntmps114
  go_wp2_with (first | (go_at_call 67; (with_reducible refine (rnum_any v l e _ (HV.out.more (more_wd w _ _))).mono ?_); rintro x w1 ⟨v1, rfl, hb1, x1, n1, rfl⟩; have HB1 := Lib.hid hb1; obtain ⟨a1, cap1, rfl, hc1, hm1, hr1⟩ := hb1 w HV.out; clear hb1 hr1))
  refine wp_region_mixf (fun (s : Value × Value × Req × Option Addr × Nat) => wd w [x1, #[.cells (rq s.2.2.1 s.2.2.2.1 s.2.2.2.2) 27], #[.cells #[s.1, s.2.1] 118], #[.cells (rq ({ q with most := (numV l e) } : Req) a cap) 27], #[.cells #[.slice a1 ((numL l e)).length cap1, .int .i64 (numE l e)] 118]] (n1 + 1)) ((.slice none 0 0, .int .i64 0, reqBlank 0, none, 0)) [0, 1] [2, 3] [true, true] [false, false, true, true] rfl ⟨rfl, rfl⟩ (by kernel_rfl) (by kernel_rfl) (fun _ _ d _ _ h => by cases d <;> exact h) ?_
  apply Exists.intro
  refine ⟨?_, ?_⟩
  · intro E
    simp only [sel_t, sel_f, sel_n]
    repeat (go_big_quiet_step ((fail)))
    exact wpQuiet_nil rfl
  simp only [sel_t, sel_f, sel_n, loudly_cons, loudly_nil]
  go_wp2
  refine ⟨⟨(_, _, _, _, _), rfl⟩, ?_⟩
  rw [loudly_cons]
  go_wp2
  refine ⟨⟨(_, _, _, _, _), rfl⟩, ?_⟩
  rw [loudly_nil]
  go_wp2
  refine bodyPost_ret (v := .tuple #[.agg #[.slice a1 ((numL l e)).length cap1, .int .i64 (numE l e)], .agg (rq ({ q with most := (numV l e) } : Req) a cap)]) ?_ rfl (fieldr_of HT.out HB1.out (HRA.out.more (more_wd _ _ _)) (more_wd _ _ _) (fun _ _ h => h))
  simp [results, Try.results114, go_sem]
set_option maxRecDepth 100000 in
set_option maxHeartbeats 3200000 in
theorem rfield_119 (v : Value) (l : List UInt8) (e : Int) (q : Req) (a : Option Addr) (cap : Nat) (w : World) (hv : RB w v l) (hra : RecsAt w a q.batch.recs) :
    Calls Try.prog 114 #[.agg #[v, .int .i64 e], .agg (rq q a cap), .int .u8 119] w fun x w' => FieldR w w' x v l e q a 119 := by
  have HV := Lib.hid hv
  have HRA := Lib.hid hra
  have HT : Hid (reqTake 1073741824 (l, e, q) 119 = ((numL l e), (numE l e), ({ q with time := (numV l e) } : Req))) := Lib.hid rfl
  clear hv hra
  refine calls_wd ?_
  go_enter Try.func114, Try.ntmps114
  go_wp2_with (first | (go_at_call 67; (with_reducible refine (rnum_any v l e _ (HV.out.more (more_wd w _ _))).mono ?_); rintro x w1 ⟨v1, rfl, hb1, x1, n1, rfl⟩; have HB1 := Lib.hid hb1; obtain ⟨a1, cap1, rfl, hc1, hm1, hr1⟩ := hb1 w HV.out; clear hb1 hr1))
  refine wp_region_mixf (fun (s : Value × Value × Req × Option Addr × Nat) => wd w [x1, #[.cells (rq s.2.2.1 s.2.2.2.1 s.2.2.2.2) 27], #[.cells #[s.1, s.2.1] 118], #[.cells (rq ({ q with time := (numV l e) } : Req) a cap) 27], #[.cells #[.slice a1 ((numL l e)).length cap1, .int .i64 (numE l e)] 118]] (n1 + 1)) ((.slice none 0 0, .int .i64 0, reqBlank 0, none, 0)) [0, 1] [2, 3] [true, true] [false, false, true, true] rfl ⟨rfl, rfl⟩ (by kernel_rfl) (by kernel_rfl) (fun _ _ d _ _ h => by cases d <;> exact h) ?_
  apply Exists.intro
  refine ⟨?_, ?_⟩
  · intro E
    simp only [sel_t, sel_f, sel_n]
    repeat (go_big_quiet_step ((fail)))
    exact wpQuiet_nil rfl
  simp only [sel_t, sel_f, sel_n, loudly_cons, loudly_nil]
  go_wp2
  refine ⟨⟨(_, _, _, _, _), rfl⟩, ?_⟩
  rw [loudly_cons]
  go_wp2
  refine ⟨⟨(_, _, _, _, _), rfl⟩, ?_⟩
  rw [loudly_nil]
  go_wp2
  refine bodyPost_ret (v := .tuple #[.agg #[.slice a1 ((numL l e)).length cap1, .int .i64 (numE l e)], .agg (rq ({ q with time := (numV l e) } : Req) a cap)]) ?_ rfl (fieldr_of HT.out HB1.out (HRA.out.more (more_wd _ _ _)) (more_wd _ _ _) (fun _ _ h => h))
  simp [results, Try.results114, go_sem]
set_option maxRecDepth 100000 in
set_option maxHeartbeats 3200000 in
theorem rfield_103 (v : Value) (l : List UInt8) (e : Int) (q : Req) (a : Option Addr) (cap : Nat) (w : World) (hv : RB w v l) (hra : RecsAt w a q.batch.recs) :
    Calls Try.prog 114 #[.agg #[v, .int .i64 e], .agg (rq q a cap), .int .u8 103] w fun x w' => FieldR w w' x v l e q a 103 := by
  have HV := Lib.hid hv
  have HRA := Lib.hid hra
  have HT : Hid (reqTake 1073741824 (l, e, q) 103 = ((txt l e 255).1, (txt l e 255).2.1, ({ q with group := (txt l e 255).2.2 } : Req))) := Lib.hid rfl
  clear hv hra
  refine calls_wd ?_
  go_enter Try.func114, Try.ntmps114
  go_wp2_with (first | (go_at_call 72; (with_reducible refine (rtxt_any v l e 255 (by decide) _ (HV.out.more (more_wd w _ _))).mono ?_); rintro x w1 ⟨v1, rfl, hb1, x1, n1, rfl⟩; have HB1 := Lib.hid hb1; obtain ⟨a1, cap1, rfl, hc1, hm1, hr1⟩ := hb1 w HV.out; clear hb1 hr1))
  refine wp_region_mixf (fun (s : Value × Value × Req × Option Addr × Nat) => wd w [x1, #[.cells (rq s.2.2.1 s.2.2.2.1 s.2.2.2.2) 27], #[.cells #[s.1, s.2.1] 118], #[.cells (rq ({ q with group := (txt l e 255).2.2 } : Req) a cap) 27], #[.cells #[.slice a1 ((txt l e 255).1).length cap1, .int .i64 (txt l e 255).2.1] 118]] (n1 + 1)) ((.slice none 0 0, .int .i64 0, reqBlank 0, none, 0)) [0, 1] [2, 3] [true, true] [false, false, true, true] rfl ⟨rfl, rfl⟩ (by kernel_rfl) (by kernel_rfl) (fun _ _ d _ _ h => by cases d <;> exact h) ?_
  apply Exists.intro
  refine ⟨?_, ?_⟩
  · intro E
    simp only [sel_t, sel_f, sel_n]
    repeat (go_big_quiet_step ((fail)))
    exact wpQuiet_nil rfl
  simp only [sel_t, sel_f, sel_n, loudly_cons, loudly_nil]
  go_wp2
  refine ⟨⟨(_, _, _, _, _), rfl⟩, ?_⟩
  rw [loudly_cons]
  go_wp2
  refine ⟨⟨(_, _, _, _, _), rfl⟩, ?_⟩
  rw [loudly_nil]
  go_wp2
  refine bodyPost_ret (v := .tuple #[.agg #[.slice a1 ((txt l e 255).1).length cap1, .int .i64 (txt l e 255).2.1], .agg (rq ({ q with group := (txt l e 255).2.2 } : Req) a cap)]) ?_ rfl (fieldr_of HT.out HB1.out (HRA.out.more (more_wd _ _ _)) (more_wd _ _ _) (fun _ _ h => h))
  simp [results, Try.results114, go_sem]
set_option maxRecDepth 100000 in
set_option maxHeartbeats 3200000 in
theorem rfield_107 (v : Value) (l : List UInt8) (e : Int) (q : Req) (a : Option Addr) (cap : Nat) (w : World) (hv : RB w v l) (hra : RecsAt w a q.batch.recs) :
    Calls Try.prog 114 #[.agg #[v, .int .i64 e], .agg (rq q a cap), .int .u8 107] w fun x w' => FieldR w w' x v l e q a 107 := by
  have HV := Lib.hid hv
  have HRA := Lib.hid hra
  have HT : Hid (reqTake 1073741824 (l, e, q) 107 = ((txt l e 255).1, (txt l e 255).2.1, ({ q with member := (txt l e 255).2.2 } : Req))) := Lib.hid rfl
  clear hv hra
  refine calls_wd ?_
  go_enter Try.func114, Try.ntmps114
  go_wp2_with (first | (go_at_call 72; (with_reducible refine (rtxt_any v l e 255 (by decide) _ (HV.out.more (more_wd w _ _))).mono ?_); rintro x w1 ⟨v1, rfl, hb1, x1, n1, rfl⟩; have HB1 := Lib.hid hb1; obtain ⟨a1, cap1, rfl, hc1, hm1, hr1⟩ := hb1 w HV.out; clear hb1 hr1))
  refine wp_region_mixf (fun (s : Value × Value × Req × Option Addr × Nat) => wd w [x1, #[.cells (rq s.2.2.1 s.2.2.2.1 s.2.2.2.2) 27], #[.cells #[s.1, s.2.1] 118], #[.cells (rq ({ q with member := (txt l e 255).2.2 } : Req) a cap) 27], #[.cells #[.slice a1 ((txt l e 255).1).length cap1, .int .i64 (txt l e 255).2.1] 118]] (n1 + 1)) ((.slice none 0 0, .int .i64 0, reqBlank 0, none, 0)) [0, 1] [2, 3] [true, true] [false, false, true, true] rfl ⟨rfl, rfl⟩ (by kernel_rfl) (by kernel_rfl) (fun _ _ d _ _ h => by cases d <;> exact h) ?_
  apply Exists.intro
  refine ⟨?_, ?_⟩
  · intro E
    simp only [sel_t, sel_f, sel_n]
    repeat (go_big_quiet_step ((fail)))
    exact wpQuiet_nil rfl
  simp only [sel_t, sel_f, sel_n, loudly_cons, loudly_nil]
  go_wp2
  refine ⟨⟨(_, _, _, _, _), rfl⟩, ?_⟩
  rw [loudly_cons]
  go_wp2
  refine ⟨⟨(_, _, _, _, _), rfl⟩, ?_⟩
  rw [loudly_nil]
  go_wp2
  refine bodyPost_ret (v := .tuple #[.agg #[.slice a1 ((txt l e 255).1).length cap1, .int .i64 (txt l e 255).2.1], .agg (rq ({ q with member := (txt l e 255).2.2 } : Req) a cap)]) ?_ rfl (fieldr_of HT.out HB1.out (HRA.out.more (more_wd _ _ _)) (more_wd _ _ _) (fun _ _ h => h))
  simp [results, Try.results114, go_sem]
set_option maxRecDepth 100000 in
set_option maxHeartbeats 3200000 in
theorem rfield_110 (v : Value) (l : List UInt8) (e : Int) (q : Req) (a : Option Addr) (cap : Nat) (w : World) (hv : RB w v l) (hra : RecsAt w a q.batch.recs) :
    Calls Try.prog 114 #[.agg #[v, .int .i64 e], .agg (rq q a cap), .int .u8 110] w fun x w' => FieldR w w' x v l e q a 110 := by
  have HV := Lib.hid hv
  have HRA := Lib.hid hra
  have HT : Hid (reqTake 1073741824 (l, e, q) 110 = ((numL l e), (numE l e), ({ q with gen := (numV l e) } : Req))) := Lib.hid rfl
  clear hv hra
  refine calls_wd ?_
  go_enter Try.func114, Try.ntmps114
  go_wp2_with (first | (go_at_call 67; (with_reducible refine (rnum_any v l e _ (HV.out.more (more_wd w _ _))).mono ?_); rintro x w1 ⟨v1, rfl, hb1, x1, n1, rfl⟩; have HB1 := Lib.hid hb1; obtain ⟨a1, cap1, rfl, hc1, hm1, hr1⟩ := hb1 w HV.out; clear hb1 hr1))
  refine wp_region_mixf (fun (s : Value × Value × Req × Option Addr × Nat) => wd w [x1, #[.cells (rq s.2.2.1 s.2.2.2.1 s.2.2.2.2) 27], #[.cells #[s.1, s.2.1] 118], #[.cells (rq ({ q with gen := (numV l e) } : Req) a cap) 27], #[.cells #[.slice a1 ((numL l e)).length cap1, .int .i64 (numE l e)] 118]] (n1 + 1)) ((.slice none 0 0, .int .i64 0, reqBlank 0, none, 0)) [0, 1] [2, 3] [true, true] [false, false, true, true] rfl ⟨rfl, rfl⟩ (by kernel_rfl) (by kernel_rfl) (fun _ _ d _ _ h => by cases d <;> exact h) ?_
  apply Exists.intro
  refine ⟨?_, ?_⟩
  · intro E
    simp only [sel_t, sel_f, sel_n]
    repeat (go_big_quiet_step ((fail)))
    exact wpQuiet_nil rfl
  simp only [sel_t, sel_f, sel_n, loudly_cons, loudly_nil]
  go_wp2
  refine ⟨⟨(_, _, _, _, _), rfl⟩, ?_⟩
  rw [loudly_cons]
  go_wp2
  refine ⟨⟨(_, _, _, _, _), rfl⟩, ?_⟩
  rw [loudly_nil]
  go_wp2
  refine bodyPost_ret (v := .tuple #[.agg #[.slice a1 ((numL l e)).length cap1, .int .i64 (numE l e)], .agg (rq ({ q with gen := (numV l e) } : Req) a cap)]) ?_ rfl (fieldr_of HT.out HB1.out (HRA.out.more (more_wd _ _ _)) (more_wd _ _ _) (fun _ _ h => h))
  simp [results, Try.results114, go_sem]
end Go.Proofs.Ytejokhgabcldhaa
/- wire: the reference's field, of a batch. -/
namespace Go.Proofs.Ytejokhgabcldhaa
open Go.ChangeShapes Go.WideShapes Go.ChangeAt Go.RowKit
set_option linter.unusedVariables false
set_option linter.unusedSimpArgs false

theorem recs_field {w : World} {x9 m2 x1 R : Array Obj} {n n' : Nat} {q0 q0' q1 q1' : Req} {a0 a0' a1 a1' : Option Addr} {c0 c0' c1 c1' : Nat} {v2 v2' : Value} {e2 e2' : Int} {a : Option Addr} {rs : List Rec} (hv : ∀ x, v2 ≠ .bool x)
    (h : RecsAt (wd w [x9, m2, x1, qbk q0 a0 c0, #[.cells #[v2, .int .i64 e2] 118], qbk q1 a1 c1, R] n) a rs) :
    RecsAt (wd w [x9, m2, x1, qbk q0' a0' c0', #[.cells #[v2', .int .i64 e2'] 118], qbk q1' a1' c1', R] n') a rs := by
  have h1 := recs_bset (p := sz w.heap.size (shape [R])) (q := q1) (a := a1) (cap := c1) h (deep_push (deep_push (deep_push (deep_push (deep_push (own_top w [R] n _)))))) (qob q1' a1' c1')
  rw [bset_wd_past _ _ _ _ _ _ _ rfl (by simp [shape, inn]), bset_wd_past _ _ _ _ _ _ _ rfl (by simp [shape, inn]), bset_wd_past _ _ _ _ _ _ _ rfl (by simp [shape, inn]), bset_wd_past _ _ _ _ _ _ _ rfl (by simp [shape, inn]), bset_wd_past _ _ _ _ _ _ _ rfl (by simp [shape, inn]), bset_wd _ _ _ _ _ _ _ rfl rfl] at h1
  simp only [onTop_wd] at h1
  have hb : (wd w [x9, m2, x1, qbk q0 a0 c0, #[.cells #[v2, .int .i64 e2] 118], qbk q1' a1' c1', R] n).heap[sz w.heap.size (shape [qbk q1' a1' c1', R])]? = some (.cells #[v2, .int .i64 e2] 118) := deep_push (deep_push (deep_push (deep_push (own_top w [qbk q1' a1' c1', R] n _))))
  have h2 := recs_other (w' := bset (wd w [x9, m2, x1, qbk q0 a0 c0, #[.cells #[v2, .int .i64 e2] 118], qbk q1' a1' c1', R] n) (sz w.heap.size (shape [qbk q1' a1' c1', R])) (.cells #[v2', .int .i64 e2'] 118)) h1 (bset_size _ _ _) (fun b hb => bset_other _ _ _ _ hb) hb (no_rec_r v2 e2 hv)
  rw [bset_wd_past _ _ _ _ _ _ _ rfl (by simp [shape, inn]), bset_wd_past _ _ _ _ _ _ _ rfl (by simp [shape, inn]), bset_wd_past _ _ _ _ _ _ _ rfl (by simp [shape, inn]), bset_wd_past _ _ _ _ _ _ _ rfl (by simp [shape, inn]), bset_wd _ _ _ _ _ _ _ rfl rfl] at h2
  simp only [onTop_wd] at h2
  have h3 := recs_bset (p := sz w.heap.size (shape [#[.cells #[v2', .int .i64 e2'] 118], qbk q1' a1' c1', R])) (q := q0) (a := a0) (cap := c0) h2 (deep_push (deep_push (deep_push (own_top w _ n _)))) (qob q0' a0' c0')
  rw [bset_wd_past _ _ _ _ _ _ _ rfl (by simp [shape, inn]), bset_wd_past _ _ _ _ _ _ _ rfl (by simp [shape, inn]), bset_wd_past _ _ _ _ _ _ _ rfl (by simp [shape, inn]), bset_wd _ _ _ _ _ _ _ rfl rfl] at h3
  simp only [onTop_wd] at h3
  exact h3.more (more_same _ _ _ _)
set_option maxRecDepth 100000 in
set_option maxHeartbeats 3200000 in
theorem rfield_98 (v : Value) (l : List UInt8) (e : Int) (q : Req) (a : Option Addr) (cap : Nat) (w : World) (hv : RB w v l) (hra : RecsAt w a q.batch.recs) :
    Calls Try.prog 114 #[.agg #[v, .int .i64 e], .agg (rq q a cap), .int .u8 98] w fun x w' => FieldR w w' x v l e q a 98 := by
  have HV := Lib.hid hv
  have HRA := Lib.hid hra
  have HT : Hid (reqTake 1073741824 (l, e, q) 98 = ((txt l e 1073741824).1, (txt l e 1073741824).2.1, { q with batch := (batGet (txt l e 1073741824).2.2).1 })) := Lib.hid rfl
  have htl : (txt l e 1073741824).2.2.length ≤ 1099511627776 := by
    have h1 := txt_len l e 1073741824 (by decide)
    omega
  have HTX := Lib.hid (fun W h1 => rtxt_any v l e 1073741824 (by decide) W h1)
  have HGB := Lib.hid (fun V W h => rget_bat V (txt l e 1073741824).2.2 W h)
  generalize txt l e 1073741824 = X at HTX htl HT HGB
  obtain ⟨tl, te, tb⟩ := X
  dsimp only at HTX htl HT HGB
  clear hv hra
  refine calls_wd ?_
  go_enter Try.func114, Try.ntmps114
  go_wp2_with (first
    | (go_at_call 72; (with_reducible refine (HTX.out _ (HV.out.more (more_wd w _ _))).mono ?_); rintro x w1 ⟨v1, rfl, hb1, x1, n1, rfl⟩; have HB1 := Lib.hid hb1; obtain ⟨a1, cap1, rfl, hc1, hm1, hr1⟩ := hb1 w HV.out; clear hb1 hr1)
    | (show wpList _ _ _ (⟨_, .convert _ _ _, _, _, _, _⟩ :: _) _ _; refine at_conv rfl _ rfl rfl htl ?_; intro ad cc m2 hrb; have HRB := Lib.hid hrb; clear hrb)
    | (go_at_call 143; ((with_reducible refine (HGB.out _ _ (HRB.out _)).mono ?_); rintro x w2 hbr; obtain ⟨a9, c9, rfl, hra9, ⟨x9, n9, rfl⟩, hf9⟩ := hbr.out; have HRA9 := Lib.hid hra9; have HF9 : Hid (From w.heap.size a9 (batGet tb).1.recs) := Lib.hid (hf9.le (by rw [wd_size]; exact sz_ge _ _)); clear hra9 hf9 hbr)))
  refine wp_region_mixf (fun (s : Value × Value × Req × Option Addr × Nat) => wd w [x9, m2.e, x1, #[.cells (rq s.2.2.1 s.2.2.2.1 s.2.2.2.2) 27], #[.cells #[s.1, s.2.1] 118], #[.cells (rq { q with batch := (batGet tb).1 } a9 c9) 27], #[.cells #[.slice a1 tl.length cap1, .int .i64 te] 118]] (n9 + 1)) ((.slice none 0 0, .int .i64 0, reqBlank 0, none, 0)) [0, 1] [2, 3] [true, true] [false, false, true, true] rfl ⟨rfl, rfl⟩ (by kernel_rfl) (by kernel_rfl) (fun _ _ d _ _ h => by cases d <;> exact h) ?_
  apply Exists.intro
  refine ⟨?_, ?_⟩
  · intro E
    simp only [sel_t, sel_f, sel_n]
    repeat (go_big_quiet_step ((fail)))
    exact wpQuiet_nil rfl
  simp only [sel_t, sel_f, sel_n, loudly_cons, loudly_nil]
  go_wp2
  refine ⟨⟨(_, _, _, _, _), rfl⟩, ?_⟩
  rw [loudly_cons]
  go_wp2
  refine ⟨⟨(_, _, _, _, _), rfl⟩, ?_⟩
  rw [loudly_nil]
  go_wp2
  refine bodyPost_ret (v := .tuple #[.agg #[.slice a1 tl.length cap1, .int .i64 te], .agg (rq { q with batch := (batGet tb).1 } a9 c9)]) ?_ rfl (fieldr_of HT.out HB1.out (recs_field (by intro x hx; cases hx) HRA9.out) (more_wd _ _ _) (fun B hB _ => HF9.out.le hB))
  simp [results, Try.results114, go_sem]
theorem rfield_any (v : Value) (l : List UInt8) (e : Int) (q : Req) (a : Option Addr) (cap : Nat) (c : UInt8) (hc : c ∈ letters) (w : World) (hv : RB w v l) (hra : RecsAt w a q.batch.recs) :
    Calls Try.prog 114 #[.agg #[v, .int .i64 e], .agg (rq q a cap), .int .u8 c.toNat] w fun x w' => FieldR w w' x v l e q a c := by
  simp only [letters, List.mem_cons, List.not_mem_nil, or_false] at hc
  rcases hc with rfl | rfl | rfl | rfl | rfl | rfl | rfl | rfl | rfl | rfl | rfl | rfl
  · exact rfield_116 v l e q a cap w hv hra
  · exact rfield_105 v l e q a cap w hv hra
  · exact rfield_112 v l e q a cap w hv hra
  · exact rfield_99 v l e q a cap w hv hra
  · exact rfield_102 v l e q a cap w hv hra
  · exact rfield_111 v l e q a cap w hv hra
  · exact rfield_109 v l e q a cap w hv hra
  · exact rfield_119 v l e q a cap w hv hra
  · exact rfield_103 v l e q a cap w hv hra
  · exact rfield_107 v l e q a cap w hv hra
  · exact rfield_110 v l e q a cap w hv hra
  · exact rfield_98 v l e q a cap w hv hra
end Go.Proofs.Ytejokhgabcldhaa
