/- The bytes of a text. -/
import Derived.Test.YtejokhgabcldhaaMA
import Derived.Lib.ConvBytes
import Derived.Test.YtejokhgabcldhaaMK2
import Derived.Test.YtejokhgabcldhaaMF
import Derived.Test.YtejokhgabcldhaaMK
import Derived.Test.YtejokhgabcldhaaMG
import Derived.Test.YtejokhgabcldhaaMN3
namespace Go.Proofs.Ytejokhgabcldhaa
open Go.ChangeShapes Go.WideShapes Go.ChangeAt Go.RowKit
set_option linter.unusedVariables false
set_option linter.unusedSimpArgs false

theorem str_toList' (l : List UInt8) : (str l).data.toList = l := by simp [str]
theorem bytesWorld_plus (w : World) (e : TypeId) (s : ByteArray) : ∃ m : Ext, Lib.bytesWorld w e s = plus w m.e m.n := by
  refine ⟨⟨#[.cells (Lib.bytesCells w e s) e ((Lib.bytesCells w e s).size, (Lib.bytesCells w e s).size + 1)], w.drawn + 1⟩, ?_⟩
  refine world_ext ?_ rfl rfl rfl rfl
  apply Array.ext_getElem?
  intro j
  show (Lib.bytesWorld w e s).heap[j]? = (w.heap ++ #[_])[j]?
  rcases Nat.lt_trichotomy j w.heap.size with hj | hj | hj
  · rw [Lib.bytesWorld_at_old w e s j hj, Array.getElem?_append_left hj]
  · subst hj
    rw [Lib.bytesWorld_at_new, Array.getElem?_append_right (Nat.le_refl _)]
    simp
  · rw [Array.getElem?_eq_none (by rw [Lib.bytesWorld_size]; omega), Array.getElem?_eq_none (by simp; omega)]
theorem run_conv (w : World) (l : List UInt8) (hl : l.length ≤ 1099511627776) : ∃ (a : Option Addr) (cap : Nat) (m : Ext), (convert 9 28 (.string (str l))).run Try.prog w = .ok (.slice a l.length cap) (plus w m.e m.n) ∧ RB (plus w m.e m.n) (.slice a l.length cap) l := by
  obtain ⟨m, hm⟩ := bytesWorld_plus w 5 (str l)
  have hs : (str l).size = l.length := str_size l
  have h1 := grownCap_ge w (str l).size 0 5
  have h2 := grownCap_le_maxLen w (str l).size 0 5 (by rw [hs]; unfold maxLen; omega)
  rw [hs] at h1 h2
  refine ⟨some ⟨w.heap.size, 0, none⟩, grownCap w l.length 0 5, m, ?_, ?_⟩
  · rw [Lib.run_convert_string_bytes w _ _ 5 (str l) Try.underlying9 Try.underlying28 Try.underlying5, hm, hs]
  · refine ⟨_, _, rfl, h1, h2, fun hne => ⟨w.heap.size, 0, rfl, ?_, fun i hi => ?_⟩⟩
    · rw [← hm, Lib.bytesWorld_size]; omega
    · rw [← hm, Nat.zero_add, Lib.bytesWorld_cell _ _ _ _ (by rw [hs]; exact hi), bc_get, str_toList']
      simp [List.getD, List.getElem?_eq_getElem hi]
/-- '[]byte(x)', x a text. -/
theorem at_conv {ops : Array Oper} {rest : List Oper} {o : Oper} {a : Act} {Q : Exit → Act → World → Prop} {w : World} {L : List (Array Obj)} {n : Nat} {l : List UInt8} (hgd : o.guard = none) (x : Operand)
    (ho : o.op = .convert 9 28 x) (hx : a.eval x = .string (str l)) (hl : l.length ≤ 1099511627776)
    (h : ∀ (ad : Option Addr) (cap : Nat) (m : Ext), (∀ k, RB (wd w (m.e :: L) k) (.slice ad l.length cap) l) → wpList Try.prog ops Q rest (a.put o.dst (.slice ad l.length cap)) (wd w (m.e :: L) m.n)) :
    wpList Try.prog ops Q (o :: rest) a (wd w L n) := by
  obtain ⟨ad, cap, m, hrun, hrb⟩ := run_conv (wd w L n) l hl
  refine wpList_plain hgd fun K hK' => ?_
  have h2 := h ad cap m (fun k => hrb.more ⟨#[], k, by rw [wd_plus]; rw [show plus (wd w (m.e :: L) m.n) #[] k = wd w (#[] :: m.e :: L) k from rfl, wd_empty]⟩)
  unfold Oper.wp
  simp [execOp, ho, hx, hrun, Result.andThen]
  exact hK' _ _ h2
end Go.Proofs.Ytejokhgabcldhaa
/- wire: take. -/
namespace Go.Proofs.Ytejokhgabcldhaa
open Go.ChangeShapes Go.WideShapes Go.ChangeAt Go.RowKit
set_option linter.unusedVariables false
set_option linter.unusedSimpArgs false

/-- Records stand in no block where no text follows a yes or no. -/
theorem recs_other {w w' : World} {a : Option Addr} {rs : List Rec} {b0 : Nat} {C : Array Value} {t : TypeId} {fr : Nat × Nat} (h : RecsAt w a rs) (hs : w'.heap.size = w.heap.size) (ho : ∀ b, b ≠ b0 → w'.heap[b]? = w.heap[b]?)
    (hC : w.heap[b0]? = some (.cells C t fr)) (hno : ∀ (i : Nat) (x : Bool) (s : ByteArray), C[i]? = some (.bool x) → C[i + 1]? ≠ some (.string s)) : RecsAt w' a rs := by
  refine ⟨fun hne => ?_⟩
  obtain ⟨b, off, ha, hb, hc⟩ := h.out hne
  refine ⟨b, off, ha, by rw [hs]; exact hb, fun i hi => ?_⟩
  have hbp : b ≠ b0 := by
    intro he; subst he
    obtain ⟨x, xs, rfl⟩ := List.exists_cons_of_ne_nil hne
    have h2 := hc 2 (by rw [List.length_cons]; omega)
    have h3 := hc 3 (by rw [List.length_cons]; omega)
    simp only [World.cell?, hC] at h2 h3
    exact hno (off + 2) _ _ h2 h3
  rw [← hc i hi]
  simp only [World.cell?, ho b hbp]
theorem no_rec_q (q : Req) (a : Option Addr) (cap : Nat) (i : Nat) (x : Bool) (s : ByteArray) (h : (reqCells q a cap).toArray[i]? = some (.bool x)) : (reqCells q a cap).toArray[i + 1]? ≠ some (.string s) := by
  match i, h with
  | 0, h => simp [reqCells] at h
  | 1, h => simp [reqCells] at h
  | 2, h => simp [reqCells] at h
  | 3, h => simp [reqCells] at h
  | 4, h => simp [reqCells]
  | 5, h => simp [reqCells]
  | 6, h => simp [reqCells] at h
  | 7, h => simp [reqCells] at h
  | 8, h => simp [reqCells] at h
  | 9, h => simp [reqCells] at h
  | 10, h => simp [reqCells] at h
  | 11, h => simp [reqCells] at h
  | 12, h => simp [reqCells] at h
  | 13, h => simp [reqCells] at h
  | 14, h => simp [reqCells] at h
  | 15, h => simp [reqCells] at h
  | 16, h => simp [reqCells] at h
  | 17, h => simp [reqCells] at h
  | k + 18, h => simp [reqCells] at h
theorem no_rec_r (v : Value) (e : Int) (hv : ∀ x, v ≠ .bool x) (i : Nat) (x : Bool) (s : ByteArray) (h : (#[v, .int .i64 e] : Array Value)[i]? = some (.bool x)) : (#[v, .int .i64 e] : Array Value)[i + 1]? ≠ some (.string s) := by
  match i, h with
  | 0, h => simp at h; exact absurd h (hv _)
  | 1, h => simp at h
  | k + 2, h => simp at h
theorem RB.nb {w : World} {v : Value} {l : List UInt8} (h : RB w v l) : ∀ x, v ≠ .bool x := by
  obtain ⟨a, cap, rfl, _⟩ := h
  intro x hx; cases hx
/-- A byte of a request's block is its kind. -/
theorem rb_bset {w : World} {v : Value} {l : List UInt8} {p : Nat} {q q' : Req} {a a' : Option Addr} {cap cap' : Nat} (h : RB w v l) (hq : w.heap[p]? = some (qob q a cap)) (hk : q'.kind = q.kind) : RB (bset w p (qob q' a' cap')) v l := by
  obtain ⟨ad, c, hv, h1, h2, h3⟩ := h
  refine ⟨ad, c, hv, h1, h2, fun hne => ?_⟩
  obtain ⟨b, off, ha, hb, hc⟩ := h3 hne
  refine ⟨b, off, ha, by rw [bset_size]; exact hb, fun i hi => ?_⟩
  have hx := hc i hi
  by_cases he : b = p
  · subst he
    have hlt := (Array.getElem?_eq_some_iff.1 hq).1
    have hj : ∃ j, off + i = j := ⟨_, rfl⟩
    obtain ⟨j, hj⟩ := hj
    rw [hj] at hx ⊢
    rw [← hx]
    rw [bc_get] at hx
    obtain ⟨y, hy⟩ : ∃ y, l[i]? = some y := ⟨_, List.getElem?_eq_getElem hi⟩
    rw [hy] at hx
    simp only [World.cell?, hq, bset_at hlt] at hx ⊢
    match j, hx with
    | 0, hx => simp [reqCells, hk]
    | 1, hx => simp [reqCells] at hx
    | 2, hx => simp [reqCells] at hx
    | 3, hx => simp [reqCells] at hx
    | 4, hx => simp [reqCells] at hx
    | 5, hx => simp [reqCells] at hx
    | 6, hx => simp [reqCells] at hx
    | 7, hx => simp [reqCells] at hx
    | 8, hx => simp [reqCells] at hx
    | 9, hx => simp [reqCells] at hx
    | 10, hx => simp [reqCells] at hx
    | 11, hx => simp [reqCells] at hx
    | 12, hx => simp [reqCells] at hx
    | 13, hx => simp [reqCells] at hx
    | 14, hx => simp [reqCells] at hx
    | 15, hx => simp [reqCells] at hx
    | 16, hx => simp [reqCells] at hx
    | 17, hx => simp [reqCells] at hx
    | k + 18, hx => simp [reqCells] at hx
  · rw [← hx]
    simp only [World.cell?, bset_other _ _ _ _ he]
theorem recs_bset {w : World} {a0 : Option Addr} {rs : List Rec} {p : Nat} {q : Req} {a : Option Addr} {cap : Nat} (h : RecsAt w a0 rs) (hq : w.heap[p]? = some (qob q a cap)) (o : Obj) : RecsAt (bset w p o) a0 rs :=
  recs_other h (bset_size _ _ _) (fun b hb => bset_other _ _ _ _ hb) hq (no_rec_q q a cap)
theorem recs_rset {w : World} {a0 : Option Addr} {rs : List Rec} {p : Nat} {v : Value} {e : Int} (h : RecsAt w a0 rs) (hr : Rdr w p v e) (hv : ∀ x, v ≠ .bool x) (v' : Value) (e' : Int) : RecsAt (rset w p v' e') a0 rs :=
  recs_other h (rset_size _ _ _ _) (fun b hb => rset_other _ _ _ _ _ hb) hr.at_ (no_rec_r v e hv)
/-- A field taken: what is left behind it. -/
structure TookQ (w w' : World) (p qp : Nat) (v : Value) (l : List UInt8) (e : Int) (q : Req) (a : Option Addr) (c : UInt8) : Prop where
  out : ∃ v' a' cap' , (∀ W0, RB W0 v l → RB W0 v' (reqTake 8192 (l, e, q) c).1) ∧ RecsAt w' a' (reqTake 8192 (l, e, q) c).2.2.batch.recs ∧ (∀ B, B ≤ w.heap.size → From B a q.batch.recs → From B a' (reqTake 8192 (l, e, q) c).2.2.batch.recs) ∧
    ∃ m : Ext, w' = plus (bset (rset w p v' (reqTake 8192 (l, e, q) c).2.1) qp (qob (reqTake 8192 (l, e, q) c).2.2 a' cap')) m.e m.n
theorem rdr_ne {w : World} {p qp : Nat} {v : Value} {e : Int} {q : Req} {a : Option Addr} {cap : Nat} (hr : Rdr w p v e) (hq : w.heap[qp]? = some (qob q a cap)) : qp ≠ p := by
  intro h; subst h
  rw [hr.at_] at hq
  have := congrArg (fun o => match o with | some (.cells C _ _) => C.size | _ => 0) hq
  simp [reqCells] at this
theorem rset_q {w : World} {p qp : Nat} {v : Value} {e : Int} {q : Req} {a : Option Addr} {cap : Nat} (hr : Rdr w p v e) (hq : w.heap[qp]? = some (qob q a cap)) (v' : Value) (e' : Int) : (rset w p v' e').heap[qp]? = some (qob q a cap) := by
  rw [rset_other _ _ _ _ _ (rdr_ne hr hq)]; exact hq
theorem q_cell {w : World} {qp : Nat} {q : Req} {a : Option Addr} {cap : Nat} (hq : w.heap[qp]? = some (qob q a cap)) (i : Nat) {x : Value} (h : (reqCells q a cap)[i]? = some x) : w.cell? ⟨qp, i, none⟩ = some x := by
  simp [World.cell?, hq, h]
theorem q_frozen {w : World} {qp : Nat} {q : Req} {a : Option Addr} {cap : Nat} (hq : w.heap[qp]? = some (qob q a cap)) (i : Nat) : w.frozen? ⟨qp, i, none⟩ = false := by
  simp [World.frozen?, hq]
theorem tookq_of {w : World} {L : List (Array Obj)} {n p qp i : Nat} {v v1 x : Value} {l l1 : List UInt8} {e e1 : Int} {q q1 : Req} {a : Option Addr} {cap : Nat} {c : UInt8} (hr : Rdr w p v e) (hv : RB w v l) (hq : w.heap[qp]? = some (qob q a cap)) (hra : RecsAt w a q.batch.recs)
    (h : reqTake 8192 (l, e, q) c = (l1, e1, q1)) (hk : ∀ W0, RB W0 v l → RB W0 v1 l1) (hc : (reqCells q a cap).toArray.setIfInBounds i x = (reqCells q1 a cap).toArray) (hb : q1.batch = q.batch) :
    TookQ w (wd ((rset w p v1 e1).setCell ⟨qp, i, none⟩ x) L n) p qp v l e q a c := by
  have hq1 := rset_q hr hq v1 e1
  have hset : (rset w p v1 e1).setCell ⟨qp, i, none⟩ x = bset (rset w p v1 e1) qp (qob q1 a cap) := by rw [setCell_bset hq1, hc]
  refine ⟨v1, a, cap, by rw [h]; exact hk, ?_, fun B hB hf => by rw [h]; dsimp only; rw [hb]; exact hf, ?_⟩
  · rw [h, hset]
    dsimp only
    rw [hb]
    exact (recs_bset (recs_rset hra hr hv.nb v1 e1) hq1 _).more (more_wd _ _ _)
  · rw [h, hset]
    exact (more_wd _ L n).ext
set_option maxRecDepth 100000 in
set_option maxHeartbeats 1600000 in
theorem take_116 (p qp : Nat) (v : Value) (l : List UInt8) (e : Int) (q : Req) (a : Option Addr) (cap : Nat) (w : World) (hr : Rdr w p v e) (hv : RB w v l) (hq : w.heap[qp]? = some (qob q a cap)) (hra : RecsAt w a q.batch.recs) :
    Calls Try.prog 109 #[.pointer (some ⟨p, 0, none⟩), .pointer (some ⟨qp, 0, none⟩), .int .i32 116] w fun x w' => x = .returned (.tuple #[]) ∧ TookQ w w' p qp v l e q a 116 := by
  have HV := Lib.hid hv
  have HR := Lib.hid hr
  have HQ := Lib.hid hq
  have HRA := Lib.hid hra
  have hlt := (Array.getElem?_eq_some_iff.1 hq).1
  have hltp := hr.lt
  have HD := Lib.hid (fun v1 e1 => q_cell (rset_q hr hq v1 e1) 1 rfl)
  have HF := Lib.hid (fun v1 e1 => q_frozen (rset_q hr hq v1 e1) 1)
  clear hr hv hq hra
  refine calls_wd ?_
  go_enter Try.func109, Try.ntmps109
  go_wp2_with (first | (go_at_call 70; ((with_reducible refine (txt_any p v l e 255 (by decide) _ (HR.out.more (more_wd _ _ _)) (HV.out.more (more_wd _ _ _))).mono ?_); rintro x w1 ⟨rfl, v1, hb1, m1, rfl⟩; have HB := Lib.hid hb1; clear hb1; have d1 := HD.out v1 ((txt l e 255).2.1); have f1 := HF.out v1 ((txt l e 255).2.1))))
  go_end0
  exact ⟨rfl, tookq_of HR.out HV.out HQ.out HRA.out rfl HB.out rfl rfl⟩
set_option maxRecDepth 100000 in
set_option maxHeartbeats 1600000 in
theorem take_105 (p qp : Nat) (v : Value) (l : List UInt8) (e : Int) (q : Req) (a : Option Addr) (cap : Nat) (w : World) (hr : Rdr w p v e) (hv : RB w v l) (hq : w.heap[qp]? = some (qob q a cap)) (hra : RecsAt w a q.batch.recs) :
    Calls Try.prog 109 #[.pointer (some ⟨p, 0, none⟩), .pointer (some ⟨qp, 0, none⟩), .int .i32 105] w fun x w' => x = .returned (.tuple #[]) ∧ TookQ w w' p qp v l e q a 105 := by
  have HV := Lib.hid hv
  have HR := Lib.hid hr
  have HQ := Lib.hid hq
  have HRA := Lib.hid hra
  have hlt := (Array.getElem?_eq_some_iff.1 hq).1
  have hltp := hr.lt
  have HD := Lib.hid (fun v1 e1 => q_cell (rset_q hr hq v1 e1) 2 rfl)
  have HF := Lib.hid (fun v1 e1 => q_frozen (rset_q hr hq v1 e1) 2)
  clear hr hv hq hra
  refine calls_wd ?_
  go_enter Try.func109, Try.ntmps109
  go_wp2_with (first | (go_at_call 63; ((with_reducible refine (num_any p v l e _ (HR.out.more (more_wd _ _ _)) (HV.out.more (more_wd _ _ _))).mono ?_); rintro x w1 ⟨rfl, v1, hb1, m1, rfl⟩; have HB := Lib.hid hb1; clear hb1; have d1 := HD.out v1 (numE l e); have f1 := HF.out v1 (numE l e))))
  go_end0
  exact ⟨rfl, tookq_of HR.out HV.out HQ.out HRA.out rfl HB.out rfl rfl⟩
set_option maxRecDepth 100000 in
set_option maxHeartbeats 1600000 in
theorem take_112 (p qp : Nat) (v : Value) (l : List UInt8) (e : Int) (q : Req) (a : Option Addr) (cap : Nat) (w : World) (hr : Rdr w p v e) (hv : RB w v l) (hq : w.heap[qp]? = some (qob q a cap)) (hra : RecsAt w a q.batch.recs) :
    Calls Try.prog 109 #[.pointer (some ⟨p, 0, none⟩), .pointer (some ⟨qp, 0, none⟩), .int .i32 112] w fun x w' => x = .returned (.tuple #[]) ∧ TookQ w w' p qp v l e q a 112 := by
  have HV := Lib.hid hv
  have HR := Lib.hid hr
  have HQ := Lib.hid hq
  have HRA := Lib.hid hra
  have hlt := (Array.getElem?_eq_some_iff.1 hq).1
  have hltp := hr.lt
  have HD := Lib.hid (fun v1 e1 => q_cell (rset_q hr hq v1 e1) 3 rfl)
  have HF := Lib.hid (fun v1 e1 => q_frozen (rset_q hr hq v1 e1) 3)
  clear hr hv hq hra
  refine calls_wd ?_
  go_enter Try.func109, Try.ntmps109
  go_wp2_with (first | (go_at_call 63; ((with_reducible refine (num_any p v l e _ (HR.out.more (more_wd _ _ _)) (HV.out.more (more_wd _ _ _))).mono ?_); rintro x w1 ⟨rfl, v1, hb1, m1, rfl⟩; have HB := Lib.hid hb1; clear hb1; have d1 := HD.out v1 (numE l e); have f1 := HF.out v1 (numE l e))))
  go_end0
  exact ⟨rfl, tookq_of HR.out HV.out HQ.out HRA.out rfl HB.out rfl rfl⟩
set_option maxRecDepth 100000 in
set_option maxHeartbeats 1600000 in
theorem take_99 (p qp : Nat) (v : Value) (l : List UInt8) (e : Int) (q : Req) (a : Option Addr) (cap : Nat) (w : World) (hr : Rdr w p v e) (hv : RB w v l) (hq : w.heap[qp]? = some (qob q a cap)) (hra : RecsAt w a q.batch.recs) :
    Calls Try.prog 109 #[.pointer (some ⟨p, 0, none⟩), .pointer (some ⟨qp, 0, none⟩), .int .i32 99] w fun x w' => x = .returned (.tuple #[]) ∧ TookQ w w' p qp v l e q a 99 := by
  have HV := Lib.hid hv
  have HR := Lib.hid hr
  have HQ := Lib.hid hq
  have HRA := Lib.hid hra
  have hlt := (Array.getElem?_eq_some_iff.1 hq).1
  have hltp := hr.lt
  have HD := Lib.hid (fun v1 e1 => q_cell (rset_q hr hq v1 e1) 4 rfl)
  have HF := Lib.hid (fun v1 e1 => q_frozen (rset_q hr hq v1 e1) 4)
  clear hr hv hq hra
  refine calls_wd ?_
  go_enter Try.func109, Try.ntmps109
  go_wp2_with (first | (go_at_call 64; ((with_reducible refine (fix_any p v l e _ (HR.out.more (more_wd _ _ _)) (HV.out.more (more_wd _ _ _))).mono ?_); rintro x w1 ⟨rfl, v1, hb1, m1, rfl⟩; have HB := Lib.hid hb1; clear hb1; have d1 := HD.out v1 (fixE l e); have f1 := HF.out v1 (fixE l e))))
  go_end0
  exact ⟨rfl, tookq_of HR.out HV.out HQ.out HRA.out rfl HB.out rfl rfl⟩
set_option maxRecDepth 100000 in
set_option maxHeartbeats 1600000 in
theorem take_102 (p qp : Nat) (v : Value) (l : List UInt8) (e : Int) (q : Req) (a : Option Addr) (cap : Nat) (w : World) (hr : Rdr w p v e) (hv : RB w v l) (hq : w.heap[qp]? = some (qob q a cap)) (hra : RecsAt w a q.batch.recs) :
    Calls Try.prog 109 #[.pointer (some ⟨p, 0, none⟩), .pointer (some ⟨qp, 0, none⟩), .int .i32 102] w fun x w' => x = .returned (.tuple #[]) ∧ TookQ w w' p qp v l e q a 102 := by
  have HV := Lib.hid hv
  have HR := Lib.hid hr
  have HQ := Lib.hid hq
  have HRA := Lib.hid hra
  have hlt := (Array.getElem?_eq_some_iff.1 hq).1
  have hltp := hr.lt
  have HD := Lib.hid (fun v1 e1 => q_cell (rset_q hr hq v1 e1) 5 rfl)
  have HF := Lib.hid (fun v1 e1 => q_frozen (rset_q hr hq v1 e1) 5)
  clear hr hv hq hra
  refine calls_wd ?_
  go_enter Try.func109, Try.ntmps109
  go_wp2_with (first | (go_at_call 64; ((with_reducible refine (fix_any p v l e _ (HR.out.more (more_wd _ _ _)) (HV.out.more (more_wd _ _ _))).mono ?_); rintro x w1 ⟨rfl, v1, hb1, m1, rfl⟩; have HB := Lib.hid hb1; clear hb1; have d1 := HD.out v1 (fixE l e); have f1 := HF.out v1 (fixE l e))))
  go_end0
  exact ⟨rfl, tookq_of HR.out HV.out HQ.out HRA.out rfl HB.out rfl rfl⟩
set_option maxRecDepth 100000 in
set_option maxHeartbeats 1600000 in
theorem take_111 (p qp : Nat) (v : Value) (l : List UInt8) (e : Int) (q : Req) (a : Option Addr) (cap : Nat) (w : World) (hr : Rdr w p v e) (hv : RB w v l) (hq : w.heap[qp]? = some (qob q a cap)) (hra : RecsAt w a q.batch.recs) :
    Calls Try.prog 109 #[.pointer (some ⟨p, 0, none⟩), .pointer (some ⟨qp, 0, none⟩), .int .i32 111] w fun x w' => x = .returned (.tuple #[]) ∧ TookQ w w' p qp v l e q a 111 := by
  have HV := Lib.hid hv
  have HR := Lib.hid hr
  have HQ := Lib.hid hq
  have HRA := Lib.hid hra
  have hlt := (Array.getElem?_eq_some_iff.1 hq).1
  have hltp := hr.lt
  have HD := Lib.hid (fun v1 e1 => q_cell (rset_q hr hq v1 e1) 6 rfl)
  have HF := Lib.hid (fun v1 e1 => q_frozen (rset_q hr hq v1 e1) 6)
  clear hr hv hq hra
  refine calls_wd ?_
  go_enter Try.func109, Try.ntmps109
  go_wp2_with (first | (go_at_call 63; ((with_reducible refine (num_any p v l e _ (HR.out.more (more_wd _ _ _)) (HV.out.more (more_wd _ _ _))).mono ?_); rintro x w1 ⟨rfl, v1, hb1, m1, rfl⟩; have HB := Lib.hid hb1; clear hb1; have d1 := HD.out v1 (numE l e); have f1 := HF.out v1 (numE l e))))
  go_end0
  exact ⟨rfl, tookq_of HR.out HV.out HQ.out HRA.out rfl HB.out rfl rfl⟩
set_option maxRecDepth 100000 in
set_option maxHeartbeats 1600000 in
theorem take_109 (p qp : Nat) (v : Value) (l : List UInt8) (e : Int) (q : Req) (a : Option Addr) (cap : Nat) (w : World) (hr : Rdr w p v e) (hv : RB w v l) (hq : w.heap[qp]? = some (qob q a cap)) (hra : RecsAt w a q.batch.recs) :
    Calls Try.prog 109 #[.pointer (some ⟨p, 0, none⟩), .pointer (some ⟨qp, 0, none⟩), .int .i32 109] w fun x w' => x = .returned (.tuple #[]) ∧ TookQ w w' p qp v l e q a 109 := by
  have HV := Lib.hid hv
  have HR := Lib.hid hr
  have HQ := Lib.hid hq
  have HRA := Lib.hid hra
  have hlt := (Array.getElem?_eq_some_iff.1 hq).1
  have hltp := hr.lt
  have HD := Lib.hid (fun v1 e1 => q_cell (rset_q hr hq v1 e1) 7 rfl)
  have HF := Lib.hid (fun v1 e1 => q_frozen (rset_q hr hq v1 e1) 7)
  clear hr hv hq hra
  refine calls_wd ?_
  go_enter Try.func109, Try.ntmps109
  go_wp2_with (first | (go_at_call 63; ((with_reducible refine (num_any p v l e _ (HR.out.more (more_wd _ _ _)) (HV.out.more (more_wd _ _ _))).mono ?_); rintro x w1 ⟨rfl, v1, hb1, m1, rfl⟩; have HB := Lib.hid hb1; clear hb1; have d1 := HD.out v1 (numE l e); have f1 := HF.out v1 (numE l e))))
  go_end0
  exact ⟨rfl, tookq_of HR.out HV.out HQ.out HRA.out rfl HB.out rfl rfl⟩
set_option maxRecDepth 100000 in
set_option maxHeartbeats 1600000 in
theorem take_119 (p qp : Nat) (v : Value) (l : List UInt8) (e : Int) (q : Req) (a : Option Addr) (cap : Nat) (w : World) (hr : Rdr w p v e) (hv : RB w v l) (hq : w.heap[qp]? = some (qob q a cap)) (hra : RecsAt w a q.batch.recs) :
    Calls Try.prog 109 #[.pointer (some ⟨p, 0, none⟩), .pointer (some ⟨qp, 0, none⟩), .int .i32 119] w fun x w' => x = .returned (.tuple #[]) ∧ TookQ w w' p qp v l e q a 119 := by
  have HV := Lib.hid hv
  have HR := Lib.hid hr
  have HQ := Lib.hid hq
  have HRA := Lib.hid hra
  have hlt := (Array.getElem?_eq_some_iff.1 hq).1
  have hltp := hr.lt
  have HD := Lib.hid (fun v1 e1 => q_cell (rset_q hr hq v1 e1) 8 rfl)
  have HF := Lib.hid (fun v1 e1 => q_frozen (rset_q hr hq v1 e1) 8)
  clear hr hv hq hra
  refine calls_wd ?_
  go_enter Try.func109, Try.ntmps109
  go_wp2_with (first | (go_at_call 63; ((with_reducible refine (num_any p v l e _ (HR.out.more (more_wd _ _ _)) (HV.out.more (more_wd _ _ _))).mono ?_); rintro x w1 ⟨rfl, v1, hb1, m1, rfl⟩; have HB := Lib.hid hb1; clear hb1; have d1 := HD.out v1 (numE l e); have f1 := HF.out v1 (numE l e))))
  go_end0
  exact ⟨rfl, tookq_of HR.out HV.out HQ.out HRA.out rfl HB.out rfl rfl⟩
set_option maxRecDepth 100000 in
set_option maxHeartbeats 1600000 in
theorem take_103 (p qp : Nat) (v : Value) (l : List UInt8) (e : Int) (q : Req) (a : Option Addr) (cap : Nat) (w : World) (hr : Rdr w p v e) (hv : RB w v l) (hq : w.heap[qp]? = some (qob q a cap)) (hra : RecsAt w a q.batch.recs) :
    Calls Try.prog 109 #[.pointer (some ⟨p, 0, none⟩), .pointer (some ⟨qp, 0, none⟩), .int .i32 103] w fun x w' => x = .returned (.tuple #[]) ∧ TookQ w w' p qp v l e q a 103 := by
  have HV := Lib.hid hv
  have HR := Lib.hid hr
  have HQ := Lib.hid hq
  have HRA := Lib.hid hra
  have hlt := (Array.getElem?_eq_some_iff.1 hq).1
  have hltp := hr.lt
  have HD := Lib.hid (fun v1 e1 => q_cell (rset_q hr hq v1 e1) 9 rfl)
  have HF := Lib.hid (fun v1 e1 => q_frozen (rset_q hr hq v1 e1) 9)
  clear hr hv hq hra
  refine calls_wd ?_
  go_enter Try.func109, Try.ntmps109
  go_wp2_with (first | (go_at_call 70; ((with_reducible refine (txt_any p v l e 255 (by decide) _ (HR.out.more (more_wd _ _ _)) (HV.out.more (more_wd _ _ _))).mono ?_); rintro x w1 ⟨rfl, v1, hb1, m1, rfl⟩; have HB := Lib.hid hb1; clear hb1; have d1 := HD.out v1 ((txt l e 255).2.1); have f1 := HF.out v1 ((txt l e 255).2.1))))
  go_end0
  exact ⟨rfl, tookq_of HR.out HV.out HQ.out HRA.out rfl HB.out rfl rfl⟩
set_option maxRecDepth 100000 in
set_option maxHeartbeats 1600000 in
theorem take_107 (p qp : Nat) (v : Value) (l : List UInt8) (e : Int) (q : Req) (a : Option Addr) (cap : Nat) (w : World) (hr : Rdr w p v e) (hv : RB w v l) (hq : w.heap[qp]? = some (qob q a cap)) (hra : RecsAt w a q.batch.recs) :
    Calls Try.prog 109 #[.pointer (some ⟨p, 0, none⟩), .pointer (some ⟨qp, 0, none⟩), .int .i32 107] w fun x w' => x = .returned (.tuple #[]) ∧ TookQ w w' p qp v l e q a 107 := by
  have HV := Lib.hid hv
  have HR := Lib.hid hr
  have HQ := Lib.hid hq
  have HRA := Lib.hid hra
  have hlt := (Array.getElem?_eq_some_iff.1 hq).1
  have hltp := hr.lt
  have HD := Lib.hid (fun v1 e1 => q_cell (rset_q hr hq v1 e1) 10 rfl)
  have HF := Lib.hid (fun v1 e1 => q_frozen (rset_q hr hq v1 e1) 10)
  clear hr hv hq hra
  refine calls_wd ?_
  go_enter Try.func109, Try.ntmps109
  go_wp2_with (first | (go_at_call 70; ((with_reducible refine (txt_any p v l e 255 (by decide) _ (HR.out.more (more_wd _ _ _)) (HV.out.more (more_wd _ _ _))).mono ?_); rintro x w1 ⟨rfl, v1, hb1, m1, rfl⟩; have HB := Lib.hid hb1; clear hb1; have d1 := HD.out v1 ((txt l e 255).2.1); have f1 := HF.out v1 ((txt l e 255).2.1))))
  go_end0
  exact ⟨rfl, tookq_of HR.out HV.out HQ.out HRA.out rfl HB.out rfl rfl⟩
set_option maxRecDepth 100000 in
set_option maxHeartbeats 1600000 in
theorem take_110 (p qp : Nat) (v : Value) (l : List UInt8) (e : Int) (q : Req) (a : Option Addr) (cap : Nat) (w : World) (hr : Rdr w p v e) (hv : RB w v l) (hq : w.heap[qp]? = some (qob q a cap)) (hra : RecsAt w a q.batch.recs) :
    Calls Try.prog 109 #[.pointer (some ⟨p, 0, none⟩), .pointer (some ⟨qp, 0, none⟩), .int .i32 110] w fun x w' => x = .returned (.tuple #[]) ∧ TookQ w w' p qp v l e q a 110 := by
  have HV := Lib.hid hv
  have HR := Lib.hid hr
  have HQ := Lib.hid hq
  have HRA := Lib.hid hra
  have hlt := (Array.getElem?_eq_some_iff.1 hq).1
  have hltp := hr.lt
  have HD := Lib.hid (fun v1 e1 => q_cell (rset_q hr hq v1 e1) 11 rfl)
  have HF := Lib.hid (fun v1 e1 => q_frozen (rset_q hr hq v1 e1) 11)
  clear hr hv hq hra
  refine calls_wd ?_
  go_enter Try.func109, Try.ntmps109
  go_wp2_with (first | (go_at_call 63; ((with_reducible refine (num_any p v l e _ (HR.out.more (more_wd _ _ _)) (HV.out.more (more_wd _ _ _))).mono ?_); rintro x w1 ⟨rfl, v1, hb1, m1, rfl⟩; have HB := Lib.hid hb1; clear hb1; have d1 := HD.out v1 (numE l e); have f1 := HF.out v1 (numE l e))))
  go_end0
  exact ⟨rfl, tookq_of HR.out HV.out HQ.out HRA.out rfl HB.out rfl rfl⟩
end Go.Proofs.Ytejokhgabcldhaa
/- wire: take, of a batch. -/
namespace Go.Proofs.Ytejokhgabcldhaa
open Go.ChangeShapes Go.WideShapes Go.ChangeAt Go.RowKit
set_option linter.unusedVariables false
set_option linter.unusedSimpArgs false

theorem set_batch {W : World} {qp : Nat} {q : Req} {a : Option Addr} {cap : Nat} (h : W.heap[qp]? = some (qob q a cap)) (b : Bat) (a' : Option Addr) (cap' : Nat) :
    (((((W.setCell ⟨qp, 12, none⟩ (.int .i64 b.base)).setCell ⟨qp, 13, none⟩ (.int .i64 b.count)).setCell ⟨qp, 14, none⟩ (.int .i64 b.producer)).setCell ⟨qp, 15, none⟩ (.int .i64 b.epoch)).setCell ⟨qp, 16, none⟩ (.int .i64 b.seq)).setCell ⟨qp, 17, none⟩ (.slice a' b.recs.length cap') =
      bset W qp (qob { q with batch := b } a' cap') := by
  have hlt := (Array.getElem?_eq_some_iff.1 h).1
  rw [setCell_bset h, bset_setCell hlt, bset_setCell hlt, bset_setCell hlt, bset_setCell hlt, bset_setCell hlt]
  rfl
theorem tookq_bat {w : World} {L : List (Array Obj)} {n p qp : Nat} {v v1 : Value} {l l1 : List UInt8} {e e1 : Int} {q : Req} {b : Bat} {a a' : Option Addr} {cap cap' : Nat} {c : UInt8} (hr : Rdr w p v e) (hq : w.heap[qp]? = some (qob q a cap))
    (hra : RecsAt (wd (rset w p v1 e1) L n) a' b.recs) (hfr : From w.heap.size a' b.recs) (h : reqTake 8192 (l, e, q) c = (l1, e1, { q with batch := b })) (hk : ∀ W0, RB W0 v l → RB W0 v1 l1) :
    TookQ w (wd ((((((((rset w p v1 e1).setCell ⟨qp, 12, none⟩ (.int .i64 b.base)).setCell ⟨qp, 13, none⟩ (.int .i64 b.count)).setCell ⟨qp, 14, none⟩ (.int .i64 b.producer)).setCell ⟨qp, 15, none⟩ (.int .i64 b.epoch)).setCell ⟨qp, 16, none⟩ (.int .i64 b.seq)).setCell ⟨qp, 17, none⟩ (.slice a' b.recs.length cap'))) L n) p qp v l e q a c := by
  have hq1 := rset_q hr hq v1 e1
  have hlt := (Array.getElem?_eq_some_iff.1 hq1).1
  rw [set_batch hq1]
  refine ⟨v1, a', cap', by rw [h]; exact hk, ?_, fun B hB _ => by rw [h]; exact hfr.le hB, ?_⟩
  · rw [h]
    dsimp only
    rw [← bset_wd_old _ _ _ _ _ hlt]
    refine recs_bset hra (q := q) (a := a) (cap := cap) ?_ _
    obtain ⟨x, k, hx⟩ := more_wd (rset w p v1 e1) L n
    rw [hx, plus_block _ _ _ _ hlt]
    exact hq1
  · rw [h]
    exact (more_wd _ L n).ext
set_option maxRecDepth 100000 in
set_option maxHeartbeats 1600000 in
theorem take_98 (p qp : Nat) (v : Value) (l : List UInt8) (e : Int) (q : Req) (a : Option Addr) (cap : Nat) (w : World) (hr : Rdr w p v e) (hv : RB w v l) (hq : w.heap[qp]? = some (qob q a cap)) (hra : RecsAt w a q.batch.recs) :
    Calls Try.prog 109 #[.pointer (some ⟨p, 0, none⟩), .pointer (some ⟨qp, 0, none⟩), .int .i32 98] w fun x w' => x = .returned (.tuple #[]) ∧ TookQ w w' p qp v l e q a 98 := by
  have HV := Lib.hid hv
  have HR := Lib.hid hr
  have HQ := Lib.hid hq
  have HRA := Lib.hid hra
  have hlt := (Array.getElem?_eq_some_iff.1 hq).1
  have hltp := hr.lt
  have HQ1 := Lib.hid (fun v1 e1 => rset_q hr hq v1 e1)
  have HT : Hid (reqTake 8192 (l, e, q) 98 = ((txt l e 8192).1, (txt l e 8192).2.1, { q with batch := (batGet (txt l e 8192).2.2).1 })) := Lib.hid rfl
  have htl : (txt l e 8192).2.2.length ≤ 1099511627776 := by
    have h1 := txt_len l e 8192 (by decide)
    omega
  have htx := fun W h1 h2 => txt_any p v l e 8192 (by decide) W h1 h2
  have HGB := Lib.hid (fun V W h => get_bat V (txt l e 8192).2.2 W h htl)
  generalize txt l e 8192 = X at htx htl HT HGB
  obtain ⟨tl, te, tb⟩ := X
  dsimp only at htx htl HT HGB
  have HTX := Lib.hid htx
  clear hr hv hq hra htx
  refine calls_wd ?_
  go_enter Try.func109, Try.ntmps109
  go_wp2_with (first
    | (go_at_call 70; ((with_reducible refine (HTX.out _ (HR.out.more (more_wd _ _ _)) (HV.out.more (more_wd _ _ _))).mono ?_); rintro x w1 ⟨rfl, v1, hb1, m1, rfl⟩; have HB := Lib.hid hb1; clear hb1; have d12 := q_cell (HQ1.out v1 te) 12 rfl; have f12 := q_frozen (HQ1.out v1 te) 12; have d13 := q_cell (HQ1.out v1 te) 13 rfl; have f13 := q_frozen (HQ1.out v1 te) 13; have d14 := q_cell (HQ1.out v1 te) 14 rfl; have f14 := q_frozen (HQ1.out v1 te) 14; have d15 := q_cell (HQ1.out v1 te) 15 rfl; have f15 := q_frozen (HQ1.out v1 te) 15; have d16 := q_cell (HQ1.out v1 te) 16 rfl; have f16 := q_frozen (HQ1.out v1 te) 16; have d17 := q_cell (HQ1.out v1 te) 17 rfl; have f17 := q_frozen (HQ1.out v1 te) 17))
    | (show wpList _ _ _ (⟨_, .convert _ _ _, _, _, _, _⟩ :: _) _ _; refine at_conv rfl _ rfl rfl htl ?_; intro ad cc m2 hrb; have HRB := Lib.hid hrb; clear hrb)
    | (go_at_call 141; ((with_reducible refine (HGB.out _ _ (HRB.out _)).mono ?_); rintro x w2 hbr; obtain ⟨a9, c9, rfl, hra9, ⟨x9, n9, rfl⟩, hf9⟩ := hbr.out; have HRA9 := Lib.hid hra9; have HF9 : Hid (From w.heap.size a9 (batGet tb).1.recs) := Lib.hid (hf9.le (by rw [wd_size, rset_size]; exact sz_ge _ _)); clear hra9 hf9 hbr)))
  go_end0
  exact ⟨rfl, tookq_bat HR.out HQ.out HRA9.out HF9.out HT.out HB.out⟩
theorem take_any_letter (p qp : Nat) (v : Value) (l : List UInt8) (e : Int) (q : Req) (a : Option Addr) (cap : Nat) (c : UInt8) (hc : c ∈ letters) (w : World) (hr : Rdr w p v e) (hv : RB w v l) (hq : w.heap[qp]? = some (qob q a cap)) (hra : RecsAt w a q.batch.recs) :
    Calls Try.prog 109 #[.pointer (some ⟨p, 0, none⟩), .pointer (some ⟨qp, 0, none⟩), .int .i32 c.toNat] w fun x w' => x = .returned (.tuple #[]) ∧ TookQ w w' p qp v l e q a c := by
  simp only [letters, List.mem_cons, List.not_mem_nil, or_false] at hc
  rcases hc with rfl | rfl | rfl | rfl | rfl | rfl | rfl | rfl | rfl | rfl | rfl | rfl
  · exact take_116 p qp v l e q a cap w hr hv hq hra
  · exact take_105 p qp v l e q a cap w hr hv hq hra
  · exact take_112 p qp v l e q a cap w hr hv hq hra
  · exact take_99 p qp v l e q a cap w hr hv hq hra
  · exact take_102 p qp v l e q a cap w hr hv hq hra
  · exact take_111 p qp v l e q a cap w hr hv hq hra
  · exact take_109 p qp v l e q a cap w hr hv hq hra
  · exact take_119 p qp v l e q a cap w hr hv hq hra
  · exact take_103 p qp v l e q a cap w hr hv hq hra
  · exact take_107 p qp v l e q a cap w hr hv hq hra
  · exact take_110 p qp v l e q a cap w hr hv hq hra
  · exact take_98 p qp v l e q a cap w hr hv hq hra
end Go.Proofs.Ytejokhgabcldhaa
/- wire: GetRequest. -/
namespace Go.Proofs.Ytejokhgabcldhaa
open Go.ChangeShapes Go.WideShapes Go.ChangeAt Go.RowKit
set_option linter.unusedVariables false
set_option linter.unusedSimpArgs false

/-- A request and an error, handed back. -/
structure ReqRet (w w' : World) (x : Ending) (g : Req × Int) : Prop where
  out : ∃ a cap, x = .returned (.tuple #[.agg (rq g.1 a cap), .int .i64 g.2]) ∧ RecsAt w' a g.1.batch.recs ∧ More w w' ∧ From w.heap.size a g.1.batch.recs
/-- A request's block. -/
abbrev qbk (q : Req) (a : Option Addr) (cap : Nat) : Array Obj := #[.cells (rq q a cap) 27]
theorem qob_rq (q : Req) (a : Option Addr) (cap : Nat) : qob q a cap = .cells (rq q a cap) 27 := rfl
theorem tookq_own {w w' : World} {e I x1 m1 m0 R : Array Obj} {n p qp : Nat} {v : Value} {l : List UInt8} {se : Int} {q : Req} {a : Option Addr} {cap : Nat} {c : UInt8} (hp : p = sz w.heap.size (shape [m0, R])) (hqp : qp = sz w.heap.size (shape [m1, rbk v se, m0, R]))
    (h : TookQ (wd w [e, I, x1, qbk q a cap, m1, rbk v se, m0, R] n) w' p qp v l se q a c) :
    ∃ v' a' cap' e' n', (∀ W0, RB W0 v l → RB W0 v' (reqTake 8192 (l, se, q) c).1) ∧ RecsAt w' a' (reqTake 8192 (l, se, q) c).2.2.batch.recs ∧ (From w.heap.size a q.batch.recs → From w.heap.size a' (reqTake 8192 (l, se, q) c).2.2.batch.recs) ∧
      w' = wd w [e', I, x1, qbk (reqTake 8192 (l, se, q) c).2.2 a' cap', m1, rbk v' (reqTake 8192 (l, se, q) c).2.1, m0, R] n' := by
  obtain ⟨v', a', cap', hk, hra, hf, m, hw⟩ := h.out
  refine ⟨v', a', cap', e ++ m.e, m.n, hk, hra, hf _ (by rw [wd_size]; exact sz_ge _ _), ?_⟩
  rw [hw]
  subst hp hqp
  rw [rset_wd_past _ _ _ _ _ _ _ _ rfl (by simp [shape, inn]), rset_wd_past _ _ _ _ _ _ _ _ rfl (by simp [shape, inn]), rset_wd_past _ _ _ _ _ _ _ _ rfl (by simp [shape, inn]), rset_wd_past _ _ _ _ _ _ _ _ rfl (by simp [shape, inn]), rset_wd_past _ _ _ _ _ _ _ _ rfl (by simp [shape, inn]), rset_wd w _ n _ _ _ _ _ _ _ rfl rfl]
  simp only [onTop_wd]
  rw [bset_wd_past _ _ _ _ _ _ _ rfl (by simp [shape, inn]), bset_wd_past _ _ _ _ _ _ _ rfl (by simp [shape, inn]), bset_wd_past _ _ _ _ _ _ _ rfl (by simp [shape, inn]), bset_wd _ _ _ _ _ _ _ rfl (by simp [shape])]
  simp only [onTop_wd]
  rw [wd_plus, wd_merge]
  rfl
/-- Records do not stand in the result's block. -/
theorem recs_res {w : World} {p0 p1 p2 p3 p4 p5 p6 p7 : Array Obj} {n : Nat} {q0 q1 : Req} {a a0 a1 : Option Addr} {c0 c1 : Nat} {rs : List Rec} (h : RecsAt (wd w [p0, p1, p2, p3, p4, p5, p6, p7, qbk q0 a0 c0] n) a rs) :
    RecsAt (wd w [p0, p1, p2, p3, p4, p5, p6, p7, qbk q1 a1 c1] n) a rs := by
  have h1 := recs_bset (p := sz w.heap.size (shape [])) (q := q0) (a := a0) (cap := c0) h (deep_push (deep_push (deep_push (deep_push (deep_push (deep_push (deep_push (deep_push (own_top w [] n _))))))))) (qob q1 a1 c1)
  rw [bset_wd_past _ _ _ _ _ _ _ rfl (by simp [shape, inn]), bset_wd_past _ _ _ _ _ _ _ rfl (by simp [shape, inn]), bset_wd_past _ _ _ _ _ _ _ rfl (by simp [shape, inn]), bset_wd_past _ _ _ _ _ _ _ rfl (by simp [shape, inn]), bset_wd_past _ _ _ _ _ _ _ rfl (by simp [shape, inn]), bset_wd_past _ _ _ _ _ _ _ rfl (by simp [shape, inn]), bset_wd_past _ _ _ _ _ _ _ rfl (by simp [shape, inn]), bset_wd_past _ _ _ _ _ _ _ rfl (by simp [shape, inn]), bset_wd _ _ _ _ _ _ _ rfl rfl] at h1
  exact h1
/-- Records do not stand in an iterator. -/
theorem recs_iter {w : World} {e : Array Obj} {L : List (Array Obj)} {n : Nat} {s : ByteArray} {j : Nat} {a : Option Addr} {rs : List Rec} (h : RecsAt (wd w (e :: #[.stringIter s j] :: L) n) a rs) (j' n' : Nat) : RecsAt (wd w (e :: #[.stringIter s j'] :: L) n') a rs := by
  have hb0 : (wd w (e :: #[.stringIter s j] :: L) n).heap[sz w.heap.size (shape L)]? = some (.stringIter s j) := own_push (own_top w L n _)
  have hw : wd w (e :: #[.stringIter s j'] :: L) n = bset (wd w (e :: #[.stringIter s j] :: L) n) (sz w.heap.size (shape L)) (.stringIter s j') := by
    rw [bset_wd_past _ _ _ _ _ _ _ rfl (by simp [shape, inn]), bset_wd _ _ _ _ _ _ _ rfl rfl, onTop_wd]
  have h2 : RecsAt (wd w (e :: #[.stringIter s j'] :: L) n) a rs := by
    refine ⟨fun hne => ?_⟩
    obtain ⟨b, off, ha, hb, hc⟩ := h.out hne
    have hne0 : b ≠ sz w.heap.size (shape L) := by
      intro he
      obtain ⟨x, xs, rfl⟩ := List.exists_cons_of_ne_nil hne
      have h2 := hc 2 (by rw [List.length_cons]; omega)
      rw [he] at h2
      simp [World.cell?, hb0, recCells] at h2
    refine ⟨b, off, ha, by rw [hw, bset_size]; exact hb, fun i hi => ?_⟩
    rw [← hc i hi, hw]
    simp only [World.cell?, bset_other _ _ _ _ hne0]
  exact h2.more (more_same _ _ _ _)
theorem foldl_take3 {α β : Type} (f : β → α → β) (b : β) (l : List α) (j : Nat) (c : α) (x : β) (h : l[j]? = some c) (hx : (l.take j).foldl f b = x) : (l.take (j + 1)).foldl f b = f x c := by rw [foldl_take _ _ _ _ _ h, hx]
set_option maxRecDepth 100000 in
set_option maxHeartbeats 1600000 in
theorem getreq_any (v : Value) (l : List UInt8) (w : World) (hv : RB w v l) (hl : l.length ≤ 1099511627776) : Calls Try.prog 62 #[v] w fun x w' => ReqRet w w' x (reqGet l) := by
  have HV := Lib.hid hv
  have HG : Hid (reqGet l = if reqPut (reqDec 8192 l) = (l, 0) then (reqDec 8192 l, 0) else (reqBlank 0, 4)) := Lib.hid rfl
  have HOK := Lib.hid (reqDec_ok 8192 (by decide) l)
  have HSM := Lib.hid (reqDec_small 8192 l)
  have HD : Hid (reqDec 8192 l = ((usesL (fixV l 0).toNat).foldl (reqTake 8192) (fixL l 0, fixE l 0, reqBlank (fixV l 0).toNat)).2.2) := Lib.hid rfl
  have hfx := fun (v1 : Value) (p : Nat) (W : World) (hr : Rdr W p v1 0) (h : RB W v1 l) => fix_any p v1 l 0 W hr h
  obtain ⟨k, hk⟩ : ∃ k : Nat, fixV l 0 = (k : Int) := ⟨(fixV l 0).toNat, by have := (fixV_range l 0).1; omega⟩
  have hk256 : k < 256 := by have := (fixV_range l 0).2; omega
  rw [hk] at hfx
  rw [hk, Int.toNat_natCast] at HD
  have hU := uses_any k hk256
  have HAS := Lib.hid (uses_ascii k)
  have HLT := Lib.hid (uses_letters k)
  have hcl6 := uses_len k
  generalize usesL k = cs at hU HAS HLT hcl6 HD
  generalize reqDec 8192 l = Q at HG HOK HSM HD
  have HPUT := Lib.hid (fun (a : Option Addr) (cap : Nat) (W : World) (h : RecsAt W a Q.batch.recs) => putreq_any Q a cap W HSM.out h (by have := HOK.out.r; unfold maxLen; omega) HOK.out.wf (by have := HOK.out.t; unfold maxLen; omega) (by have := HOK.out.g; unfold maxLen; omega) (by have := HOK.out.m; unfold maxLen; omega))
  generalize reqPut Q = P at HPUT HG
  generalize fixL l 0 = l1 at hfx HD
  generalize fixE l 0 = e1 at hfx HD
  obtain ⟨pl, pe⟩ := P
  dsimp only at HPUT HG
  have hk2 : (k : Int) < 256 := by omega
  clear hv hk
  refine calls_wd ?_
  go_enter Try.func62, Try.ntmps62
  go_wp2_with (first
    | (go_at_call 61; ((with_reducible refine (new_any v l _ (HV.out.more (more_wd _ _ _)) hl).mono ?_); rintro x w1 hnr; obtain ⟨v0, m0, rfl, hr0, rfl⟩ := hnr.wd; clear hnr; have HO := Lib.hid (ownRd (p := sz w.heap.size [m0.e.size, 1]) rfl hr0)))
    | (go_at_call 64; ((with_reducible refine (hfx v0 _ _ (HO.out.r0 _ _ _) (HO.out.b0 _ _ _ _ _ (fun _ h => h))).mono ?_); rintro x w1 ⟨rfl, ht⟩; obtain ⟨v1, m1, hb1, rfl⟩ := took_own0 (L := [_, _]) rfl ht; have HB1 := Lib.hid hb1; clear ht hb1))
    | (go_at_call 97; ((with_reducible refine (hU _).mono ?_); rintro e w1 ⟨rfl, x2, n2, rfl⟩)))
  go_loopg [7] cs.length (fun g c wr => ∃ (j : Nat) (q : Req) (sl : List UInt8) (se : Int) (vr : Value) (a' : Option Addr) (cap' : Nat) (e : Array Obj) (n : Nat), j + g = cs.length ∧ Hid ((cs.take j).foldl (reqTake 8192) (l1, e1, reqBlank k) = (sl, se, q)) ∧ Hid (∀ W0, RB W0 v0 l → RB W0 vr sl) ∧ Hid (RecsAt wr a' q.batch.recs) ∧ Hid (From w.heap.size a' q.batch.recs) ∧
    wr = wd w [e, #[.stringIter (str cs) j], x2, qbk q a' cap', m1.e, rbk vr se, m0.e, qbk (reqBlank 0) none 0] n)
  case atStart => exact ⟨0, reqBlank k, l1, e1, v1, none, 0, #[], n2, by omega, Lib.hid rfl, HB1, Lib.hid (RowAt.nil _), Lib.hid (From.nil _ _), by rw [wd_empty]⟩
  case round =>
    obtain ⟨j, q, sl, se, vr, a', cap', e, n, hjg, HS, HKP, HRA, HFR, rfl⟩ := hrel
    by_cases hlt : j < cs.length
    · obtain ⟨c, hx⟩ : ∃ c, cs[j]? = some c := ⟨_, List.getElem?_eq_getElem hlt⟩
      have nx := fun ty => iter_next (b := sz w.heap.size [x2.size, 1, m1.e.size, 1, m0.e.size, 1]) (w := w) (n := n) (e := e) (Y := x2) (L := [qbk q a' cap', m1.e, rbk vr se, m0.e, qbk (reqBlank 0) none 0]) rfl hx (HAS.out c (List.mem_of_getElem? hx)) ty
      have HC : Hid (c ∈ letters) := Lib.hid (HLT.out c (List.mem_of_getElem? hx))
      have HN := Lib.hid (foldl_take3 (reqTake 8192) (l1, e1, reqBlank k) cs j c _ hx HS.out)
      have HRDR := Lib.hid (fun (I : Array Obj) (n' : Nat) => (rdr_push (d := e) (rdr_push (d := I) (rdr_push (d := x2) (rdr_push (d := qbk q a' cap') (rdr_push (d := m1.e) (HO.out.r0 n' vr se)))))))
      have HRBB := Lib.hid (fun (I : Array Obj) (n' : Nat) => (rb_push (d := e) (rb_push (d := I) (rb_push (d := x2) (rb_push (d := qbk q a' cap') (rb_push (d := m1.e) (HO.out.b0 n' vr se _ _ HKP.out)))))))
      have HQB := Lib.hid (fun (I : Array Obj) (n' : Nat) => own_push (d := e) (own_push (d := I) (own_push (d := x2) (own_top w [m1.e, rbk vr se, m0.e, qbk (reqBlank 0) none 0] n' (qob q a' cap')))))
      clear hx
      go_wp2_with (first
        | (go_at_call 109; ((with_reducible refine (take_any_letter _ _ vr sl se q a' cap' c HC.out _ (HRDR.out _ _) (HRBB.out _ _) (HQB.out _ _) (recs_iter HRA.out _ _)).mono ?_); rintro x w1 ⟨rfl, ht⟩; obtain ⟨v9, a9, c9, e9, n9, hk9, hra9, hf9, rfl⟩ := tookq_own rfl rfl ht; have HK9 := Lib.hid (keep_trans HKP.out hk9); have HRA9 := Lib.hid hra9; have HFR9 := Lib.hid (hf9 HFR.out); clear hk9 hra9 hf9 ht)))
      go_roundg (gk - 1)
      case measure => omega
      case rel => exact ⟨j + 1, _, _, _, v9, a9, c9, e9, n9, by omega, HN, HK9, HRA9, HFR9, rfl⟩
    · have nx := fun ty => iter_stop (b := sz w.heap.size [x2.size, 1, m1.e.size, 1, m0.e.size, 1]) (w := w) (n := n) (e := e) (Y := x2) (L := [qbk q a' cap', m1.e, rbk vr se, m0.e, qbk (reqBlank 0) none 0]) (cs := cs) (j := j) rfl (by omega) ty
      have HQ : Hid (Q = q) := Lib.hid (by rw [HD.out]; have := HS.out; rw [List.take_of_length_le (by omega)] at this; rw [this])
      have hq := HQ.out
      subst hq
      by_cases hpe : pe = 0
      · subst hpe
        by_cases hpl : pl = l
        · have HX : Hid (reqGet l = (Q, 0)) := Lib.hid (by rw [HG.out, if_pos (by rw [hpl])])
          have hdec : decide (pl = l) = true := decide_eq_true hpl
          clear hpl
          go_wp2_with (first
            | (go_at_call 50; ((with_reducible refine (HPUT.out a' cap' _ HRA.out).mono ?_); rintro e w2 ⟨u9, rfl, hm9⟩; obtain ⟨p9, rfl, hs9⟩ := hm9.wd; clear hm9; have HUU := Lib.hid (RB.of_row (k := p9.n) hs9 _ rfl); clear hs9))
            | (go_at_call 57; ((with_reducible refine (equal_any u9 v pl l _ HUU.out (HV.out.more (more_wd _ _ _))).mono ?_); rintro e w1 ⟨rfl, rfl⟩)))
          refine bodyPost_ret (v := .tuple #[.agg (rq Q a' cap'), .int .i64 0]) ?_ rfl ?_
          · simp [results, Try.results62, go_sem]
          · refine ⟨a', cap', ?_, ?_, more_wd _ _ _, by rw [HX.out]; exact HFR.out⟩
            · rw [HX.out]
            · rw [HX.out]; exact recs_res (HRA.out.more (more_cons (more_same _ _ _ _)))
        · have HX : Hid (reqGet l = (reqBlank 0, 4)) := Lib.hid (by rw [HG.out, if_neg (by intro h; exact hpl (congrArg Prod.fst h))])
          have hdec : decide (pl = l) = false := decide_eq_false hpl
          clear hpl
          go_wp2_with (first
            | (go_at_call 50; ((with_reducible refine (HPUT.out a' cap' _ HRA.out).mono ?_); rintro e w2 ⟨u9, rfl, hm9⟩; obtain ⟨p9, rfl, hs9⟩ := hm9.wd; clear hm9; have HUU := Lib.hid (RB.of_row (k := p9.n) hs9 _ rfl); clear hs9))
            | (go_at_call 57; ((with_reducible refine (equal_any u9 v pl l _ HUU.out (HV.out.more (more_wd _ _ _))).mono ?_); rintro e w1 ⟨rfl, rfl⟩)))
          refine bodyPost_ret (v := .tuple #[.agg (rq (reqBlank 0) none 0), .int .i64 4]) ?_ rfl ?_
          · simp [results, Try.results62, go_sem]
          · refine ⟨none, 0, ?_, ?_, more_wd _ _ _, by rw [HX.out]; exact From.nil _ _⟩
            · rw [HX.out]
            · rw [HX.out]; exact RowAt.nil _
      · have HX : Hid (reqGet l = (reqBlank 0, 4)) := Lib.hid (by rw [HG.out, if_neg (by intro h; exact hpe (congrArg Prod.snd h))])
        have hne : (pe == 0) = false := by rw [beq_eq_false_iff_ne]; exact hpe
        go_wp2_with (first
          | (go_at_call 50; ((with_reducible refine (HPUT.out a' cap' _ HRA.out).mono ?_); rintro e w2 ⟨u9, rfl, hm9⟩; obtain ⟨p9, rfl, hs9⟩ := hm9.wd; clear hm9; have HUU := Lib.hid (RB.of_row (k := p9.n) hs9 _ rfl); clear hs9))
          | (go_at_call 57; ((with_reducible refine (equal_any u9 v pl l _ HUU.out (HV.out.more (more_wd _ _ _))).mono ?_); rintro e w1 ⟨rfl, rfl⟩)))
        all_goals
          refine bodyPost_ret (v := .tuple #[.agg (rq (reqBlank 0) none 0), .int .i64 4]) ?_ rfl ?_
          · simp [results, Try.results62, go_sem]
          · refine ⟨none, 0, ?_, ?_, more_wd _ _ _, by rw [HX.out]; exact From.nil _ _⟩
            · rw [HX.out]
            · rw [HX.out]; exact RowAt.nil _
end Go.Proofs.Ytejokhgabcldhaa
