/- wire: the reference's GetRequest. -/
import Derived.Test.YtejokhgabcldhaaMU
import Derived.Test.YtejokhgabcldhaaMQ
import Derived.Test.YtejokhgabcldhaaMA
import Derived.Test.YtejokhgabcldhaaMR
import Derived.Test.YtejokhgabcldhaaMS
namespace Go.Proofs.Ytejokhgabcldhaa
open Go.ChangeShapes Go.WideShapes Go.ChangeAt Go.RowKit
set_option linter.unusedVariables false
set_option linter.unusedSimpArgs false

theorem recs_step {w : World} {p0 p1 y1 R : Array Obj} {n n' : Nat} {q0 q1 : Req} {a0 a1 : Option Addr} {c0 c1 : Nat} {v2 v2' : Value} {e2 e2' : Int} {a : Option Addr} {rs : List Rec} (hv : ∀ x, v2 ≠ .bool x)
    (h : RecsAt (wd w [p0, p1, qbk q0 a0 c0, #[.cells #[v2, .int .i64 e2] 118], y1, R] n) a rs) :
    RecsAt (wd w [p0, p1, qbk q1 a1 c1, #[.cells #[v2', .int .i64 e2'] 118], y1, R] n') a rs := by
  have h1 := recs_bset (p := sz w.heap.size (shape [#[.cells #[v2, .int .i64 e2] 118], y1, R])) (q := q0) (a := a0) (cap := c0) h (deep_push (deep_push (own_top w _ n _))) (qob q1 a1 c1)
  rw [bset_wd_past _ _ _ _ _ _ _ rfl (by simp [shape, inn]), bset_wd_past _ _ _ _ _ _ _ rfl (by simp [shape, inn]), bset_wd _ _ _ _ _ _ _ rfl rfl] at h1
  simp only [onTop_wd] at h1
  have hb : (wd w [p0, p1, qbk q1 a1 c1, #[.cells #[v2, .int .i64 e2] 118], y1, R] n).heap[sz w.heap.size (shape [y1, R])]? = some (.cells #[v2, .int .i64 e2] 118) := deep_push (deep_push (deep_push (own_top w [y1, R] n _)))
  have h2 := recs_other (w' := bset (wd w [p0, p1, qbk q1 a1 c1, #[.cells #[v2, .int .i64 e2] 118], y1, R] n) (sz w.heap.size (shape [y1, R])) (.cells #[v2', .int .i64 e2'] 118)) h1 (bset_size _ _ _) (fun b hb => bset_other _ _ _ _ hb) hb (no_rec_r v2 e2 hv)
  rw [bset_wd_past _ _ _ _ _ _ _ rfl (by simp [shape, inn]), bset_wd_past _ _ _ _ _ _ _ rfl (by simp [shape, inn]), bset_wd_past _ _ _ _ _ _ _ rfl (by simp [shape, inn]), bset_wd _ _ _ _ _ _ _ rfl rfl] at h2
  simp only [onTop_wd] at h2
  exact h2.more (more_same _ _ _ _)
/-- A field taken, told by its outcome. -/
structure FieldT (w w' : World) (x : Ending) (v : Value) (l tl : List UInt8) (te : Int) (tq : Req) (a : Option Addr) (rs : List Rec) : Prop where
  out : ∃ (v' : Value) (a' : Option Addr) (cap' : Nat), x = .returned (.tuple #[.agg #[v', .int .i64 te], .agg (rq tq a' cap')]) ∧ (∀ W0, RB W0 v l → RB W0 v' tl) ∧ RecsAt w' a' tq.batch.recs ∧ More w w' ∧ (∀ B, B ≤ w.heap.size → From B a rs → From B a' tq.batch.recs)
theorem FieldR.to {w w' : World} {x : Ending} {v : Value} {l tl : List UInt8} {e te : Int} {q tq : Req} {a : Option Addr} {c : UInt8} (h : FieldR w w' x v l e q a c) (hT : reqTake 1073741824 (l, e, q) c = (tl, te, tq)) : FieldT w w' x v l tl te tq a q.batch.recs := by
  obtain ⟨v', a', cap', h1, h2, h3, h4, h5⟩ := h.out
  rw [hT] at h1 h2 h3 h5
  exact ⟨v', a', cap', h1, h2, h3, h4, h5⟩
theorem recs_last {w : World} {p0 p1 p2 p3 p4 : Array Obj} {n n' : Nat} {q0 q1 : Req} {a0 a1 : Option Addr} {c0 c1 : Nat} {a : Option Addr} {rs : List Rec} (h : RecsAt (wd w [p0, p1, p2, p3, p4, qbk q0 a0 c0] n) a rs) :
    RecsAt (wd w [p0, p1, p2, p3, p4, qbk q1 a1 c1] n') a rs := by
  have h1 := recs_bset (p := sz w.heap.size (shape [])) (q := q0) (a := a0) (cap := c0) h (deep_push (deep_push (deep_push (deep_push (deep_push (own_top w [] n _)))))) (qob q1 a1 c1)
  rw [bset_wd_past _ _ _ _ _ _ _ rfl (by simp [shape, inn]), bset_wd_past _ _ _ _ _ _ _ rfl (by simp [shape, inn]), bset_wd_past _ _ _ _ _ _ _ rfl (by simp [shape, inn]), bset_wd_past _ _ _ _ _ _ _ rfl (by simp [shape, inn]), bset_wd_past _ _ _ _ _ _ _ rfl (by simp [shape, inn]), bset_wd _ _ _ _ _ _ _ rfl rfl] at h1
  simp only [onTop_wd] at h1
  exact h1.more (more_same _ _ _ _)
set_option maxRecDepth 100000 in
set_option maxHeartbeats 6400000 in
theorem rgetreq_any (v : Value) (l : List UInt8) (w : World) (hv : RB w v l) (hl : l.length ≤ 1099511627776) : Calls Try.prog 66 #[v] w fun x w' => ReqRet w w' x (reqGet l) := by
  have HV0 := Lib.hid hv
  have HG : Hid (reqGet l = if reqPut (reqDec 1073741824 l) = (l, 0) then (reqDec 1073741824 l, 0) else (reqBlank 0, 4)) := Lib.hid (reqGet_of 1073741824 (by decide) l).symm
  have HOK := Lib.hid (reqDec_ok 1073741824 (by decide) l)
  have HSM := Lib.hid (reqDec_small 1073741824 l)
  have HD : Hid (reqDec 1073741824 l = ((usesL (fixV l 0).toNat).foldl (reqTake 1073741824) (fixL l 0, fixE l 0, reqBlank (fixV l 0).toNat)).2.2) := Lib.hid rfl
  have hfx := fun (v1 : Value) (W : World) (h : RB W v1 l) => rfix_any v1 l 0 W h
  obtain ⟨kk, hk⟩ : ∃ kk : Nat, fixV l 0 = (kk : Int) := ⟨(fixV l 0).toNat, by have := (fixV_range l 0).1; omega⟩
  have hk256 : kk < 256 := by have := (fixV_range l 0).2; omega
  rw [hk] at hfx
  rw [hk, Int.toNat_natCast] at HD
  have hU := fun W => ruses_any kk hk256 W
  have HLT := Lib.hid (uses_letters kk)
  have hcl6 := uses_len kk
  generalize usesL kk = cs at hU HLT hcl6 HD
  have hsc := str_size cs
  generalize reqDec 1073741824 l = Q at HG HOK HSM HD
  have HPUT := Lib.hid (fun (a : Option Addr) (cap : Nat) (W : World) (h : RecsAt W a Q.batch.recs) => rreq_any Q a cap W HSM.out h (by have := HOK.out.r; unfold maxLen; omega) HOK.out.wf (by have := HOK.out.t; unfold maxLen; omega) (by have := HOK.out.g; unfold maxLen; omega) (by have := HOK.out.m; unfold maxLen; omega))
  generalize reqPut Q = P at HPUT HG
  generalize fixL l 0 = l1 at hfx HD
  generalize fixE l 0 = e1 at hfx HD
  obtain ⟨pl, pe⟩ := P
  dsimp only at HPUT HG
  have hk2 : (kk : Int) < 256 := by omega
  clear hk
  obtain ⟨a0, cap0, rfl, hcap0, hm0, -⟩ := hv
  have HV : Hid (RB w (.slice a0 l.length cap0) l) := HV0
  have hlv := (HV.out.more (more_wd w [] w.drawn)).run_str (P := Try.prog) 28 9 5 Try.underlying28 Try.underlying5 Try.underlying9
  clear hlv HV0
  refine calls_wd ?_
  go_enter Try.func66, Try.ntmps66
  go_wp2_with (first
    | (go_at_call 68; ((with_reducible refine (hfx _ _ (HV.out.more (more_wd w _ _))).mono ?_); rintro x w1 ⟨v1, rfl, hb1, y1, z1, rfl⟩; have HB1 := Lib.hid hb1; clear hb1; obtain ⟨aa1, cc1, rfl, -, -, -⟩ := HB1.out w HV.out))
    | (go_at_call 103; ((with_reducible refine (hU _).mono ?_); rintro e w1 ⟨rfl, rfl⟩)))
  go_loopw [8] (fun i wr => ∃ (k : Nat) (m : Ext) (ra : Option Addr) (rc : Nat) (a' : Option Addr) (cap' : Nat) (sl : List UInt8) (se : Int) (q : Req), k ≤ cs.length ∧ i = .int .i64 k ∧ Hid ((cs.take k).foldl (reqTake 1073741824) (l1, e1, reqBlank kk) = (sl, se, q)) ∧ Hid (∀ W0, RB W0 (.slice a0 l.length cap0) l → RB W0 (.slice ra sl.length rc) sl) ∧ Hid (RecsAt wr a' q.batch.recs) ∧ Hid (From w.heap.size a' q.batch.recs) ∧
    wr = wd w [m.e, qbk q a' cap', #[.cells #[.slice ra sl.length rc, .int .i64 se] 118], y1, qbk (reqBlank 0) none 0] m.n) (fun i _ => cs.length - (intOf i).toNat)
  case atStart => exact ⟨0, ⟨#[], z1⟩, aa1, cc1, none, 0, l1, e1, reqBlank kk, Nat.zero_le _, rfl, Lib.hid rfl, HB1, Lib.hid (RowAt.nil _), Lib.hid (From.nil _ _), by rw [wd_empty]⟩
  case round =>
    obtain ⟨k, m, ra, rc, a', cap', sl, se, q, hkc, rfl, HS, HKP, HRA, HFR, rfl⟩ := hrel
    by_cases hlt : k < cs.length
    · obtain ⟨c, hx⟩ : ∃ c, cs[k]? = some c := ⟨_, List.getElem?_eq_getElem hlt⟩
      have hix := fun (t : TypeId) (kd : IntKind) h W => at_letter (P := Try.prog) t cs kd k c hx h W
      obtain ⟨T, hT⟩ : ∃ T, reqTake 1073741824 (sl, se, q) c = T := ⟨_, rfl⟩
      obtain ⟨tl, te, tq⟩ := T
      have HN : Hid (Hid ((cs.take (k + 1)).foldl (reqTake 1073741824) (l1, e1, reqBlank kk) = (tl, te, tq))) := Lib.hid (Lib.hid (by rw [foldl_take3 (reqTake 1073741824) (l1, e1, reqBlank kk) cs k c _ hx HS.out, hT]))
      have HC : Hid (c ∈ letters) := Lib.hid (HLT.out c (List.mem_of_getElem? hx))
      have HF := Lib.hid (fun W h1 h2 => (rfield_any (.slice ra sl.length rc) sl se q a' cap' c HC.out W h1 h2).mono (fun _ _ h => h.to hT))
      clear hx hT
      go_wp2
      refine wp_region_tree (fun (s : World) => s) (_) [2, 3, 4] (.two 0 1 (.one 1 (.one 5 (.one 6 (.two 7 8 (.two 8 9 (.one 9 (.one 10 .done)) (.one 8 (.one 10 .done))) (.one 7 (.one 9 (.one 10 .done))))))) (.one 0 (.one 5 (.one 6 (.two 7 8 (.two 8 9 (.one 9 (.one 10 .done)) (.one 8 (.one 10 .done))) (.one 7 (.one 9 (.one 10 .done)))))))) [false, false, true, true, true] (wd_drew _ _ _) rfl (by kernel_rfl) (by kernel_rfl) (fun _ _ d _ _ h => by cases d <;> exact h) ?_
      apply Exists.intro
      refine ⟨?_, ?_⟩
      · intro E
        simp only [sel_t, sel_f, sel_n]
        repeat (go_big_quiet_step ((fail)))
        exact wpQuiet_nil rfl
      refine louds_two [true] [false, true] rfl rfl ?_ ?_
      all_goals (simp only [sel_t, sel_f, sel_n])
      focus
        go_wp2
        refine ⟨⟨_, rfl⟩, ?_⟩
        refine louds_one [false, true] rfl ?_
        simp only [sel_t, sel_f, sel_n]
        go_wp2
        refine ⟨⟨_, rfl⟩, ?_⟩
        refine louds_one [false, false, false, false, false, true] rfl ?_
        simp only [sel_t, sel_f, sel_n]
        go_wp2_with (first | (go_at_call 114; ((with_reducible refine (HF.out _ (HKP.out _ (HV.out.more (more_wd w _ _))) (HRA.out.more (more_same _ _ _ _))).mono ?_); rintro x w1 hfr; obtain ⟨v9, a9, c9, rfl, hk9, hra9, ⟨yk, zk, rfl⟩, hf9⟩ := hfr.out; have HK9 := Lib.hid (keep_trans HKP.out hk9); have HRA9 := Lib.hid hra9; have HFR9 := Lib.hid (hf9 w.heap.size (by rw [wd_size]; exact sz_ge _ _) HFR.out); clear hf9; obtain ⟨ak, ck, rfl, -, -, -⟩ := HK9.out w HV.out; clear hk9 hra9 hfr)))
        refine ⟨⟨_, rfl⟩, ?_⟩
        refine louds_one [false, false, false, false, false, false, true] rfl ?_
        simp only [sel_t, sel_f, sel_n]
        go_wp2
        refine ⟨⟨_, rfl⟩, ?_⟩
        refine louds_two [false, false, false, false, false, false, false, true] [false, false, false, false, false, false, false, false, true] rfl rfl ?_ ?_
        all_goals (simp only [sel_t, sel_f, sel_n])
        focus
          go_wp2
          refine ⟨⟨_, rfl⟩, ?_⟩
          refine louds_two [false, false, false, false, false, false, false, false, true] [false, false, false, false, false, false, false, false, false, true] rfl rfl ?_ ?_
          all_goals (simp only [sel_t, sel_f, sel_n])
          focus
            go_wp2
            refine ⟨⟨_, rfl⟩, ?_⟩
            refine louds_one [false, false, false, false, false, false, false, false, false, true] rfl ?_
            simp only [sel_t, sel_f, sel_n]
            go_wp2
            refine ⟨⟨_, rfl⟩, ?_⟩
            refine louds_one [false, false, false, false, false, false, false, false, false, false, true] rfl ?_
            simp only [sel_t, sel_f, sel_n]
            go_wp2
            refine ⟨⟨_, rfl⟩, ?_⟩
            refine louds_done ?_
            go_wp2
            go_roundw
            case rel => exact ⟨k + 1, ⟨m.e ++ yk, zk⟩, ak, ck, a9, c9, tl, te, tq, by omega, by go_num, HN.out, HK9, Lib.hid (recs_step (by intro x hx; cases hx) HRA9.out), HFR9, by rw [wd_merge]⟩
            case measure => simp [intOf]; omega
          rotate_left
          focus
            go_wp2
            refine ⟨⟨_, rfl⟩, ?_⟩
            refine louds_one [false, false, false, false, false, false, false, false, true] rfl ?_
            simp only [sel_t, sel_f, sel_n]
            go_wp2
            refine ⟨⟨_, rfl⟩, ?_⟩
            refine louds_one [false, false, false, false, false, false, false, false, false, false, true] rfl ?_
            simp only [sel_t, sel_f, sel_n]
            go_wp2
            refine ⟨⟨_, rfl⟩, ?_⟩
            refine louds_done ?_
            go_wp2
            go_roundw
            case rel => exact ⟨k + 1, ⟨m.e ++ yk, zk⟩, ak, ck, a9, c9, tl, te, tq, by omega, by go_num, HN.out, HK9, Lib.hid (recs_step (by intro x hx; cases hx) HRA9.out), HFR9, by rw [wd_merge]⟩
            case measure => simp [intOf]; omega
        rotate_left
        focus
          go_wp2
          refine ⟨⟨_, rfl⟩, ?_⟩
          refine louds_one [false, false, false, false, false, false, false, true] rfl ?_
          simp only [sel_t, sel_f, sel_n]
          go_wp2
          refine ⟨⟨_, rfl⟩, ?_⟩
          refine louds_one [false, false, false, false, false, false, false, false, false, true] rfl ?_
          simp only [sel_t, sel_f, sel_n]
          go_wp2
          refine ⟨⟨_, rfl⟩, ?_⟩
          refine louds_one [false, false, false, false, false, false, false, false, false, false, true] rfl ?_
          simp only [sel_t, sel_f, sel_n]
          go_wp2
          refine ⟨⟨_, rfl⟩, ?_⟩
          refine louds_done ?_
          go_wp2
          go_roundw
          case rel => exact ⟨k + 1, ⟨m.e ++ yk, zk⟩, ak, ck, a9, c9, tl, te, tq, by omega, by go_num, HN.out, HK9, Lib.hid (recs_step (by intro x hx; cases hx) HRA9.out), HFR9, by rw [wd_merge]⟩
          case measure => simp [intOf]; omega
      rotate_left
      focus
        go_wp2
        refine ⟨⟨_, rfl⟩, ?_⟩
        refine louds_one [true] rfl ?_
        simp only [sel_t, sel_f, sel_n]
        go_wp2
        refine ⟨⟨_, rfl⟩, ?_⟩
        refine louds_one [false, false, false, false, false, true] rfl ?_
        simp only [sel_t, sel_f, sel_n]
        go_wp2_with (first | (go_at_call 114; ((with_reducible refine (HF.out _ (HKP.out _ (HV.out.more (more_wd w _ _))) (HRA.out.more (more_same _ _ _ _))).mono ?_); rintro x w1 hfr; obtain ⟨v9, a9, c9, rfl, hk9, hra9, ⟨yk, zk, rfl⟩, hf9⟩ := hfr.out; have HK9 := Lib.hid (keep_trans HKP.out hk9); have HRA9 := Lib.hid hra9; have HFR9 := Lib.hid (hf9 w.heap.size (by rw [wd_size]; exact sz_ge _ _) HFR.out); clear hf9; obtain ⟨ak, ck, rfl, -, -, -⟩ := HK9.out w HV.out; clear hk9 hra9 hfr)))
        refine ⟨⟨_, rfl⟩, ?_⟩
        refine louds_one [false, false, false, false, false, false, true] rfl ?_
        simp only [sel_t, sel_f, sel_n]
        go_wp2
        refine ⟨⟨_, rfl⟩, ?_⟩
        refine louds_two [false, false, false, false, false, false, false, true] [false, false, false, false, false, false, false, false, true] rfl rfl ?_ ?_
        all_goals (simp only [sel_t, sel_f, sel_n])
        focus
          go_wp2
          refine ⟨⟨_, rfl⟩, ?_⟩
          refine louds_two [false, false, false, false, false, false, false, false, true] [false, false, false, false, false, false, false, false, false, true] rfl rfl ?_ ?_
          all_goals (simp only [sel_t, sel_f, sel_n])
          focus
            go_wp2
            refine ⟨⟨_, rfl⟩, ?_⟩
            refine louds_one [false, false, false, false, false, false, false, false, false, true] rfl ?_
            simp only [sel_t, sel_f, sel_n]
            go_wp2
            refine ⟨⟨_, rfl⟩, ?_⟩
            refine louds_one [false, false, false, false, false, false, false, false, false, false, true] rfl ?_
            simp only [sel_t, sel_f, sel_n]
            go_wp2
            refine ⟨⟨_, rfl⟩, ?_⟩
            refine louds_done ?_
            go_wp2
            go_roundw
            case rel => exact ⟨k + 1, ⟨m.e ++ yk, zk⟩, ak, ck, a9, c9, tl, te, tq, by omega, by go_num, HN.out, HK9, Lib.hid (recs_step (by intro x hx; cases hx) HRA9.out), HFR9, by rw [wd_merge]⟩
            case measure => simp [intOf]; omega
          rotate_left
          focus
            go_wp2
            refine ⟨⟨_, rfl⟩, ?_⟩
            refine louds_one [false, false, false, false, false, false, false, false, true] rfl ?_
            simp only [sel_t, sel_f, sel_n]
            go_wp2
            refine ⟨⟨_, rfl⟩, ?_⟩
            refine louds_one [false, false, false, false, false, false, false, false, false, false, true] rfl ?_
            simp only [sel_t, sel_f, sel_n]
            go_wp2
            refine ⟨⟨_, rfl⟩, ?_⟩
            refine louds_done ?_
            go_wp2
            go_roundw
            case rel => exact ⟨k + 1, ⟨m.e ++ yk, zk⟩, ak, ck, a9, c9, tl, te, tq, by omega, by go_num, HN.out, HK9, Lib.hid (recs_step (by intro x hx; cases hx) HRA9.out), HFR9, by rw [wd_merge]⟩
            case measure => simp [intOf]; omega
        rotate_left
        focus
          go_wp2
          refine ⟨⟨_, rfl⟩, ?_⟩
          refine louds_one [false, false, false, false, false, false, false, true] rfl ?_
          simp only [sel_t, sel_f, sel_n]
          go_wp2
          refine ⟨⟨_, rfl⟩, ?_⟩
          refine louds_one [false, false, false, false, false, false, false, false, false, true] rfl ?_
          simp only [sel_t, sel_f, sel_n]
          go_wp2
          refine ⟨⟨_, rfl⟩, ?_⟩
          refine louds_one [false, false, false, false, false, false, false, false, false, false, true] rfl ?_
          simp only [sel_t, sel_f, sel_n]
          go_wp2
          refine ⟨⟨_, rfl⟩, ?_⟩
          refine louds_done ?_
          go_wp2
          go_roundw
          case rel => exact ⟨k + 1, ⟨m.e ++ yk, zk⟩, ak, ck, a9, c9, tl, te, tq, by omega, by go_num, HN.out, HK9, Lib.hid (recs_step (by intro x hx; cases hx) HRA9.out), HFR9, by rw [wd_merge]⟩
          case measure => simp [intOf]; omega
    · have HQ : Hid (Q = q) := Lib.hid (by rw [HD.out]; have := HS.out; rw [List.take_of_length_le (by omega)] at this; rw [this])
      have hke : (k : Int) = (cs.length : Int) := by omega
      have hq := HQ.out
      subst hq
      by_cases hpe : pe = 0
      · subst hpe
        by_cases hpl : pl = l
        · have HX : Hid (reqGet l = (Q, 0)) := Lib.hid (by rw [HG.out, if_pos (by rw [hpl])])
          have hq1 : ((str pl).toList == (str l).toList) = true := (str_beq _ _).trans (decide_eq_true hpl)
          have hq2 : ((str pl).toList != (str l).toList) = false := by rw [bne, hq1]; rfl
          clear hpl
          go_wp2_with (first | (go_at_call 54; ((with_reducible refine (HPUT.out a' cap' _ HRA.out).mono ?_); rintro e w2 ⟨u9, rfl, hm9⟩; obtain ⟨p9, rfl, hs9⟩ := hm9.wd; clear hm9; have hu := (RB.of_row (L := [m.e, qbk Q a' cap', #[.cells #[.slice ra sl.length rc, .int .i64 se] 118], y1, qbk (reqBlank 0) none 0]) (k := p9.n) hs9 _ rfl).run_str (P := Try.prog) 28 9 5 Try.underlying28 Try.underlying5 Try.underlying9; have hv9 := (HV.out.more (more_wd w (p9.e :: [m.e, qbk Q a' cap', #[.cells #[.slice ra sl.length rc, .int .i64 se] 118], y1, qbk (reqBlank 0) none 0]) p9.n)).run_str (P := Try.prog) 28 9 5 Try.underlying28 Try.underlying5 Try.underlying9; clear hs9)))
          refine bodyPost_ret (v := .tuple #[.agg (rq Q a' cap'), .int .i64 0]) ?_ rfl ?_
          · simp [results, Try.results66, go_sem]
          · refine ⟨a', cap', ?_, ?_, more_wd _ _ _, by rw [HX.out]; exact HFR.out⟩
            · rw [HX.out]
            · rw [HX.out]; exact recs_last (n := 0) (HRA.out.more (more_cons (more_same _ _ _ _)))
        · have HX : Hid (reqGet l = (reqBlank 0, 4)) := Lib.hid (by rw [HG.out, if_neg (by intro h; exact hpl (congrArg Prod.fst h))])
          have hq1 : ((str pl).toList == (str l).toList) = false := (str_beq _ _).trans (decide_eq_false hpl)
          have hq2 : ((str pl).toList != (str l).toList) = true := by rw [bne, hq1]; rfl
          clear hpl
          go_wp2_with (first | (go_at_call 54; ((with_reducible refine (HPUT.out a' cap' _ HRA.out).mono ?_); rintro e w2 ⟨u9, rfl, hm9⟩; obtain ⟨p9, rfl, hs9⟩ := hm9.wd; clear hm9; have hu := (RB.of_row (L := [m.e, qbk Q a' cap', #[.cells #[.slice ra sl.length rc, .int .i64 se] 118], y1, qbk (reqBlank 0) none 0]) (k := p9.n) hs9 _ rfl).run_str (P := Try.prog) 28 9 5 Try.underlying28 Try.underlying5 Try.underlying9; have hv9 := (HV.out.more (more_wd w (p9.e :: [m.e, qbk Q a' cap', #[.cells #[.slice ra sl.length rc, .int .i64 se] 118], y1, qbk (reqBlank 0) none 0]) p9.n)).run_str (P := Try.prog) 28 9 5 Try.underlying28 Try.underlying5 Try.underlying9; clear hs9)))
          refine bodyPost_ret (v := .tuple #[.agg (rq (reqBlank 0) none 0), .int .i64 4]) ?_ rfl ?_
          · simp [results, Try.results66, go_sem]
          · refine ⟨none, 0, ?_, ?_, more_wd _ _ _, by rw [HX.out]; exact From.nil _ _⟩
            · rw [HX.out]
            · rw [HX.out]; exact RowAt.nil _
      · have HX : Hid (reqGet l = (reqBlank 0, 4)) := Lib.hid (by rw [HG.out, if_neg (by intro h; exact hpe (congrArg Prod.snd h))])
        have hne : (pe == 0) = false := by rw [beq_eq_false_iff_ne]; exact hpe
        go_wp2_with (first | (go_at_call 54; ((with_reducible refine (HPUT.out a' cap' _ HRA.out).mono ?_); rintro e w2 ⟨u9, rfl, hm9⟩; obtain ⟨p9, rfl, hs9⟩ := hm9.wd; clear hm9; have hu := (RB.of_row (L := [m.e, qbk Q a' cap', #[.cells #[.slice ra sl.length rc, .int .i64 se] 118], y1, qbk (reqBlank 0) none 0]) (k := p9.n) hs9 _ rfl).run_str (P := Try.prog) 28 9 5 Try.underlying28 Try.underlying5 Try.underlying9; have hv9 := (HV.out.more (more_wd w (p9.e :: [m.e, qbk Q a' cap', #[.cells #[.slice ra sl.length rc, .int .i64 se] 118], y1, qbk (reqBlank 0) none 0]) p9.n)).run_str (P := Try.prog) 28 9 5 Try.underlying28 Try.underlying5 Try.underlying9; clear hs9)))
        all_goals
          refine bodyPost_ret (v := .tuple #[.agg (rq (reqBlank 0) none 0), .int .i64 4]) ?_ rfl ?_
          · simp [results, Try.results66, go_sem]
          · refine ⟨none, 0, ?_, ?_, more_wd _ _ _, by rw [HX.out]; exact From.nil _ _⟩
            · rw [HX.out]
            · rw [HX.out]; exact RowAt.nil _
end Go.Proofs.Ytejokhgabcldhaa
/- script: a step off bytes: plain, and what is kept. -/
namespace Go.Proofs.Ytejokhgabcldhaa
open Go.ChangeShapes Go.WideShapes Go.ChangeAt Go.RowKit
set_option linter.unusedVariables false
set_option linter.unusedSimpArgs false

def stpDec (b : UInt8) (r : List UInt8) : Stp :=
  if b.toNat = 0 then { stpBlank b.toNat with q := (reqGet r).1 }
  else if b.toNat = 1 ∨ b.toNat = 2 then { stpBlank b.toNat with n := numV r 0 }
  else if b.toNat = 3 then { ({ stpBlank b.toNat with n := numV r 0 } : Stp) with done := decide (fixV (numL r 0) (numE r 0) = 1) }
  else if b.toNat = 4 then { stpBlank b.toNat with fate := r }
  else stpBlank b.toNat
def stpGet : List UInt8 → Stp × Int
  | [] => (stpBlank 0, 4)
  | b :: r => if stpPut (stpDec b r) = (b :: r, 0) then (stpDec b r, 0) else (stpBlank 0, 4)
theorem stpGet_cons (b : UInt8) (r : List UInt8) : stpGet (b :: r) = if stpPut (stpDec b r) = (b :: r, 0) then (stpDec b r, 0) else (stpBlank 0, 4) := rfl
theorem reqBlank_ok (k : Nat) : ReqOk (reqBlank k) := by
  unfold reqBlank
  refine ⟨⟨?_, ?_, ?_, ?_, ?_, ?_⟩, Nat.zero_le _, Nat.zero_le _, Nat.zero_le _, Nat.zero_le _⟩ <;> exact ⟨by dsimp only; omega, by dsimp only; omega⟩
theorem reqGet_ok (l : List UInt8) : ReqOk (reqGet l).1 ∧ (reqGet l).1.kind < 256 := by
  unfold reqGet
  split
  · exact ⟨reqDec_ok 8192 (by decide) l, reqDec_small 8192 l⟩
  · exact ⟨reqBlank_ok 0, by decide⟩
theorem fit_of {s : Stp} (hk : s.kind < 256) (hq : ReqOk s.q ∧ s.q.kind < 256) (hn : I64 s.n) : StpFit s := by
  obtain ⟨⟨h1, h2, h3, h4, h5⟩, h6⟩ := hq
  exact ⟨hk, h6, h1, by unfold maxLen; omega, by unfold maxLen; omega, by unfold maxLen; omega, by unfold maxLen; omega, hn⟩
theorem i64_zero : I64 0 := ⟨by decide, by decide⟩
theorem stpDec_fit (b : UInt8) (r : List UInt8) : StpFit (stpDec b r) := by
  have hb := b.toNat_lt
  have q0 : ReqOk (reqBlank 0) ∧ (reqBlank 0).kind < 256 := ⟨reqBlank_ok 0, by decide⟩
  unfold stpDec
  split
  · exact fit_of hb (reqGet_ok r) i64_zero
  split
  · exact fit_of hb q0 (numV_i64 r 0)
  split
  · exact fit_of hb q0 (numV_i64 r 0)
  split
  · exact fit_of hb q0 i64_zero
  · exact fit_of hb q0 i64_zero
/-- A step and an error, handed back. -/
structure StpRet (w w' : World) (x : Ending) (g : Stp × Int) : Prop where
  out : ∃ a cap f fc, x = .returned (.tuple #[.agg (stp g.1 a cap f fc), .int .i64 g.2]) ∧ StpAt w' g.1 a f fc ∧ More w w' ∧ From w.heap.size a g.1.q.batch.recs ∧ From w.heap.size f g.1.fate
theorem blank_at (W : World) : StpAt W (stpBlank 0) none none 0 := ⟨RowAt.nil _, RB.nil _⟩
theorem no_rec_s (s : Stp) (a : Option Addr) (cap : Nat) (f : Option Addr) (fc : Nat) (i : Nat) (x : Bool) (y : ByteArray) (h : (stp s a cap f fc)[i]? = some (.bool x)) : (stp s a cap f fc)[i + 1]? ≠ some (.string y) := by
  unfold stp stpCells reqCells at h ⊢
  match i, h with
  | 0, h => simp at h
  | 1, h => simp at h
  | 2, h => simp at h
  | 3, h => simp at h
  | 4, h => simp at h
  | 5, h => simp
  | 6, h => simp
  | 7, h => simp at h
  | 8, h => simp at h
  | 9, h => simp at h
  | 10, h => simp at h
  | 11, h => simp at h
  | 12, h => simp at h
  | 13, h => simp at h
  | 14, h => simp at h
  | 15, h => simp at h
  | 16, h => simp at h
  | 17, h => simp at h
  | 18, h => simp at h
  | 19, h => simp at h
  | 20, h => simp
  | 21, h => simp at h
  | k + 22, h => simp at h
abbrev sbk (s : Stp) (a : Option Addr) (cap : Nat) (f : Option Addr) (fc : Nat) (T : TypeId) : Array Obj := #[.cells (stp s a cap f fc) T]
theorem recs_sbset {w : World} {a0 : Option Addr} {rs : List Rec} {p : Nat} {s : Stp} {a f : Option Addr} {cap fc : Nat} {T : TypeId} (h : RecsAt w a0 rs) (hq : w.heap[p]? = some (.cells (stp s a cap f fc) T)) (o : Obj) : RecsAt (bset w p o) a0 rs :=
  recs_other h (bset_size _ _ _) (fun b hb => bset_other _ _ _ _ hb) hq (no_rec_s s a cap f fc)
theorem recs_s1 {w : World} {p0 : Array Obj} {L : List (Array Obj)} {n n' : Nat} {s s' : Stp} {a a' f f' : Option Addr} {c c' d d' : Nat} {T : TypeId} {a0 : Option Addr} {rs : List Rec} (h : RecsAt (wd w (p0 :: sbk s a c f d T :: L) n) a0 rs) : RecsAt (wd w (p0 :: sbk s' a' c' f' d' T :: L) n') a0 rs := by
  have h1 := recs_sbset (p := sz w.heap.size (shape L)) (s := s) (a := a) (cap := c) (f := f) (fc := d) (T := T) h (deep_push (own_top w L n _)) (.cells (stp s' a' c' f' d') T)
  rw [bset_wd_past _ _ _ _ _ _ _ rfl (by simp [shape, inn]), bset_wd _ _ _ _ _ _ _ rfl rfl] at h1
  simp only [onTop_wd] at h1
  exact h1.more (more_same _ _ _ _)
theorem recs_s2 {w : World} {p0 p1 : Array Obj} {L : List (Array Obj)} {n n' : Nat} {s s' : Stp} {a a' f f' : Option Addr} {c c' d d' : Nat} {T : TypeId} {a0 : Option Addr} {rs : List Rec} (h : RecsAt (wd w (p0 :: p1 :: sbk s a c f d T :: L) n) a0 rs) : RecsAt (wd w (p0 :: p1 :: sbk s' a' c' f' d' T :: L) n') a0 rs := by
  have h1 := recs_sbset (p := sz w.heap.size (shape L)) (s := s) (a := a) (cap := c) (f := f) (fc := d) (T := T) h (deep_push (deep_push (own_top w L n _))) (.cells (stp s' a' c' f' d') T)
  rw [bset_wd_past _ _ _ _ _ _ _ rfl (by simp [shape, inn]), bset_wd_past _ _ _ _ _ _ _ rfl (by simp [shape, inn]), bset_wd _ _ _ _ _ _ _ rfl rfl] at h1
  simp only [onTop_wd] at h1
  exact h1.more (more_same _ _ _ _)
theorem recs_s3 {w : World} {p0 p1 p2 : Array Obj} {L : List (Array Obj)} {n n' : Nat} {s s' : Stp} {a a' f f' : Option Addr} {c c' d d' : Nat} {T : TypeId} {a0 : Option Addr} {rs : List Rec} (h : RecsAt (wd w (p0 :: p1 :: p2 :: sbk s a c f d T :: L) n) a0 rs) : RecsAt (wd w (p0 :: p1 :: p2 :: sbk s' a' c' f' d' T :: L) n') a0 rs := by
  have h1 := recs_sbset (p := sz w.heap.size (shape L)) (s := s) (a := a) (cap := c) (f := f) (fc := d) (T := T) h (deep_push (deep_push (deep_push (own_top w L n _)))) (.cells (stp s' a' c' f' d') T)
  rw [bset_wd_past _ _ _ _ _ _ _ rfl (by simp [shape, inn]), bset_wd_past _ _ _ _ _ _ _ rfl (by simp [shape, inn]), bset_wd_past _ _ _ _ _ _ _ rfl (by simp [shape, inn]), bset_wd _ _ _ _ _ _ _ rfl rfl] at h1
  simp only [onTop_wd] at h1
  exact h1.more (more_same _ _ _ _)
theorem recs_s4 {w : World} {p0 p1 p2 p3 : Array Obj} {L : List (Array Obj)} {n n' : Nat} {s s' : Stp} {a a' f f' : Option Addr} {c c' d d' : Nat} {T : TypeId} {a0 : Option Addr} {rs : List Rec} (h : RecsAt (wd w (p0 :: p1 :: p2 :: p3 :: sbk s a c f d T :: L) n) a0 rs) : RecsAt (wd w (p0 :: p1 :: p2 :: p3 :: sbk s' a' c' f' d' T :: L) n') a0 rs := by
  have h1 := recs_sbset (p := sz w.heap.size (shape L)) (s := s) (a := a) (cap := c) (f := f) (fc := d) (T := T) h (deep_push (deep_push (deep_push (deep_push (own_top w L n _))))) (.cells (stp s' a' c' f' d') T)
  rw [bset_wd_past _ _ _ _ _ _ _ rfl (by simp [shape, inn]), bset_wd_past _ _ _ _ _ _ _ rfl (by simp [shape, inn]), bset_wd_past _ _ _ _ _ _ _ rfl (by simp [shape, inn]), bset_wd_past _ _ _ _ _ _ _ rfl (by simp [shape, inn]), bset_wd _ _ _ _ _ _ _ rfl rfl] at h1
  simp only [onTop_wd] at h1
  exact h1.more (more_same _ _ _ _)
theorem recs_s5 {w : World} {p0 p1 p2 p3 p4 : Array Obj} {L : List (Array Obj)} {n n' : Nat} {s s' : Stp} {a a' f f' : Option Addr} {c c' d d' : Nat} {T : TypeId} {a0 : Option Addr} {rs : List Rec} (h : RecsAt (wd w (p0 :: p1 :: p2 :: p3 :: p4 :: sbk s a c f d T :: L) n) a0 rs) : RecsAt (wd w (p0 :: p1 :: p2 :: p3 :: p4 :: sbk s' a' c' f' d' T :: L) n') a0 rs := by
  have h1 := recs_sbset (p := sz w.heap.size (shape L)) (s := s) (a := a) (cap := c) (f := f) (fc := d) (T := T) h (deep_push (deep_push (deep_push (deep_push (deep_push (own_top w L n _)))))) (.cells (stp s' a' c' f' d') T)
  rw [bset_wd_past _ _ _ _ _ _ _ rfl (by simp [shape, inn]), bset_wd_past _ _ _ _ _ _ _ rfl (by simp [shape, inn]), bset_wd_past _ _ _ _ _ _ _ rfl (by simp [shape, inn]), bset_wd_past _ _ _ _ _ _ _ rfl (by simp [shape, inn]), bset_wd_past _ _ _ _ _ _ _ rfl (by simp [shape, inn]), bset_wd _ _ _ _ _ _ _ rfl rfl] at h1
  simp only [onTop_wd] at h1
  exact h1.more (more_same _ _ _ _)
theorem recs_s6 {w : World} {p0 p1 p2 p3 p4 p5 : Array Obj} {L : List (Array Obj)} {n n' : Nat} {s s' : Stp} {a a' f f' : Option Addr} {c c' d d' : Nat} {T : TypeId} {a0 : Option Addr} {rs : List Rec} (h : RecsAt (wd w (p0 :: p1 :: p2 :: p3 :: p4 :: p5 :: sbk s a c f d T :: L) n) a0 rs) : RecsAt (wd w (p0 :: p1 :: p2 :: p3 :: p4 :: p5 :: sbk s' a' c' f' d' T :: L) n') a0 rs := by
  have h1 := recs_sbset (p := sz w.heap.size (shape L)) (s := s) (a := a) (cap := c) (f := f) (fc := d) (T := T) h (deep_push (deep_push (deep_push (deep_push (deep_push (deep_push (own_top w L n _))))))) (.cells (stp s' a' c' f' d') T)
  rw [bset_wd_past _ _ _ _ _ _ _ rfl (by simp [shape, inn]), bset_wd_past _ _ _ _ _ _ _ rfl (by simp [shape, inn]), bset_wd_past _ _ _ _ _ _ _ rfl (by simp [shape, inn]), bset_wd_past _ _ _ _ _ _ _ rfl (by simp [shape, inn]), bset_wd_past _ _ _ _ _ _ _ rfl (by simp [shape, inn]), bset_wd_past _ _ _ _ _ _ _ rfl (by simp [shape, inn]), bset_wd _ _ _ _ _ _ _ rfl rfl] at h1
  simp only [onTop_wd] at h1
  exact h1.more (more_same _ _ _ _)
end Go.Proofs.Ytejokhgabcldhaa
/- script, plain: steps as bytes: what is put is got; a byte more, or less, is no script. -/
namespace Go.Proofs.Ytejokhgabcldhaa
open Go.RowKit
set_option linter.unusedVariables false
set_option linter.unusedSimpArgs false

theorem reqGet_put {q : Req} {l : List UInt8} (hw : q.wf) (h : reqPut q = (l, 0)) : reqGet l = (q, 0) := by
  unfold reqGet; rw [reqDec_put 8192 (Int.le_refl _) hw h, if_pos h]
theorem stpPut_ok {s : Stp} {l : List UInt8} (h : stpPut s = (l, 0)) : s.kind ≤ 5 ∧ s = stpOnly s ∧ s.fate.length ≤ 64 ∧ (s.kind = 0 → (reqPut s.q).2 = 0) ∧ l = UInt8.ofNat s.kind :: stpBody s := by
  unfold stpPut at h
  split at h
  · simp at h
  · split at h
    · simp at h
    · split at h
      · simp at h
      · split at h
        · rename_i h4
          exact absurd (congrArg Prod.snd h) h4.2
        · rename_i h1 h2 h3 h4
          refine ⟨by omega, ?_, by omega, fun hk => ?_, (congrArg Prod.fst h).symm⟩
          · by_cases h : s = stpOnly s
            · exact h
            · exact absurd h h2
          · by_cases h : (reqPut s.q).2 = 0
            · exact h
            · exact absurd ⟨hk, h⟩ h4
theorem flag_fix (d : Bool) : decide (fixV (flagB d) 0 = 1) = d := by cases d <;> rfl
theorem stpDec_put {s : Stp} (hq : s.q.wf) (hn : I64 s.n) (hk : s.kind ≤ 5) (ho : s = stpOnly s) (hz : s.kind = 0 → (reqPut s.q).2 = 0) : stpDec (UInt8.ofNat s.kind) (stpBody s) = s := by
  obtain ⟨k, q, n, d, f⟩ := s
  dsimp only at hq hn hk hz
  have hb : (UInt8.ofNat k).toNat = k := u8_toNat _ (by omega)
  unfold stpDec stpBody
  rw [stp_eq] at ho
  unfold stpOnly at ho
  dsimp only at ho ⊢
  rw [hb]
  obtain ⟨-, h1, h2, h3, h4⟩ := ho
  obtain ⟨p1, p2, p3⟩ := num_put n hn []
  rw [List.append_nil] at p1 p2 p3
  obtain ⟨f1, f2, f3⟩ := num_put n hn (flagB d)
  have f4 := flag_fix d
  rcases (show k = 0 ∨ k = 1 ∨ k = 2 ∨ k = 3 ∨ k = 4 ∨ k = 5 by omega) with rfl | rfl | rfl | rfl | rfl | rfl
  · have hg := reqGet_put (q := q) (l := (reqPut q).1) hq (Prod.ext rfl (hz rfl))
    simp at h2 h3 h4
    subst h2 h3 h4
    simp [hg, stpBlank]
  · simp at h1 h3 h4
    subst h1 h3 h4
    simp [p3, stpBlank]
  · simp at h1 h3 h4
    subst h1 h3 h4
    simp [p3, stpBlank]
  · simp at h1 h4
    subst h1 h4
    simp [f1, f2, f3, f4, stpBlank]
  · simp at h1 h2 h3
    subst h1 h2 h3
    simp [stpBlank]
  · simp at h1 h2 h3 h4
    subst h1 h2 h3 h4
    simp [stpBlank]
theorem stpGet_put {s : Stp} {l : List UInt8} (hq : s.q.wf) (hn : I64 s.n) (h : stpPut s = (l, 0)) : stpGet l = (s, 0) := by
  obtain ⟨hk, ho, hf, hz, rfl⟩ := stpPut_ok h
  rw [stpGet_cons, stpDec_put hq hn hk ho hz, if_pos h]
theorem stpGet_fit (l : List UInt8) : StpFit (stpGet l).1 := by
  have hb : StpFit (stpBlank 0) := fit_of (by decide) ⟨reqBlank_ok 0, by decide⟩ i64_zero
  cases l with
  | nil => exact hb
  | cons b r =>
    rw [stpGet_cons]
    split
    · exact stpDec_fit b r
    · exact hb

/-! ### lists of steps -/
def stpsLay (l : List Stp) : List UInt8 := l.flatMap fun s => textL (stpPut s).1
def stpsErr : List Stp → Int
  | [] => 0
  | s :: l => if (stpPut s).2 ≠ 0 then (stpPut s).2 else stpsErr l
/-- Steps' bytes, and the error. -/
def stpsPut (l : List Stp) : List UInt8 × Int :=
  if 1000 < l.length then ([], 5) else if stpsErr l ≠ 0 then ([], stpsErr l) else if 65536 < (stpsLay l).length then ([], 5) else (stpsLay l, 0)
/-- At most f steps off bytes. -/
def stpsDec : Nat → List UInt8 → Int → List Stp
  | 0, _, _ => []
  | f + 1, b, e => if b ≠ [] ∧ e = 0 then (stpGet (txt b e 65536).2.2).1 :: stpsDec f (txt b e 65536).1 (txt b e 65536).2.1 else []
/-- Steps off bytes, and the error. -/
def stpsGet (b : List UInt8) : List Stp × Int := if stpsPut (stpsDec 1001 b 0) = (b, 0) then (stpsDec 1001 b 0, 0) else ([], 4)
theorem stpsLay_cons (s : Stp) (l : List Stp) : stpsLay (s :: l) = textL (stpPut s).1 ++ stpsLay l := by simp [stpsLay]
theorem stpsLay_snoc (l : List Stp) (s : Stp) : stpsLay (l ++ [s]) = stpsLay l ++ textL (stpPut s).1 := by simp [stpsLay]
theorem stpsErr_all : ∀ {l : List Stp}, stpsErr l = 0 → ∀ s ∈ l, (stpPut s).2 = 0
  | [], _ => by simp
  | s :: l, h => by
    unfold stpsErr at h
    by_cases h1 : (stpPut s).2 = 0
    · rw [if_neg (by rw [h1]; simp)] at h
      intro x hx
      rcases List.mem_cons.1 hx with rfl | hx
      · exact h1
      · exact stpsErr_all h x hx
    · rw [if_pos h1] at h; exact absurd h h1
theorem stpsErr_no : ∀ {l : List Stp}, (∀ s ∈ l, (stpPut s).2 = 0) → stpsErr l = 0
  | [], _ => rfl
  | s :: l, h => by
    unfold stpsErr
    rw [if_neg (by rw [h s (List.mem_cons_self ..)]; simp)]
    exact stpsErr_no (fun x hx => h x (List.mem_cons_of_mem _ hx))
/-- The first that may not be laid. -/
theorem stpsErr_at : ∀ (l : List Stp) (k : Nat) (s : Stp), l[k]? = some s → (∀ x ∈ l.take k, (stpPut x).2 = 0) → (stpPut s).2 ≠ 0 → stpsErr l = (stpPut s).2
  | [], k, s, h, _, _ => by simp at h
  | a :: l, 0, s, h, _, hs => by
    simp at h; subst h
    unfold stpsErr; rw [if_pos hs]
  | a :: l, k + 1, s, h, hk, hs => by
    unfold stpsErr
    rw [if_neg (by rw [hk a (by simp)]; simp)]
    exact stpsErr_at l k s (by simpa using h) (fun x hx => hk x (by rw [List.take_succ_cons]; exact List.mem_cons_of_mem _ hx)) hs
theorem stpsPut_ok {l : List Stp} {b : List UInt8} (h : stpsPut l = (b, 0)) : l.length ≤ 1000 ∧ (∀ s ∈ l, (stpPut s).2 = 0) ∧ (stpsLay l).length ≤ 65536 ∧ b = stpsLay l := by
  unfold stpsPut at h
  split at h
  · simp at h
  · split at h
    · rename_i h2
      exact absurd (congrArg Prod.snd h) h2
    · split at h
      · simp at h
      · rename_i h1 h2 h3
        exact ⟨by omega, stpsErr_all (by omega), by omega, (congrArg Prod.fst h).symm⟩
theorem stpPut_pos {s : Stp} (h : (stpPut s).2 = 0) : 1 ≤ (stpPut s).1.length := by
  obtain ⟨_, _, _, _, h5⟩ := stpPut_ok (s := s) (l := (stpPut s).1) (Prod.ext rfl h)
  rw [h5, List.length_cons]; omega
theorem textL_two {l : List UInt8} (h : 1 ≤ l.length) : 2 ≤ (textL l).length := by
  have := layN_pos (zig l.length).toNat
  unfold textL put
  rw [List.length_append]; omega
theorem textL_ge (l : List UInt8) : l.length ≤ (textL l).length := by unfold textL; rw [List.length_append]; omega
theorem stpsDec_nil (f : Nat) (e : Int) : stpsDec f [] e = [] := by
  cases f with
  | zero => rfl
  | succ f => unfold stpsDec; rw [if_neg (by simp)]
/-- One step on. -/
theorem txt_lay {s : Stp} {l : List Stp} (hl : (stpsLay (s :: l)).length ≤ 65536) : txt (stpsLay (s :: l)) 0 65536 = (stpsLay l, 0, (stpPut s).1) := by
  rw [stpsLay_cons] at hl ⊢
  have := textL_ge (stpPut s).1
  rw [List.length_append] at hl
  exact txt_text _ _ (by omega) (by omega) _
theorem stpsLay_ne {s : Stp} {l : List Stp} (h : (stpPut s).2 = 0) : stpsLay (s :: l) ≠ [] := by
  intro h2
  have := congrArg List.length h2
  rw [stpsLay_cons, List.length_append] at this
  have := textL_two (stpPut_pos h)
  simp only [List.length_nil] at *
  omega
theorem stpsDec_lay : ∀ (f : Nat) (l : List Stp), (∀ s ∈ l, StpFit s) → (∀ s ∈ l, (stpPut s).2 = 0) → (stpsLay l).length ≤ 65536 → l.length ≤ f → stpsDec f (stpsLay l) 0 = l
  | f, [], _, _, _, _ => stpsDec_nil f 0
  | 0, s :: l, _, _, _, h => by simp at h
  | f + 1, s :: l, hf, hz, hl, hn => by
    have h1 := hz s (List.mem_cons_self ..)
    have h2 := hf s (List.mem_cons_self ..)
    unfold stpsDec
    rw [if_pos ⟨stpsLay_ne h1, rfl⟩, txt_lay hl, stpGet_put h2.wf h2.n (Prod.ext rfl h1)]
    dsimp only
    rw [stpsDec_lay f l (fun x hx => hf x (List.mem_cons_of_mem _ hx)) (fun x hx => hz x (List.mem_cons_of_mem _ hx)) (by rw [stpsLay_cons, List.length_append] at hl; omega) (by rw [List.length_cons] at hn; omega)]
theorem stpsGet_put {l : List Stp} {b : List UInt8} (hf : ∀ s ∈ l, StpFit s) (h : stpsPut l = (b, 0)) : stpsGet b = (l, 0) := by
  obtain ⟨h1, h2, h3, rfl⟩ := stpsPut_ok h
  unfold stpsGet
  rw [stpsDec_lay 1001 l hf h2 h3 (by omega), if_pos h]
theorem stpsDec_fit : ∀ (f : Nat) (b : List UInt8) (e : Int), ∀ s ∈ stpsDec f b e, StpFit s
  | 0, _, _ => by intro s hs; simp [stpsDec] at hs
  | f + 1, b, e => by
    unfold stpsDec
    split
    · intro s hs
      rcases List.mem_cons.1 hs with rfl | hs
      · exact stpGet_fit _
      · exact stpsDec_fit f _ _ s hs
    · intro s hs; simp at hs
theorem stpsDec_len : ∀ (f : Nat) (b : List UInt8) (e : Int), (stpsDec f b e).length ≤ f
  | 0, _, _ => by simp [stpsDec]
  | f + 1, b, e => by
    unfold stpsDec
    split
    · rw [List.length_cons]; have := stpsDec_len f (txt b e 65536).1 (txt b e 65536).2.1; omega
    · simp
theorem stpsGet_no {b : List UInt8} (h : ∀ l, (∀ s ∈ l, StpFit s) → stpsPut l ≠ (b, 0)) : stpsGet b = ([], 4) := by
  unfold stpsGet
  rw [if_neg (h _ (stpsDec_fit _ _ _))]
/-- What is read off a script's rest. -/
theorem stps_step {D : List Stp} {b sl : List UInt8} {k : Nat} (hf : ∀ s ∈ D, StpFit s) (h : stpsPut D = (b, 0)) (hs : sl = stpsLay (D.drop k)) (hne : sl ≠ []) :
    (txt sl 0 65536).2.1 = 0 ∧ (stpGet (txt sl 0 65536).2.2).2 = 0 ∧ (txt sl 0 65536).1 = stpsLay (D.drop (k + 1)) := by
  obtain ⟨h1, h2, h3, rfl⟩ := stpsPut_ok h
  subst hs
  have hk : k < D.length := by
    rcases Nat.lt_or_ge k D.length with hk | hk
    · exact hk
    · rw [List.drop_eq_nil_of_le hk] at hne; exact absurd rfl hne
  have e := List.drop_eq_getElem_cons hk
  have hm := List.getElem_mem hk
  have hlen : (stpsLay (D.drop k)).length ≤ 65536 := by
    have e2 : stpsLay D = stpsLay (D.take k) ++ stpsLay (D.drop k) := by
      unfold stpsLay; rw [← List.flatMap_append, List.take_append_drop]
    rw [e2, List.length_append] at h3; omega
  rw [e] at hlen ⊢
  rw [txt_lay hlen]
  exact ⟨rfl, by rw [stpGet_put (hf _ hm).wf (hf _ hm).n (Prod.ext rfl (h2 _ hm))], rfl⟩
theorem textL_inj {a b x y : List UInt8} (ha : a.length ≤ 1000000) (hb : b.length ≤ 1000000) (h : textL a ++ x = textL b ++ y) : a = b ∧ x = y := by
  have h1 := txt_text a 1000000 (by omega) (by omega) x
  have h2 := txt_text b 1000000 (by omega) (by omega) y
  rw [h, h2] at h1
  simp only [Prod.mk.injEq] at h1
  exact ⟨h1.2.2.symm, h1.1.symm⟩
/-- No script is another one with a byte more. -/
theorem lay_more : ∀ (l' l : List Stp) (x : UInt8), (∀ s ∈ l, (stpPut s).2 = 0) → (stpsLay l).length ≤ 65536 → stpsLay l ≠ stpsLay l' ++ [x]
  | [], l, x, hz, hl => by
    intro h
    cases l with
    | nil => simp [stpsLay] at h
    | cons s l =>
      have h1 := congrArg List.length h
      have h2 := textL_two (stpPut_pos (hz s (List.mem_cons_self ..)))
      rw [stpsLay_cons, List.length_append] at h1
      simp [stpsLay] at h1
      omega
  | s' :: l', l, x, hz, hl => by
    intro h
    cases l with
    | nil =>
      have h1 := congrArg List.length h
      simp [stpsLay] at h1
    | cons s l =>
      have h0 := congrArg List.length h
      rw [stpsLay_cons, stpsLay_cons, List.append_assoc] at h
      rw [stpsLay_cons] at hl
      rw [stpsLay_cons, stpsLay_cons] at h0
      simp only [List.length_append, List.length_cons, List.length_nil] at hl h0
      have g1 := textL_ge (stpPut s).1
      have g2 := textL_ge (stpPut s').1
      obtain ⟨_, h2⟩ := textL_inj (by omega) (by omega) h
      exact lay_more l' l x (fun y hy => hz y (List.mem_cons_of_mem _ hy)) (by omega) h2
theorem stpsGet_more {l : List Stp} {b : List UInt8} (h : stpsPut l = (b, 0)) (x : UInt8) : stpsGet (b ++ [x]) = ([], 4) := by
  obtain ⟨_, _, _, rfl⟩ := stpsPut_ok h
  refine stpsGet_no fun l' hf h' => ?_
  obtain ⟨_, h2, h3, h4⟩ := stpsPut_ok h'
  exact lay_more l l' x h2 h3 h4.symm
theorem stpsGet_less {l : List Stp} {b : List UInt8} {x : UInt8} (h : stpsPut l = (b ++ [x], 0)) : stpsGet b = ([], 4) := by
  obtain ⟨_, h2, h3, h4⟩ := stpsPut_ok h
  refine stpsGet_no fun l' hf h' => ?_
  obtain ⟨_, _, _, rfl⟩ := stpsPut_ok h'
  exact lay_more l' l x h2 h3 h4.symm
end Go.Proofs.Ytejokhgabcldhaa
