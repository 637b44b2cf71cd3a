/- wire: PutRequest, of a batch. -/
import Derived.Test.YtejokhgabcldhaaMK2
namespace Go.Proofs.Ytejokhgabcldhaa
open Go.ChangeShapes Go.WideShapes Go.ChangeAt Go.RowKit
set_option linter.unusedVariables false
set_option linter.unusedSimpArgs false

attribute [local go_sem 2000] run_max3
set_option maxRecDepth 100000 in
set_option maxHeartbeats 12800000 in
theorem putreq_c (q : Req) (a : Option Addr) (cap : Nat) (w : World) (hk : q.kind < 256) (hr : RecsAt w a q.batch.recs) (hm : q.batch.recs.length ≤ maxLen) (hw : q.wf)
    (hs1 : q.topic.length ≤ maxLen) (hs2 : q.group.length ≤ maxLen) (hs3 : q.member.length ≤ maxLen) (hbig : ¬ 11 < q.kind) (hcl : ¬ reqClean q ≠ reqBlank q.kind) (l1 : q.topic.length ≤ 255) (l2 : q.group.length ≤ 255) (l3 : q.member.length ≤ 255) (h3 : q.kind = 3) :
    Calls Try.prog 50 #[.agg (rq q a cap)] w fun x w' => BRet w w' x (reqPut q).1 (reqPut q).2 := by
  unfold maxLen at hs1 hs2 hs3
  have s1 := str_size q.topic
  have s2 := str_size q.group
  have s3 := str_size q.member
  have hR := Lib.hid hr
  have hM := Lib.hid hm
  have hal := fun W h => alien_q q a cap W hk h hm
  have hb2 : (q.kind : Int) ≤ 11 := by omega
  rw [decide_eq_false hcl] at hal
  have HAL := Lib.hid hal
  clear hal
  have HP := Lib.hid (reqPut_go (q := q) hbig hcl ⟨l1, l2, l3⟩)
  have hm3 : max3 (q.topic.length : Int) (q.group.length : Int) (q.member.length : Int) ≤ 255 := (max3_le _ _ _ _).2 ⟨by omega, by omega, by omega⟩
  have HCL := Lib.hid hcl
  clear hcl hr
  have HWF : Hid (Req.wf q) := Lib.hid hw
  have hU := uses_any q.kind hk
  have HAS := Lib.hid (uses_ascii q.kind)
  have HLT := Lib.hid (uses_letters q.kind)
  have hcl6 := uses_len q.kind
  have he3 : ((q.kind : Int) == 3) = true := by rw [h3]; rfl
  have H3 := Lib.hid h3
  have hpb := fun W h => put_bat ⟨0, q.batch.count, q.batch.producer, q.batch.epoch, q.batch.seq, q.batch.recs⟩ a cap W h hm
  dsimp only at hpb
  have HPQ : Hid (reqPut q = if (batPut ⟨0, q.batch.count, q.batch.producer, q.batch.epoch, q.batch.seq, q.batch.recs⟩).2 ≠ 0 then ([], (batPut ⟨0, q.batch.count, q.batch.producer, q.batch.epoch, q.batch.seq, q.batch.recs⟩).2) else if q.batch.base ≠ 0 then ([], 4) else (UInt8.ofNat q.kind :: (usesL q.kind).flatMap (reqField q (batPut ⟨0, q.batch.count, q.batch.producer, q.batch.epoch, q.batch.seq, q.batch.recs⟩).1), 0)) := Lib.hid (by
    rw [HP.out]
    simp only [h3, true_and, if_true, reqBat, reqBytes])
  have hplen : Hid ((batPut ⟨0, q.batch.count, q.batch.producer, q.batch.epoch, q.batch.seq, q.batch.recs⟩).2 = 0 → (batPut ⟨0, q.batch.count, q.batch.producer, q.batch.epoch, q.batch.seq, q.batch.recs⟩).1.length ≤ 8192) := Lib.hid (fun h => by
    obtain ⟨g1, g2, g3, g4⟩ := batPut_ok (b := ⟨0, q.batch.count, q.batch.producer, q.batch.epoch, q.batch.seq, q.batch.recs⟩) (l := (batPut ⟨0, q.batch.count, q.batch.producer, q.batch.epoch, q.batch.seq, q.batch.recs⟩).1) (Prod.ext rfl h)
    rw [g1]; exact g4)
  obtain ⟨P, hP⟩ : ∃ P, batPut ⟨0, q.batch.count, q.batch.producer, q.batch.epoch, q.batch.seq, q.batch.recs⟩ = P := ⟨_, rfl⟩
  rw [hP] at hpb HPQ hplen
  clear hP h3 HP
  obtain ⟨pl, pe⟩ := P
  dsimp only at hpb HPQ hplen
  have HPB := Lib.hid hpb
  clear hpb
  by_cases hpe : pe = 0
  · subst hpe
    have hpl := hplen.out rfl
    by_cases hb0 : q.batch.base = 0
    · have HP2 : Hid (reqPut q = (UInt8.ofNat q.kind :: (usesL q.kind).flatMap (reqField q pl), 0)) := Lib.hid (by rw [HPQ.out, if_neg (by simp), if_neg (by simp [hb0])])
      have hb0' : (q.batch.base == 0) = true := by rw [hb0]; rfl
      clear HPQ hplen hb0
      generalize usesL q.kind = cs at hU HAS HLT hcl6 HP2
      have HFL := Lib.hid (fun j => fields_len q pl HWF.out l1 l2 l3 hpl (cs.take j))
      refine calls_wd ?_
      go_enter Try.func50, Try.ntmps50
      go_wp2_with (first | (go_at_call 95; ((with_reducible refine (HAL.out _ (hR.out.more (more_wd _ _ _))).mono ?_); rintro e w1 ⟨rfl, x1, n1, rfl⟩)) | (go_at_call 96; ((with_reducible refine (HPB.out _ (hR.out.more (more_wd _ _ _))).mono ?_); rintro e w2 ⟨u9, rfl, hm9⟩; obtain ⟨p9, rfl, hs9⟩ := hm9.wd; clear hm9; have HBD := Lib.hid (fun (e I Y : Array Obj) (n : Nat) => rb_push (d := e) (rb_push (d := I) (rb_push (d := Y) (RB.of_row (L := [#[.cells #[.int .i64 0, .int .i64 q.batch.count, .int .i64 q.batch.producer, .int .i64 q.batch.epoch, .int .i64 q.batch.seq, .slice a q.batch.recs.length cap] 25], x1, #[.cells (rq q a cap) 27]]) (k := n) hs9 _ rfl)))); clear hs9)) | (go_at_call 97; ((with_reducible refine (hU _).mono ?_); rintro e w1 ⟨rfl, x2, n2, rfl⟩)))
      go_loopg [8] cs.length (fun g v wr => ∃ (j : Nat) (e Y : Array Obj) (n : Nat), j + g = cs.length ∧ Hid (Y.size = 1 + x2.size) ∧ Hid (BOwn (wd w (e :: #[.stringIter (str cs) j] :: Y :: [p9.e, #[.cells #[.int .i64 0, .int .i64 q.batch.count, .int .i64 q.batch.producer, .int .i64 q.batch.epoch, .int .i64 q.batch.seq, .slice a q.batch.recs.length cap] 25], x1, #[.cells (rq q a cap) 27]]) n) w [p9.e, #[.cells #[.int .i64 0, .int .i64 q.batch.count, .int .i64 q.batch.producer, .int .i64 q.batch.epoch, .int .i64 q.batch.seq, .slice a q.batch.recs.length cap] 25], x1, #[.cells (rq q a cap) 27]] v (UInt8.ofNat q.kind :: (cs.take j).flatMap (reqField q pl))) ∧ wr = wd w (e :: #[.stringIter (str cs) j] :: Y :: [p9.e, #[.cells #[.int .i64 0, .int .i64 q.batch.count, .int .i64 q.batch.producer, .int .i64 q.batch.epoch, .int .i64 q.batch.seq, .slice a q.batch.recs.length cap] 25], x1, #[.cells (rq q a cap) 27]]) n)
      case atStart =>
        refine ⟨0, #[], #[.cells #[.int .u8 (q.kind : Nat)] 5] ++ x2, n2, by omega, Lib.hid (by rw [Array.size_append]; rfl), Lib.hid ?_, by rw [wd_empty, ← wd_merge_2]⟩
        have h1 := bown_of (n := n2) (rowIn_more (brow_lit w [p9.e, #[.cells #[.int .i64 0, .int .i64 q.batch.count, .int .i64 q.batch.producer, .int .i64 q.batch.epoch, .int .i64 q.batch.seq, .slice a q.batch.recs.length cap] 25], x1, #[.cells (rq q a cap) 27]] (q.kind : Nat) (UInt8.ofNat q.kind) (by rw [u8_toNat _ hk])) x2)
        exact bown_push (bown_push h1 #[.stringIter (str cs) 0] n2) #[] n2
      case round =>
        obtain ⟨j, e, Y, n, hjg, HY, HO, rfl⟩ := hrel
        have hbn : sz w.heap.size (x2.size :: 1 :: [p9.e.size, 1, x1.size, 1]) = sz w.heap.size (shape (Y :: [p9.e, #[.cells #[.int .i64 0, .int .i64 q.batch.count, .int .i64 q.batch.producer, .int .i64 q.batch.epoch, .int .i64 q.batch.seq, .slice a q.batch.recs.length cap] 25], x1, #[.cells (rq q a cap) 27]])) := by
          show sz w.heap.size [p9.e.size, 1, x1.size, 1] + 1 + x2.size = sz w.heap.size [p9.e.size, 1, x1.size, 1] + Y.size
          have hY := HY.out
          omega
        by_cases hlt : j < cs.length
        · obtain ⟨c, hx⟩ : ∃ c, cs[j]? = some c := ⟨_, List.getElem?_eq_getElem hlt⟩
          have nx := fun ty => iter_next (n := n) (e := e) (L := [p9.e, #[.cells #[.int .i64 0, .int .i64 q.batch.count, .int .i64 q.batch.producer, .int .i64 q.batch.epoch, .int .i64 q.batch.seq, .slice a q.batch.recs.length cap] 25], x1, #[.cells (rq q a cap) 27]]) hbn hx (HAS.out c (List.mem_of_getElem? hx)) ty
          have HC := Lib.hid (HLT.out c (List.mem_of_getElem? hx))
          have HN := Lib.hid (flat_take (reqField q pl) cs j c hx)
          have hf1 := HFL.out j
          have hf2 : (cs.take j).length ≤ 6 := by rw [List.length_take]; omega
          have hf3 := field_len q pl c HWF.out l1 l2 l3 (hpl)
          have HFD := Lib.hid (fun W h => field_q q a cap c HC.out u9 pl W h (by omega) (by omega) (by omega) (by omega) hw)
          clear hx hbn
          go_wp2_with (first
            | (go_at_call 98; ((with_reducible refine (HFD.out _ (HBD.out _ _ _ _)).mono ?_); rintro e w1 ⟨v9, rfl, x1⟩; obtain ⟨m9, rfl, hr9⟩ := x1.wd; clear x1))
            | (at_builtin; refine at_append_iter1 rfl _ _ rfl rfl (bown_iter HO.out) rfl hr9 (by simp only [List.length_cons]; omega) ?_; intro v' e' Y' n' hY' hO'))
          go_roundg (gk - 1)
          case measure => omega
          case rel => exact ⟨j + 1, e', Y', n', by omega, Lib.hid (hY'.trans HY.out), Lib.hid (by rw [HN.out]; exact hO'), rfl⟩
        · have nx := fun ty => iter_stop (n := n) (e := e) (L := [p9.e, #[.cells #[.int .i64 0, .int .i64 q.batch.count, .int .i64 q.batch.producer, .int .i64 q.batch.epoch, .int .i64 q.batch.seq, .slice a q.batch.recs.length cap] 25], x1, #[.cells (rq q a cap) 27]]) (cs := cs) (j := j) hbn (by omega) ty
          have HT : Hid (cs.take j = cs) := Lib.hid (List.take_of_length_le (by omega))
          clear hbn
          rw [HT.out] at HO
          go_wp2
          refine bodyPost_ret (v := .tuple #[u8, .int .i64 0]) (by simp [results, Try.results50, go_sem]) rfl ⟨u8, by rw [HP2.out], by rw [HP2.out]; exact bown_made HO.out⟩
    · have HP2 : Hid (reqPut q = ([], 4)) := Lib.hid (by rw [HPQ.out, if_neg (by simp), if_pos hb0])
      have hb0' : (q.batch.base == 0) = false := by rw [beq_eq_false_iff_ne]; exact hb0
      clear HPQ hplen hb0
      refine calls_wd ?_
      go_enter Try.func50, Try.ntmps50
      go_wp2_with (first | (go_at_call 95; ((with_reducible refine (HAL.out _ (hR.out.more (more_wd _ _ _))).mono ?_); rintro e w1 ⟨rfl, x1, n1, rfl⟩)) | (go_at_call 96; ((with_reducible refine (HPB.out _ (hR.out.more (more_wd _ _ _))).mono ?_); rintro e w2 ⟨u9, rfl, hm9⟩; obtain ⟨p9, rfl, hs9⟩ := hm9.wd; clear hm9; have HBD := Lib.hid (fun (e I Y : Array Obj) (n : Nat) => rb_push (d := e) (rb_push (d := I) (rb_push (d := Y) (RB.of_row (L := [#[.cells #[.int .i64 0, .int .i64 q.batch.count, .int .i64 q.batch.producer, .int .i64 q.batch.epoch, .int .i64 q.batch.seq, .slice a q.batch.recs.length cap] 25], x1, #[.cells (rq q a cap) 27]]) (k := n) hs9 _ rfl)))); clear hs9)) | (go_at_call 97; ((with_reducible refine (hU _).mono ?_); rintro e w1 ⟨rfl, x2, n2, rfl⟩)))
      exact bodyPost_ret (v := .tuple #[.slice none 0 0, .int .i64 4]) (by simp [results, Try.results50, go_sem]) rfl ⟨_, by rw [HP2.out], by rw [HP2.out]; exact bmade_nil _ _ _⟩
  · have HP2 : Hid (reqPut q = ([], pe)) := Lib.hid (by rw [HPQ.out, if_pos hpe])
    have hne : (pe == 0) = false := by rw [beq_eq_false_iff_ne]; exact hpe
    clear HPQ hplen
    refine calls_wd ?_
    go_enter Try.func50, Try.ntmps50
    go_wp2_with (first | (go_at_call 95; ((with_reducible refine (HAL.out _ (hR.out.more (more_wd _ _ _))).mono ?_); rintro e w1 ⟨rfl, x1, n1, rfl⟩)) | (go_at_call 96; ((with_reducible refine (HPB.out _ (hR.out.more (more_wd _ _ _))).mono ?_); rintro e w2 ⟨u9, rfl, hm9⟩; obtain ⟨p9, rfl, hs9⟩ := hm9.wd; clear hm9; have HBD := Lib.hid (fun (e I Y : Array Obj) (n : Nat) => rb_push (d := e) (rb_push (d := I) (rb_push (d := Y) (RB.of_row (L := [#[.cells #[.int .i64 0, .int .i64 q.batch.count, .int .i64 q.batch.producer, .int .i64 q.batch.epoch, .int .i64 q.batch.seq, .slice a q.batch.recs.length cap] 25], x1, #[.cells (rq q a cap) 27]]) (k := n) hs9 _ rfl)))); clear hs9)) | (go_at_call 97; ((with_reducible refine (hU _).mono ?_); rintro e w1 ⟨rfl, x2, n2, rfl⟩)))
    exact bodyPost_ret (v := .tuple #[.slice none 0 0, .int .i64 pe]) (by simp [results, Try.results50, go_sem]) rfl ⟨_, by rw [HP2.out], by rw [HP2.out]; exact bmade_nil _ _ _⟩
end Go.Proofs.Ytejokhgabcldhaa
