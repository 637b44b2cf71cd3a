/- wire: the reference's Request: small laws. -/
import Derived.Test.YtejokhgabcldhaaMN4
import Derived.Test.YtejokhgabcldhaaMP
import Derived.Test.YtejokhgabcldhaaMK
namespace Go.Proofs.Ytejokhgabcldhaa
open Go.ChangeShapes Go.WideShapes Go.ChangeAt Go.RowKit
set_option linter.unusedVariables false
set_option linter.unusedSimpArgs false

def onA (q : Req) (a : Option Addr) : Option Addr := if 102 ∈ usesL q.kind then a else none
def onC (q : Req) (c : Nat) : Nat := if 102 ∈ usesL q.kind then c else 0
theorem only_fix (q : Req) (a : Option Addr) (cap : Nat) (w : World) (hk : q.kind < 256) : Calls Try.prog 101 #[.agg (rq q a cap)] w fun x w' => x = .returned (.agg (rq (reqOnly q) (onA q a) (onC q cap))) ∧ More w w' := by
  unfold onA onC
  rcases uses_one q.kind with h | h | h | h | h | h | h | h | h | h | h <;> rw [h]
  · exact only_tpc q a cap w hk h
  · exact only_t q a cap w hk h
  · exact only_tifb q a cap w hk h
  · exact only_tiom q a cap w hk h
  · exact only_tiw q a cap w hk h
  · exact only_gk q a cap w hk h
  · exact only_tgkn q a cap w hk h
  · exact only_gkn q a cap w hk h
  · exact only_tiogkn q a cap w hk h
  · exact only_tig q a cap w hk h
  · exact only_no q a cap w hk h
theorem only_recs {W : World} (q : Req) (a : Option Addr) (h : RecsAt W a q.batch.recs) : RecsAt W (onA q a) (reqOnly q).batch.recs := by
  unfold onA reqOnly
  by_cases hb : (102 : UInt8) ∈ usesL q.kind
  · simp only [if_pos hb]; exact h
  · simp only [if_neg hb]; exact RowAt.nil _
end Go.Proofs.Ytejokhgabcldhaa
/- wire: the reference's Request, of no batch. -/
namespace Go.Proofs.Ytejokhgabcldhaa
open Go.ChangeShapes Go.WideShapes Go.ChangeAt Go.RowKit
set_option linter.unusedVariables false
set_option linter.unusedSimpArgs false

set_option maxRecDepth 100000 in
set_option maxHeartbeats 12800000 in
theorem rreq_b (q : Req) (a : Option Addr) (cap : Nat) (w : World) (hk : q.kind < 256) (hr : RecsAt w a q.batch.recs) (hm : q.batch.recs.length ≤ maxLen) (hw : q.wf)
    (hs1 : q.topic.length ≤ maxLen) (hs2 : q.group.length ≤ maxLen) (hs3 : q.member.length ≤ maxLen) (hbig : ¬ 11 < q.kind) (hcl : ¬ reqClean q ≠ reqBlank q.kind) (l1 : q.topic.length ≤ 255) (l2 : q.group.length ≤ 255) (l3 : q.member.length ≤ 255) (h3 : ¬ q.kind = 3) :
    Calls Try.prog 54 #[.agg (rq q a cap)] w fun x w' => BRet w w' x (reqPut q).1 (reqPut q).2 := by
  unfold maxLen at hs1 hs2 hs3
  have s1 := str_size q.topic
  have s2 := str_size q.group
  have s3 := str_size q.member
  have hR := Lib.hid hr
  have hM := Lib.hid hm
  have HON := Lib.hid (fun W => only_fix q a cap W hk)
  have hsm := fun W h1 h2 => rsame_q q (reqOnly q) a (onA q a) cap (onC q cap) W h1 h2 hm (Nat.le_trans (only_len q) hm)
  have hb2 : (q.kind : Int) ≤ 11 := by omega
  have hsd : decide (q = reqOnly q) = true := decide_eq_true ((only_clean q).2 (Decidable.not_not.1 hcl))
  rw [hsd] at hsm
  have HSM := Lib.hid hsm
  have HP := Lib.hid (reqPut_go (q := q) hbig hcl ⟨l1, l2, l3⟩)
  have HCL := Lib.hid hcl
  clear hsm hcl hr hsd
  have HWF : Hid (Req.wf q) := Lib.hid hw
  have hU := fun W => ruses_any q.kind hk W
  have HLT := Lib.hid (uses_letters q.kind)
  have hcl6 := uses_len q.kind
  obtain ⟨⟨i1, i1'⟩, ⟨i2, i2'⟩, ⟨i3, i3'⟩, ⟨i4, i4'⟩, ⟨i5, i5'⟩, ⟨i6, i6'⟩⟩ := hw
  have H98 := Lib.hid (fun h => h3 (uses_b q.kind h))
  have hne3 : ((q.kind : Int) == 3) = false := by rw [beq_eq_false_iff_ne]; omega
  have HP2 : Hid (reqPut q = (UInt8.ofNat q.kind :: (usesL q.kind).flatMap (reqField q []), 0)) := Lib.hid (by rw [HP.out, if_neg (by simp [h3]), if_neg (by simp [h3])]; simp [reqBytes, h3])
  generalize usesL q.kind = cs at hU HLT hcl6 HP2 H98
  have hsc := str_size cs
  have HFL := Lib.hid (fun j => fields_len q [] HWF.out l1 l2 l3 (by simp) (cs.take j))
  refine calls_wd ?_
  go_enter Try.func54, Try.ntmps54
  go_wp2
  refine wp_region_wd (by kernel_rfl) (by kernel_rfl) ?_
  repeat (go_big_quiet_step ((first | (go_at_call 101; with_reducible exact Calls.wd_of (HON.out _)) | (go_at_call 58; with_reducible exact Calls.wd_of (HSM.out _ (hR.out.more (more_wd _ _ _)) (only_recs q a (hR.out.more (more_wd _ _ _))))))))
  refine wpQuiet_nil ?_
  rintro _ ⟨mx, rfl⟩
  go_wp2_with (first | (go_at_call 103; ((with_reducible refine (hU _).mono ?_); rintro e w1 ⟨rfl, rfl⟩)))
  go_loopw [9, 10] (fun v i wr => ∃ (k : Nat) (m : Ext), k ≤ cs.length ∧ i = .int .i64 k ∧ Hid (BRow w [mx.e, #[.cells (rq q a cap) 27]] m.e v (UInt8.ofNat q.kind :: (cs.take k).flatMap (reqField q []))) ∧ wr = wd w (m.e :: [mx.e, #[.cells (rq q a cap) 27]]) m.n) (fun _ i _ => cs.length - (intOf i).toNat)
  case atStart => exact ⟨0, ⟨#[.cells #[.int .u8 (q.kind : Nat)] 5], mx.n⟩, Nat.zero_le _, rfl, Lib.hid (brow_lit w [mx.e, #[.cells (rq q a cap) 27]] (q.kind : Nat) (UInt8.ofNat q.kind) (by rw [u8_toNat _ hk])), rfl⟩
  case round =>
    obtain ⟨k, m, hkc, rfl, HB, rfl⟩ := hrel
    by_cases hlt : k < cs.length
    · obtain ⟨c, hx⟩ : ∃ c, cs[k]? = some c := ⟨_, List.getElem?_eq_getElem hlt⟩
      have hix := fun (t : TypeId) (kd : IntKind) h W => at_letter (P := Try.prog) t cs kd k c hx h W
      have HN := Lib.hid (flat_take (reqField q []) cs k c hx)
      have hc : c ∈ letters := HLT.out c (List.mem_of_getElem? hx)
      have hf1 := HFL.out k
      have hf2 : (cs.take k).length ≤ 6 := by rw [List.length_take]; omega
      have hf3 := field_len q [] c HWF.out l1 l2 l3 (by simp)
      have HCS := Lib.hid (List.mem_of_getElem? hx)
      clear hx
      simp only [letters, List.mem_cons, List.not_mem_nil, or_false] at hc
      rcases hc with rfl | rfl | rfl | rfl | rfl | rfl | rfl | rfl | rfl | rfl | rfl | rfl
      · have hv3 : (textL q.topic).length ≤ 8300 := hf3
        go_wp2_with (first | (go_at_call 60; ((with_reducible refine (rtexts_any q.topic (by omega) _).mono ?_); rintro e w1 ⟨u9, rfl, x1⟩; obtain ⟨p9, rfl, hs9⟩ := x1.wd; clear x1)) | (at_builtin; refine at_append rfl _ _ rfl rfl HB.out rfl hs9 (by simp only [List.length_cons]; omega) ?_; intro v' m' hr'))
        go_roundw
        case rel => exact ⟨k + 1, m', by omega, by go_num, Lib.hid (by rw [HN.out]; exact hr'), rfl⟩
        case measure => simp [intOf]; omega
      · have hv3 : (put q.index).length ≤ 8300 := hf3
        go_wp2_with (first | (go_at_call 55; ((with_reducible refine (rput_any q.index i1 i1' _).mono ?_); rintro e w1 ⟨u9, rfl, x1⟩; obtain ⟨p9, rfl, hs9⟩ := x1.wd; clear x1)) | (at_builtin; refine at_append rfl _ _ rfl rfl HB.out rfl hs9 (by simp only [List.length_cons]; omega) ?_; intro v' m' hr'))
        go_roundw
        case rel => exact ⟨k + 1, m', by omega, by go_num, Lib.hid (by rw [HN.out]; exact hr'), rfl⟩
        case measure => simp [intOf]; omega
      · have hv3 : (put q.parts).length ≤ 8300 := hf3
        go_wp2_with (first | (go_at_call 55; ((with_reducible refine (rput_any q.parts i2 i2' _).mono ?_); rintro e w1 ⟨u9, rfl, x1⟩; obtain ⟨p9, rfl, hs9⟩ := x1.wd; clear x1)) | (at_builtin; refine at_append rfl _ _ rfl rfl HB.out rfl hs9 (by simp only [List.length_cons]; omega) ?_; intro v' m' hr'))
        go_roundw
        case rel => exact ⟨k + 1, m', by omega, by go_num, Lib.hid (by rw [HN.out]; exact hr'), rfl⟩
        case measure => simp [intOf]; omega
      · have hv3 : (flagB q.compact).length ≤ 8300 := hf3
        go_wp2_with (first | (go_at_call 104; ((with_reducible refine (rflag_any q.compact _).mono ?_); rintro e w1 ⟨u9, rfl, x1⟩; obtain ⟨p9, rfl, hs9⟩ := x1.wd; clear x1)) | (at_builtin; refine at_append rfl _ _ rfl rfl HB.out rfl hs9 (by simp only [List.length_cons]; omega) ?_; intro v' m' hr'))
        go_roundw
        case rel => exact ⟨k + 1, m', by omega, by go_num, Lib.hid (by rw [HN.out]; exact hr'), rfl⟩
        case measure => simp [intOf]; omega
      · have hv3 : (flagB q.flush).length ≤ 8300 := hf3
        go_wp2_with (first | (go_at_call 104; ((with_reducible refine (rflag_any q.flush _).mono ?_); rintro e w1 ⟨u9, rfl, x1⟩; obtain ⟨p9, rfl, hs9⟩ := x1.wd; clear x1)) | (at_builtin; refine at_append rfl _ _ rfl rfl HB.out rfl hs9 (by simp only [List.length_cons]; omega) ?_; intro v' m' hr'))
        go_roundw
        case rel => exact ⟨k + 1, m', by omega, by go_num, Lib.hid (by rw [HN.out]; exact hr'), rfl⟩
        case measure => simp [intOf]; omega
      · have hv3 : (put q.offset).length ≤ 8300 := hf3
        go_wp2_with (first | (go_at_call 55; ((with_reducible refine (rput_any q.offset i3 i3' _).mono ?_); rintro e w1 ⟨u9, rfl, x1⟩; obtain ⟨p9, rfl, hs9⟩ := x1.wd; clear x1)) | (at_builtin; refine at_append rfl _ _ rfl rfl HB.out rfl hs9 (by simp only [List.length_cons]; omega) ?_; intro v' m' hr'))
        go_roundw
        case rel => exact ⟨k + 1, m', by omega, by go_num, Lib.hid (by rw [HN.out]; exact hr'), rfl⟩
        case measure => simp [intOf]; omega
      · have hv3 : (put q.most).length ≤ 8300 := hf3
        go_wp2_with (first | (go_at_call 55; ((with_reducible refine (rput_any q.most i4 i4' _).mono ?_); rintro e w1 ⟨u9, rfl, x1⟩; obtain ⟨p9, rfl, hs9⟩ := x1.wd; clear x1)) | (at_builtin; refine at_append rfl _ _ rfl rfl HB.out rfl hs9 (by simp only [List.length_cons]; omega) ?_; intro v' m' hr'))
        go_roundw
        case rel => exact ⟨k + 1, m', by omega, by go_num, Lib.hid (by rw [HN.out]; exact hr'), rfl⟩
        case measure => simp [intOf]; omega
      · have hv3 : (put q.time).length ≤ 8300 := hf3
        go_wp2_with (first | (go_at_call 55; ((with_reducible refine (rput_any q.time i5 i5' _).mono ?_); rintro e w1 ⟨u9, rfl, x1⟩; obtain ⟨p9, rfl, hs9⟩ := x1.wd; clear x1)) | (at_builtin; refine at_append rfl _ _ rfl rfl HB.out rfl hs9 (by simp only [List.length_cons]; omega) ?_; intro v' m' hr'))
        go_roundw
        case rel => exact ⟨k + 1, m', by omega, by go_num, Lib.hid (by rw [HN.out]; exact hr'), rfl⟩
        case measure => simp [intOf]; omega
      · have hv3 : (textL q.group).length ≤ 8300 := hf3
        go_wp2_with (first | (go_at_call 60; ((with_reducible refine (rtexts_any q.group (by omega) _).mono ?_); rintro e w1 ⟨u9, rfl, x1⟩; obtain ⟨p9, rfl, hs9⟩ := x1.wd; clear x1)) | (at_builtin; refine at_append rfl _ _ rfl rfl HB.out rfl hs9 (by simp only [List.length_cons]; omega) ?_; intro v' m' hr'))
        go_roundw
        case rel => exact ⟨k + 1, m', by omega, by go_num, Lib.hid (by rw [HN.out]; exact hr'), rfl⟩
        case measure => simp [intOf]; omega
      · have hv3 : (textL q.member).length ≤ 8300 := hf3
        go_wp2_with (first | (go_at_call 60; ((with_reducible refine (rtexts_any q.member (by omega) _).mono ?_); rintro e w1 ⟨u9, rfl, x1⟩; obtain ⟨p9, rfl, hs9⟩ := x1.wd; clear x1)) | (at_builtin; refine at_append rfl _ _ rfl rfl HB.out rfl hs9 (by simp only [List.length_cons]; omega) ?_; intro v' m' hr'))
        go_roundw
        case rel => exact ⟨k + 1, m', by omega, by go_num, Lib.hid (by rw [HN.out]; exact hr'), rfl⟩
        case measure => simp [intOf]; omega
      · have hv3 : (put q.gen).length ≤ 8300 := hf3
        go_wp2_with (first | (go_at_call 55; ((with_reducible refine (rput_any q.gen i6 i6' _).mono ?_); rintro e w1 ⟨u9, rfl, x1⟩; obtain ⟨p9, rfl, hs9⟩ := x1.wd; clear x1)) | (at_builtin; refine at_append rfl _ _ rfl rfl HB.out rfl hs9 (by simp only [List.length_cons]; omega) ?_; intro v' m' hr'))
        go_roundw
        case rel => exact ⟨k + 1, m', by omega, by go_num, Lib.hid (by rw [HN.out]; exact hr'), rfl⟩
        case measure => simp [intOf]; omega
      · exact (H98.out HCS.out).elim
    · have HT : Hid (cs.take k = cs) := Lib.hid (List.take_of_length_le (by omega))
      rw [HT.out] at HB
      have hke : (k : Int) = (cs.length : Int) := by omega
      go_wp2
      refine bodyPost_ret (v := .tuple #[u9, .int .i64 0]) (by simp [results, Try.results54, go_sem]) rfl ⟨_, by rw [HP2.out], by rw [HP2.out]; exact bown_made (bown_of HB.out)⟩
end Go.Proofs.Ytejokhgabcldhaa
/- wire: the reference's Request, of a batch. -/
namespace Go.Proofs.Ytejokhgabcldhaa
open Go.ChangeShapes Go.WideShapes Go.ChangeAt Go.RowKit
set_option linter.unusedVariables false
set_option linter.unusedSimpArgs false

set_option maxRecDepth 100000 in
set_option maxHeartbeats 12800000 in
theorem rreq_c (q : Req) (a : Option Addr) (cap : Nat) (w : World) (hk : q.kind < 256) (hr : RecsAt w a q.batch.recs) (hm : q.batch.recs.length ≤ maxLen) (hw : q.wf)
    (hs1 : q.topic.length ≤ maxLen) (hs2 : q.group.length ≤ maxLen) (hs3 : q.member.length ≤ maxLen) (hbig : ¬ 11 < q.kind) (hcl : ¬ reqClean q ≠ reqBlank q.kind) (l1 : q.topic.length ≤ 255) (l2 : q.group.length ≤ 255) (l3 : q.member.length ≤ 255) (h3 : q.kind = 3) :
    Calls Try.prog 54 #[.agg (rq q a cap)] w fun x w' => BRet w w' x (reqPut q).1 (reqPut q).2 := by
  unfold maxLen at hs1 hs2 hs3
  have s1 := str_size q.topic
  have s2 := str_size q.group
  have s3 := str_size q.member
  have hR := Lib.hid hr
  have hM := Lib.hid hm
  have HON := Lib.hid (fun W => only_fix q a cap W hk)
  have hsm := fun W h1 h2 => rsame_q q (reqOnly q) a (onA q a) cap (onC q cap) W h1 h2 hm (Nat.le_trans (only_len q) hm)
  have hb2 : (q.kind : Int) ≤ 11 := by omega
  have hsd : decide (q = reqOnly q) = true := decide_eq_true ((only_clean q).2 (Decidable.not_not.1 hcl))
  rw [hsd] at hsm
  have HSM := Lib.hid hsm
  have HP := Lib.hid (reqPut_go (q := q) hbig hcl ⟨l1, l2, l3⟩)
  have HCL := Lib.hid hcl
  clear hsm hcl hr hsd
  have HWF : Hid (Req.wf q) := Lib.hid hw
  have hU := fun W => ruses_any q.kind hk W
  have HLT := Lib.hid (uses_letters q.kind)
  have hcl6 := uses_len q.kind
  obtain ⟨⟨i1, i1'⟩, ⟨i2, i2'⟩, ⟨i3, i3'⟩, ⟨i4, i4'⟩, ⟨i5, i5'⟩, ⟨i6, i6'⟩⟩ := hw
  have he3 : ((q.kind : Int) == 3) = true := by rw [h3]; rfl
  have hpb := fun W h => rput_bat { q.batch with base := 0 } a cap W h hm
  dsimp only at hpb
  have HPQ : Hid (reqPut q = if (batPut { q.batch with base := 0 }).2 ≠ 0 then ([], (batPut { q.batch with base := 0 }).2) else if q.batch.base ≠ 0 then ([], 4) else (UInt8.ofNat q.kind :: (usesL q.kind).flatMap (reqField q (batPut { q.batch with base := 0 }).1), 0)) := Lib.hid (by
    rw [HP.out]
    simp only [h3, true_and, if_true, reqBat, reqBytes])
  have hplen : Hid ((batPut { q.batch with base := 0 }).2 = 0 → (batPut { q.batch with base := 0 }).1.length ≤ 8192) := Lib.hid (fun h => by
    obtain ⟨g1, g2, g3, g4⟩ := batPut_ok (b := { q.batch with base := 0 }) (l := (batPut { q.batch with base := 0 }).1) (Prod.ext rfl h)
    rw [g1]; exact g4)
  obtain ⟨P, hP⟩ : ∃ P, batPut { q.batch with base := 0 } = P := ⟨_, rfl⟩
  rw [hP] at hpb HPQ hplen
  clear hP h3 HP
  obtain ⟨pl, pe⟩ := P
  dsimp only at hpb HPQ hplen
  have HPB := Lib.hid hpb
  clear hpb
  by_cases hpe : pe = 0
  · subst hpe
    have hpl := hplen.out rfl
    by_cases hb0 : q.batch.base = 0
    · have HP2 : Hid (reqPut q = (UInt8.ofNat q.kind :: (usesL q.kind).flatMap (reqField q pl), 0)) := Lib.hid (by rw [HPQ.out, if_neg (by simp), if_neg (by simp [hb0])])
      have hb0' : (q.batch.base == 0) = true := by rw [hb0]; rfl
      clear HPQ hplen hb0
      generalize usesL q.kind = cs at hU HLT hcl6 HP2
      have hsc := str_size cs
      have HFL := Lib.hid (fun j => fields_len q pl HWF.out l1 l2 l3 hpl (cs.take j))
      refine calls_wd ?_
      go_enter Try.func54, Try.ntmps54
      go_wp2
      refine wp_region_wd (by kernel_rfl) (by kernel_rfl) ?_
      repeat (go_big_quiet_step ((first | (go_at_call 101; with_reducible exact Calls.wd_of (HON.out _)) | (go_at_call 58; with_reducible exact Calls.wd_of (HSM.out _ (hR.out.more (more_wd _ _ _)) (only_recs q a (hR.out.more (more_wd _ _ _))))))))
      refine wpQuiet_nil ?_
      rintro _ ⟨mx, rfl⟩
      go_wp2_with (first | (go_at_call 103; ((with_reducible refine (hU _).mono ?_); rintro e w1 ⟨rfl, rfl⟩)) | (go_at_call 102; ((with_reducible refine (HPB.out _ (hR.out.more (more_wd _ _ _))).mono ?_); rintro e w2 ⟨u9, rfl, hm9⟩; obtain ⟨p9, rfl, hs9⟩ := hm9.wd; clear hm9; have hcv := (RB.of_row (L := [#[.cells #[.int .i64 0, .int .i64 q.batch.count, .int .i64 q.batch.producer, .int .i64 q.batch.epoch, .int .i64 q.batch.seq, .slice a q.batch.recs.length cap] 25], mx.e, #[.cells (rq q a cap) 27]]) (k := p9.n) hs9 _ rfl).run_str (P := Try.prog) 28 9 5 Try.underlying28 Try.underlying5 Try.underlying9)) | (go_at_call 60; ((with_reducible refine (rtexts_any pl (by omega) _).mono ?_); rintro e w1 ⟨ub, rfl, x1⟩; obtain ⟨pb, rfl, hsb⟩ := x1.wd; clear x1)))
      clear hs9 hcv
      have HBT := Lib.hid (fun (m : Array Obj) (n : Nat) => rb_push (d := m) (RB.of_row (k := n) hsb _ rfl))
      clear hsb
      go_loopw [9, 10] (fun v i wr => ∃ (k : Nat) (m : Ext), k ≤ cs.length ∧ i = .int .i64 k ∧ Hid (BRow w [pb.e, p9.e, #[.cells #[.int .i64 0, .int .i64 q.batch.count, .int .i64 q.batch.producer, .int .i64 q.batch.epoch, .int .i64 q.batch.seq, .slice a q.batch.recs.length cap] 25], mx.e, #[.cells (rq q a cap) 27]] m.e v (UInt8.ofNat q.kind :: (cs.take k).flatMap (reqField q pl))) ∧ wr = wd w (m.e :: [pb.e, p9.e, #[.cells #[.int .i64 0, .int .i64 q.batch.count, .int .i64 q.batch.producer, .int .i64 q.batch.epoch, .int .i64 q.batch.seq, .slice a q.batch.recs.length cap] 25], mx.e, #[.cells (rq q a cap) 27]]) m.n) (fun _ i _ => cs.length - (intOf i).toNat)
      case atStart => exact ⟨0, ⟨#[.cells #[.int .u8 (q.kind : Nat)] 5], pb.n⟩, Nat.zero_le _, rfl, Lib.hid (brow_lit w [pb.e, p9.e, #[.cells #[.int .i64 0, .int .i64 q.batch.count, .int .i64 q.batch.producer, .int .i64 q.batch.epoch, .int .i64 q.batch.seq, .slice a q.batch.recs.length cap] 25], mx.e, #[.cells (rq q a cap) 27]] (q.kind : Nat) (UInt8.ofNat q.kind) (by rw [u8_toNat _ hk])), rfl⟩
      case round =>
        obtain ⟨k, m, hkc, rfl, HB, rfl⟩ := hrel
        by_cases hlt : k < cs.length
        · obtain ⟨c, hx⟩ : ∃ c, cs[k]? = some c := ⟨_, List.getElem?_eq_getElem hlt⟩
          have hix := fun (t : TypeId) (kd : IntKind) h W => at_letter (P := Try.prog) t cs kd k c hx h W
          have HN := Lib.hid (flat_take (reqField q pl) cs k c hx)
          have hc : c ∈ letters := HLT.out c (List.mem_of_getElem? hx)
          have hf1 := HFL.out k
          have hf2 : (cs.take k).length ≤ 6 := by rw [List.length_take]; omega
          have hf3 := field_len q pl c HWF.out l1 l2 l3 (hpl)
          have HCS := Lib.hid (List.mem_of_getElem? hx)
          clear hx
          simp only [letters, List.mem_cons, List.not_mem_nil, or_false] at hc
          rcases hc with rfl | rfl | rfl | rfl | rfl | rfl | rfl | rfl | rfl | rfl | rfl | rfl
          · have hv3 : (textL q.topic).length ≤ 8300 := hf3
            go_wp2_with (first | (go_at_call 60; ((with_reducible refine (rtexts_any q.topic (by omega) _).mono ?_); rintro e w1 ⟨u9, rfl, x1⟩; obtain ⟨p9, rfl, hs9⟩ := x1.wd; clear x1)) | (at_builtin; refine at_append rfl _ _ rfl rfl HB.out rfl hs9 (by simp only [List.length_cons]; omega) ?_; intro v' m' hr'))
            go_roundw
            case rel => exact ⟨k + 1, m', by omega, by go_num, Lib.hid (by rw [HN.out]; exact hr'), rfl⟩
            case measure => simp [intOf]; omega
          · have hv3 : (put q.index).length ≤ 8300 := hf3
            go_wp2_with (first | (go_at_call 55; ((with_reducible refine (rput_any q.index i1 i1' _).mono ?_); rintro e w1 ⟨u9, rfl, x1⟩; obtain ⟨p9, rfl, hs9⟩ := x1.wd; clear x1)) | (at_builtin; refine at_append rfl _ _ rfl rfl HB.out rfl hs9 (by simp only [List.length_cons]; omega) ?_; intro v' m' hr'))
            go_roundw
            case rel => exact ⟨k + 1, m', by omega, by go_num, Lib.hid (by rw [HN.out]; exact hr'), rfl⟩
            case measure => simp [intOf]; omega
          · have hv3 : (put q.parts).length ≤ 8300 := hf3
            go_wp2_with (first | (go_at_call 55; ((with_reducible refine (rput_any q.parts i2 i2' _).mono ?_); rintro e w1 ⟨u9, rfl, x1⟩; obtain ⟨p9, rfl, hs9⟩ := x1.wd; clear x1)) | (at_builtin; refine at_append rfl _ _ rfl rfl HB.out rfl hs9 (by simp only [List.length_cons]; omega) ?_; intro v' m' hr'))
            go_roundw
            case rel => exact ⟨k + 1, m', by omega, by go_num, Lib.hid (by rw [HN.out]; exact hr'), rfl⟩
            case measure => simp [intOf]; omega
          · have hv3 : (flagB q.compact).length ≤ 8300 := hf3
            go_wp2_with (first | (go_at_call 104; ((with_reducible refine (rflag_any q.compact _).mono ?_); rintro e w1 ⟨u9, rfl, x1⟩; obtain ⟨p9, rfl, hs9⟩ := x1.wd; clear x1)) | (at_builtin; refine at_append rfl _ _ rfl rfl HB.out rfl hs9 (by simp only [List.length_cons]; omega) ?_; intro v' m' hr'))
            go_roundw
            case rel => exact ⟨k + 1, m', by omega, by go_num, Lib.hid (by rw [HN.out]; exact hr'), rfl⟩
            case measure => simp [intOf]; omega
          · have hv3 : (flagB q.flush).length ≤ 8300 := hf3
            go_wp2_with (first | (go_at_call 104; ((with_reducible refine (rflag_any q.flush _).mono ?_); rintro e w1 ⟨u9, rfl, x1⟩; obtain ⟨p9, rfl, hs9⟩ := x1.wd; clear x1)) | (at_builtin; refine at_append rfl _ _ rfl rfl HB.out rfl hs9 (by simp only [List.length_cons]; omega) ?_; intro v' m' hr'))
            go_roundw
            case rel => exact ⟨k + 1, m', by omega, by go_num, Lib.hid (by rw [HN.out]; exact hr'), rfl⟩
            case measure => simp [intOf]; omega
          · have hv3 : (put q.offset).length ≤ 8300 := hf3
            go_wp2_with (first | (go_at_call 55; ((with_reducible refine (rput_any q.offset i3 i3' _).mono ?_); rintro e w1 ⟨u9, rfl, x1⟩; obtain ⟨p9, rfl, hs9⟩ := x1.wd; clear x1)) | (at_builtin; refine at_append rfl _ _ rfl rfl HB.out rfl hs9 (by simp only [List.length_cons]; omega) ?_; intro v' m' hr'))
            go_roundw
            case rel => exact ⟨k + 1, m', by omega, by go_num, Lib.hid (by rw [HN.out]; exact hr'), rfl⟩
            case measure => simp [intOf]; omega
          · have hv3 : (put q.most).length ≤ 8300 := hf3
            go_wp2_with (first | (go_at_call 55; ((with_reducible refine (rput_any q.most i4 i4' _).mono ?_); rintro e w1 ⟨u9, rfl, x1⟩; obtain ⟨p9, rfl, hs9⟩ := x1.wd; clear x1)) | (at_builtin; refine at_append rfl _ _ rfl rfl HB.out rfl hs9 (by simp only [List.length_cons]; omega) ?_; intro v' m' hr'))
            go_roundw
            case rel => exact ⟨k + 1, m', by omega, by go_num, Lib.hid (by rw [HN.out]; exact hr'), rfl⟩
            case measure => simp [intOf]; omega
          · have hv3 : (put q.time).length ≤ 8300 := hf3
            go_wp2_with (first | (go_at_call 55; ((with_reducible refine (rput_any q.time i5 i5' _).mono ?_); rintro e w1 ⟨u9, rfl, x1⟩; obtain ⟨p9, rfl, hs9⟩ := x1.wd; clear x1)) | (at_builtin; refine at_append rfl _ _ rfl rfl HB.out rfl hs9 (by simp only [List.length_cons]; omega) ?_; intro v' m' hr'))
            go_roundw
            case rel => exact ⟨k + 1, m', by omega, by go_num, Lib.hid (by rw [HN.out]; exact hr'), rfl⟩
            case measure => simp [intOf]; omega
          · have hv3 : (textL q.group).length ≤ 8300 := hf3
            go_wp2_with (first | (go_at_call 60; ((with_reducible refine (rtexts_any q.group (by omega) _).mono ?_); rintro e w1 ⟨u9, rfl, x1⟩; obtain ⟨p9, rfl, hs9⟩ := x1.wd; clear x1)) | (at_builtin; refine at_append rfl _ _ rfl rfl HB.out rfl hs9 (by simp only [List.length_cons]; omega) ?_; intro v' m' hr'))
            go_roundw
            case rel => exact ⟨k + 1, m', by omega, by go_num, Lib.hid (by rw [HN.out]; exact hr'), rfl⟩
            case measure => simp [intOf]; omega
          · have hv3 : (textL q.member).length ≤ 8300 := hf3
            go_wp2_with (first | (go_at_call 60; ((with_reducible refine (rtexts_any q.member (by omega) _).mono ?_); rintro e w1 ⟨u9, rfl, x1⟩; obtain ⟨p9, rfl, hs9⟩ := x1.wd; clear x1)) | (at_builtin; refine at_append rfl _ _ rfl rfl HB.out rfl hs9 (by simp only [List.length_cons]; omega) ?_; intro v' m' hr'))
            go_roundw
            case rel => exact ⟨k + 1, m', by omega, by go_num, Lib.hid (by rw [HN.out]; exact hr'), rfl⟩
            case measure => simp [intOf]; omega
          · have hv3 : (put q.gen).length ≤ 8300 := hf3
            go_wp2_with (first | (go_at_call 55; ((with_reducible refine (rput_any q.gen i6 i6' _).mono ?_); rintro e w1 ⟨u9, rfl, x1⟩; obtain ⟨p9, rfl, hs9⟩ := x1.wd; clear x1)) | (at_builtin; refine at_append rfl _ _ rfl rfl HB.out rfl hs9 (by simp only [List.length_cons]; omega) ?_; intro v' m' hr'))
            go_roundw
            case rel => exact ⟨k + 1, m', by omega, by go_num, Lib.hid (by rw [HN.out]; exact hr'), rfl⟩
            case measure => simp [intOf]; omega
          · have hv3 : (textL pl).length ≤ 8300 := hf3
            go_wp2_with (first | (at_builtin; refine at_append_rb rfl _ _ rfl rfl HB.out rfl (HBT.out _ _) (by simp only [List.length_cons]; omega) ?_; intro v' m' hr'))
            go_roundw
            case rel => exact ⟨k + 1, m', by omega, by go_num, Lib.hid (by rw [HN.out]; exact hr'), rfl⟩
            case measure => simp [intOf]; omega
        · have HT : Hid (cs.take k = cs) := Lib.hid (List.take_of_length_le (by omega))
          rw [HT.out] at HB
          have hke : (k : Int) = (cs.length : Int) := by omega
          go_wp2
          refine bodyPost_ret (v := .tuple #[u9, .int .i64 0]) (by simp [results, Try.results54, go_sem]) rfl ⟨_, by rw [HP2.out], by rw [HP2.out]; exact bown_made (bown_of HB.out)⟩

    · have HP2 : Hid (reqPut q = ([], 4)) := Lib.hid (by rw [HPQ.out, if_neg (by simp), if_pos hb0])
      have hb0' : (q.batch.base == 0) = false := by rw [beq_eq_false_iff_ne]; exact hb0
      clear HPQ hplen hb0
      refine calls_wd ?_
      go_enter Try.func54, Try.ntmps54
      go_wp2
      refine wp_region_wd (by kernel_rfl) (by kernel_rfl) ?_
      repeat (go_big_quiet_step ((first | (go_at_call 101; with_reducible exact Calls.wd_of (HON.out _)) | (go_at_call 58; with_reducible exact Calls.wd_of (HSM.out _ (hR.out.more (more_wd _ _ _)) (only_recs q a (hR.out.more (more_wd _ _ _))))))))
      refine wpQuiet_nil ?_
      rintro _ ⟨mx, rfl⟩
      go_wp2_with (first | (go_at_call 102; ((with_reducible refine (HPB.out _ (hR.out.more (more_wd _ _ _))).mono ?_); rintro e w2 ⟨u9, rfl, hm9⟩; obtain ⟨p9, rfl, hs9⟩ := hm9.wd; clear hm9; have hcv := (RB.of_row (L := [#[.cells #[.int .i64 0, .int .i64 q.batch.count, .int .i64 q.batch.producer, .int .i64 q.batch.epoch, .int .i64 q.batch.seq, .slice a q.batch.recs.length cap] 25], mx.e, #[.cells (rq q a cap) 27]]) (k := p9.n) hs9 _ rfl).run_str (P := Try.prog) 28 9 5 Try.underlying28 Try.underlying5 Try.underlying9)))
      exact bodyPost_ret (v := .tuple #[.slice none 0 0, .int .i64 4]) (by simp [results, Try.results54, go_sem]) rfl ⟨_, by rw [HP2.out], by rw [HP2.out]; exact bmade_nil _ _ _⟩
  · have HP2 : Hid (reqPut q = ([], pe)) := Lib.hid (by rw [HPQ.out, if_pos hpe])
    have hne : (pe == 0) = false := by rw [beq_eq_false_iff_ne]; exact hpe
    clear HPQ hplen
    refine calls_wd ?_
    go_enter Try.func54, Try.ntmps54
    go_wp2
    refine wp_region_wd (by kernel_rfl) (by kernel_rfl) ?_
    repeat (go_big_quiet_step ((first | (go_at_call 101; with_reducible exact Calls.wd_of (HON.out _)) | (go_at_call 58; with_reducible exact Calls.wd_of (HSM.out _ (hR.out.more (more_wd _ _ _)) (only_recs q a (hR.out.more (more_wd _ _ _))))))))
    refine wpQuiet_nil ?_
    rintro _ ⟨mx, rfl⟩
    go_wp2_with (first | (go_at_call 102; ((with_reducible refine (HPB.out _ (hR.out.more (more_wd _ _ _))).mono ?_); rintro e w2 ⟨u9, rfl, hm9⟩; obtain ⟨p9, rfl, hs9⟩ := hm9.wd; clear hm9; have hcv := (RB.of_row (L := [#[.cells #[.int .i64 0, .int .i64 q.batch.count, .int .i64 q.batch.producer, .int .i64 q.batch.epoch, .int .i64 q.batch.seq, .slice a q.batch.recs.length cap] 25], mx.e, #[.cells (rq q a cap) 27]]) (k := p9.n) hs9 _ rfl).run_str (P := Try.prog) 28 9 5 Try.underlying28 Try.underlying5 Try.underlying9)))
    exact bodyPost_ret (v := .tuple #[.slice none 0 0, .int .i64 pe]) (by simp [results, Try.results54, go_sem]) rfl ⟨_, by rw [HP2.out], by rw [HP2.out]; exact bmade_nil _ _ _⟩
end Go.Proofs.Ytejokhgabcldhaa
/- wire: the reference's Request. -/
namespace Go.Proofs.Ytejokhgabcldhaa
open Go.ChangeShapes Go.WideShapes Go.ChangeAt Go.RowKit
set_option linter.unusedVariables false
set_option linter.unusedSimpArgs false

set_option maxRecDepth 100000 in
set_option maxHeartbeats 6400000 in
theorem rreq_any (q : Req) (a : Option Addr) (cap : Nat) (w : World) (hk : q.kind < 256) (hr : RecsAt w a q.batch.recs) (hm : q.batch.recs.length ≤ maxLen) (hw : q.wf)
    (hs1 : q.topic.length ≤ maxLen) (hs2 : q.group.length ≤ maxLen) (hs3 : q.member.length ≤ maxLen) :
    Calls Try.prog 54 #[.agg (rq q a cap)] w fun x w' => BRet w w' x (reqPut q).1 (reqPut q).2 := by
  unfold maxLen at hs1 hs2 hs3
  have s1 := str_size q.topic
  have s2 := str_size q.group
  have s3 := str_size q.member
  have hR := Lib.hid hr
  have hM := Lib.hid hm
  by_cases hbig : 11 < q.kind
  · have HP := Lib.hid (reqPut_kind (q := q) hbig)
    have hb2 : (11 : Int) < (q.kind : Int) := by omega
    refine calls_wd ?_
    go_enter Try.func54, Try.ntmps54
    go_wp2
    exact bodyPost_ret (v := .tuple #[.slice none 0 0, .int .i64 22]) (by simp [results, Try.results54, go_sem]) rfl ⟨_, by rw [HP.out], by rw [HP.out]; exact bmade_nil _ _ _⟩
  have hb2 : (q.kind : Int) ≤ 11 := by omega
  have HON := Lib.hid (fun W => only_fix q a cap W hk)
  have hsm := fun W h1 h2 => rsame_q q (reqOnly q) a (onA q a) cap (onC q cap) W h1 h2 hm (Nat.le_trans (only_len q) hm)
  by_cases hcl : reqClean q ≠ reqBlank q.kind
  · have HP := Lib.hid (reqPut_alien (q := q) hbig hcl)
    have hsd : decide (q = reqOnly q) = false := decide_eq_false (fun h => hcl ((only_clean q).1 h))
    rw [hsd] at hsm
    have HSM := Lib.hid hsm
    clear hsm hr hcl hsd
    refine calls_wd ?_
    go_enter Try.func54, Try.ntmps54
    go_wp2
    refine wp_region_wd (by kernel_rfl) (by kernel_rfl) ?_
    repeat (go_big_quiet_step ((first | (go_at_call 101; with_reducible exact Calls.wd_of (HON.out _)) | (go_at_call 58; with_reducible exact Calls.wd_of (HSM.out _ (hR.out.more (more_wd _ _ _)) (only_recs q a (hR.out.more (more_wd _ _ _))))))))
    refine wpQuiet_nil ?_
    rintro _ ⟨mx, rfl⟩
    go_wp2
    exact bodyPost_ret (v := .tuple #[.slice none 0 0, .int .i64 4]) (by simp [results, Try.results54, go_sem]) rfl ⟨_, by rw [HP.out], by rw [HP.out]; exact bmade_nil _ _ _⟩
  by_cases hlong : q.topic.length ≤ 255 ∧ q.group.length ≤ 255 ∧ q.member.length ≤ 255
  · obtain ⟨l1, l2, l3⟩ := hlong
    by_cases h3 : q.kind = 3
    · exact rreq_c q a cap w hk hr hm hw hs1 hs2 hs3 hbig hcl l1 l2 l3 h3
    · exact rreq_b q a cap w hk hr hm hw hs1 hs2 hs3 hbig hcl l1 l2 l3 h3
  · have HP := Lib.hid (reqPut_long (q := q) hbig hcl hlong)
    have hsd : decide (q = reqOnly q) = true := decide_eq_true ((only_clean q).2 (Decidable.not_not.1 hcl))
    rw [hsd] at hsm
    have HSM := Lib.hid hsm
    have hd : (decide (255 < (q.topic.length : Int)) || decide (255 < (q.group.length : Int)) || decide (255 < (q.member.length : Int))) = true := by
      rw [Bool.or_eq_true, Bool.or_eq_true, decide_eq_true_eq, decide_eq_true_eq, decide_eq_true_eq]
      omega
    clear hsm hcl hr hsd hlong
    refine calls_wd ?_
    go_enter Try.func54, Try.ntmps54
    go_wp2
    refine wp_region_wd (by kernel_rfl) (by kernel_rfl) ?_
    repeat (go_big_quiet_step ((first | (go_at_call 101; with_reducible exact Calls.wd_of (HON.out _)) | (go_at_call 58; with_reducible exact Calls.wd_of (HSM.out _ (hR.out.more (more_wd _ _ _)) (only_recs q a (hR.out.more (more_wd _ _ _))))))))
    refine wpQuiet_nil ?_
    rintro _ ⟨mx, rfl⟩
    go_wp2
    all_goals first
      | (exfalso; simp_all; omega)
      | exact bodyPost_ret (v := .tuple #[.slice none 0 0, .int .i64 5]) (by simp [results, Try.results54, go_sem]) rfl ⟨_, by rw [HP.out], by rw [HP.out]; exact bmade_nil _ _ _⟩
end Go.Proofs.Ytejokhgabcldhaa
