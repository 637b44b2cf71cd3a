/- wire: PutRequest. -/
import Derived.Test.YtejokhgabcldhaaMN
import Derived.Test.YtejokhgabcldhaaMN2
namespace Go.Proofs.Ytejokhgabcldhaa
open Go.ChangeShapes Go.WideShapes Go.ChangeAt Go.RowKit
set_option linter.unusedVariables false
set_option linter.unusedSimpArgs false

attribute [local go_sem 2000] run_max3
set_option maxRecDepth 100000 in
set_option maxHeartbeats 12800000 in
theorem putreq_any (q : Req) (a : Option Addr) (cap : Nat) (w : World) (hk : q.kind < 256) (hr : RecsAt w a q.batch.recs) (hm : q.batch.recs.length ≤ maxLen) (hw : q.wf)
    (hs1 : q.topic.length ≤ maxLen) (hs2 : q.group.length ≤ maxLen) (hs3 : q.member.length ≤ maxLen) :
    Calls Try.prog 50 #[.agg (rq q a cap)] w fun x w' => BRet w w' x (reqPut q).1 (reqPut q).2 := by
  unfold maxLen at hs1 hs2 hs3
  have s1 := str_size q.topic
  have s2 := str_size q.group
  have s3 := str_size q.member
  have hR := Lib.hid hr
  have hM := Lib.hid hm
  have hal := fun W h => alien_q q a cap W hk h hm
  by_cases hbig : 11 < q.kind
  · have HP := Lib.hid (reqPut_kind (q := q) hbig)
    have hb2 : (11 : Int) < (q.kind : Int) := by omega
    clear hal hr
    refine calls_wd ?_
    go_enter Try.func50, Try.ntmps50
    go_wp2
    exact bodyPost_ret (v := .tuple #[.slice none 0 0, .int .i64 22]) (by simp [results, Try.results50, go_sem]) rfl ⟨_, by rw [HP.out], by rw [HP.out]; exact bmade_nil _ _ _⟩
  have hb2 : (q.kind : Int) ≤ 11 := by omega
  by_cases hcl : reqClean q ≠ reqBlank q.kind
  · have HP := Lib.hid (reqPut_alien (q := q) hbig hcl)
    rw [decide_eq_true hcl] at hal
    have HAL := Lib.hid hal
    clear hal hr hcl
    refine calls_wd ?_
    go_enter Try.func50, Try.ntmps50
    go_wp2_with (first | (go_at_call 95; ((with_reducible refine (HAL.out _ (hR.out.more (more_wd _ _ _))).mono ?_); rintro e w1 ⟨rfl, x1, n1, rfl⟩)))
    exact bodyPost_ret (v := .tuple #[.slice none 0 0, .int .i64 4]) (by simp [results, Try.results50, go_sem]) rfl ⟨_, by rw [HP.out], by rw [HP.out]; exact bmade_nil _ _ _⟩
  rw [decide_eq_false hcl] at hal
  have HAL := Lib.hid hal
  clear hal
  by_cases hlong : q.topic.length ≤ 255 ∧ q.group.length ≤ 255 ∧ q.member.length ≤ 255
  · obtain ⟨l1, l2, l3⟩ := hlong
    by_cases h3 : q.kind = 3
    · exact putreq_c q a cap w hk hr hm hw hs1 hs2 hs3 hbig hcl l1 l2 l3 h3
    · exact putreq_b q a cap w hk hr hm hw hs1 hs2 hs3 hbig hcl l1 l2 l3 h3
  · have HP := Lib.hid (reqPut_long (q := q) hbig hcl hlong)
    have hm3 : 255 < max3 (q.topic.length : Int) (q.group.length : Int) (q.member.length : Int) := by
      have h1 := max3_le (q.topic.length : Int) (q.group.length : Int) (q.member.length : Int) 255
      rcases Int.lt_or_le 255 (max3 (q.topic.length : Int) (q.group.length : Int) (q.member.length : Int)) with h | h
      · exact h
      · exfalso; apply hlong; obtain ⟨g1, g2, g3⟩ := h1.1 h; omega
    clear hcl hlong hr
    refine calls_wd ?_
    go_enter Try.func50, Try.ntmps50
    go_wp2_with (first | (go_at_call 95; ((with_reducible refine (HAL.out _ (hR.out.more (more_wd _ _ _))).mono ?_); rintro e w1 ⟨rfl, x1, n1, rfl⟩)))
    exact bodyPost_ret (v := .tuple #[.slice none 0 0, .int .i64 5]) (by simp [results, Try.results50, go_sem]) rfl ⟨_, by rw [HP.out], by rw [HP.out]; exact bmade_nil _ _ _⟩
end Go.Proofs.Ytejokhgabcldhaa
