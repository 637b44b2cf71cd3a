/- script: PutStep (~script.PutStep). -/
import Derived.Test.YtejokhgabcldhaaMM
import Derived.Test.YtejokhgabcldhaaMN3
import Derived.Test.YtejokhgabcldhaaMQ
import Derived.Test.YtejokhgabcldhaaMA
namespace Go.Proofs.Ytejokhgabcldhaa
open Go.ChangeShapes Go.WideShapes Go.ChangeAt Go.RowKit
set_option linter.unusedVariables false
set_option linter.unusedSimpArgs false

set_option maxRecDepth 100000 in
set_option maxHeartbeats 3200000 in
theorem pst_big (s : Stp) (a : Option Addr) (cap : Nat) (f : Option Addr) (fc : Nat) (w : World) (ht : StpFit s) (hat : StpAt w s a f fc) (hb : 5 < s.kind) :
    Calls Try.prog 12 #[.agg (stp s a cap f fc)] w fun x w' => BRet w w' x (stpPut s).1 (stpPut s).2 := by
  have HP := Lib.hid (stpPut_big hb)
  have hb2 : (5 : Int) < (s.kind : Int) := by omega
  clear ht hat hb
  refine calls_wd ?_
  go_enter Try.func12, Try.ntmps12
  go_wp2
  exact bodyPost_ret (v := .tuple #[.slice none 0 0, .int .i64 2]) (by simp [results, Try.results12, go_sem]) rfl ⟨_, by rw [HP.out], by rw [HP.out]; exact bmade_nil _ _ _⟩
set_option maxRecDepth 100000 in
set_option maxHeartbeats 3200000 in
theorem pst_alien (s : Stp) (a : Option Addr) (cap : Nat) (f : Option Addr) (fc : Nat) (w : World) (ht : StpFit s) (hat : StpAt w s a f fc) (hb : ¬ 5 < s.kind) (ho : s ≠ stpOnly s) :
    Calls Try.prog 12 #[.agg (stp s a cap f fc)] w fun x w' => BRet w w' x (stpPut s).1 (stpPut s).2 := by
  have HP := Lib.hid (stpPut_alien hb ho)
  have hb2 : (s.kind : Int) ≤ 5 := by omega
  have HAT := Lib.hid hat
  have HON := Lib.hid (fun W => only_p s a cap f fc W)
  have hsm := fun W g1 g2 => same_stp s (stpOnly s) a (soA s a) cap (soC s cap) f (soF s f) fc (soD s fc) W g1 g2 ht.r (only_stp_len s ht.r)
  rw [decide_eq_false ho] at hsm
  have HSM := Lib.hid hsm
  clear hsm ht hat hb ho
  refine calls_wd ?_
  go_enter Try.func12, Try.ntmps12
  go_wp2
  refine wp_region_wd (by kernel_rfl) (by kernel_rfl) ?_
  repeat (go_big_quiet_step ((first | (go_at_call 49; with_reducible exact Calls.wd_of (HON.out _)) | (go_at_call 14; with_reducible exact Calls.wd_of (HSM.out _ (HAT.out.more (more_wd _ _ _)) (only_at (HAT.out.more (more_wd _ _ _))))))))
  refine wpQuiet_nil ?_
  rintro _ ⟨mx, rfl⟩
  go_wp2
  exact bodyPost_ret (v := .tuple #[.slice none 0 0, .int .i64 4]) (by simp [results, Try.results12, go_sem]) rfl ⟨_, by rw [HP.out], by rw [HP.out]; exact bmade_nil _ _ _⟩
set_option maxRecDepth 100000 in
set_option maxHeartbeats 3200000 in
theorem pst_long (s : Stp) (a : Option Addr) (cap : Nat) (f : Option Addr) (fc : Nat) (w : World) (ht : StpFit s) (hat : StpAt w s a f fc) (hb : ¬ 5 < s.kind) (ho : s = stpOnly s) (hl : 64 < s.fate.length) :
    Calls Try.prog 12 #[.agg (stp s a cap f fc)] w fun x w' => BRet w w' x (stpPut s).1 (stpPut s).2 := by
  have HP := Lib.hid (stpPut_long hb ho hl)
  have hl2 : 64 < (s.fate.length : Int) := by omega
  have hb2 : (s.kind : Int) ≤ 5 := by omega
  have HAT := Lib.hid hat
  have HON := Lib.hid (fun W => only_p s a cap f fc W)
  have hsm := fun W g1 g2 => same_stp s (stpOnly s) a (soA s a) cap (soC s cap) f (soF s f) fc (soD s fc) W g1 g2 ht.r (only_stp_len s ht.r)
  rw [decide_eq_true ho] at hsm
  have HSM := Lib.hid hsm
  clear hsm ht hat hb ho hl
  refine calls_wd ?_
  go_enter Try.func12, Try.ntmps12
  go_wp2
  refine wp_region_wd (by kernel_rfl) (by kernel_rfl) ?_
  repeat (go_big_quiet_step ((first | (go_at_call 49; with_reducible exact Calls.wd_of (HON.out _)) | (go_at_call 14; with_reducible exact Calls.wd_of (HSM.out _ (HAT.out.more (more_wd _ _ _)) (only_at (HAT.out.more (more_wd _ _ _))))))))
  refine wpQuiet_nil ?_
  rintro _ ⟨mx, rfl⟩
  go_wp2
  exact bodyPost_ret (v := .tuple #[.slice none 0 0, .int .i64 5]) (by simp [results, Try.results12, go_sem]) rfl ⟨_, by rw [HP.out], by rw [HP.out]; exact bmade_nil _ _ _⟩
set_option maxRecDepth 100000 in
set_option maxHeartbeats 3200000 in
theorem pst_no (s : Stp) (a : Option Addr) (cap : Nat) (f : Option Addr) (fc : Nat) (w : World) (ht : StpFit s) (hat : StpAt w s a f fc) (hb : ¬ 5 < s.kind) (ho : s = stpOnly s) (hl : ¬ 64 < s.fate.length) (h0 : s.kind = 0 ∧ (reqPut s.q).2 ≠ 0) :
    Calls Try.prog 12 #[.agg (stp s a cap f fc)] w fun x w' => BRet w w' x (stpPut s).1 (stpPut s).2 := by
  have HP := Lib.hid (stpPut_no hb ho hl h0)
  obtain ⟨hk, hne⟩ := h0
  have hl2 : (s.fate.length : Int) ≤ 64 := by omega
  have hb2 : (s.kind : Int) ≤ 5 := by omega
  have HAT := Lib.hid hat
  have HON := Lib.hid (fun W => only_p s a cap f fc W)
  have hsm := fun W g1 g2 => same_stp s (stpOnly s) a (soA s a) cap (soC s cap) f (soF s f) fc (soD s fc) W g1 g2 ht.r (only_stp_len s ht.r)
  rw [decide_eq_true ho] at hsm
  have HSM := Lib.hid hsm
  have m0 : ((s.kind : Int) == 0) = true := by rw [beq_iff_eq]; omega
  have n1 : ((s.kind : Int) == 1) = false := by rw [beq_eq_false_iff_ne]; omega
  have n2 : ((s.kind : Int) == 2) = false := by rw [beq_eq_false_iff_ne]; omega
  have n3 : ((s.kind : Int) == 3) = false := by rw [beq_eq_false_iff_ne]; omega
  have n4 : ((s.kind : Int) == 4) = false := by rw [beq_eq_false_iff_ne]; omega
  have n5 : ((s.kind : Int) == 5) = false := by rw [beq_eq_false_iff_ne]; omega
  have HRQ := Lib.hid (fun W h => putreq_any s.q a cap W ht.qk h ht.r ht.wf ht.t ht.g ht.m)
  obtain ⟨RP, hRP⟩ : ∃ RP, reqPut s.q = RP := ⟨_, rfl⟩
  rw [hRP] at HRQ HP hne
  clear hRP
  obtain ⟨rl, re⟩ := RP
  dsimp only at HRQ HP hne
  have hne2 : (re == 0) = false := by rw [beq_eq_false_iff_ne]; exact hne
  clear hsm ht hat hb ho hl hk
  refine calls_wd ?_
  go_enter Try.func12, Try.ntmps12
  go_wp2
  refine wp_region_wd (by kernel_rfl) (by kernel_rfl) ?_
  repeat (go_big_quiet_step ((first | (go_at_call 49; with_reducible exact Calls.wd_of (HON.out _)) | (go_at_call 14; with_reducible exact Calls.wd_of (HSM.out _ (HAT.out.more (more_wd _ _ _)) (only_at (HAT.out.more (more_wd _ _ _))))))))
  refine wpQuiet_nil ?_
  rintro _ ⟨mx, rfl⟩
  go_wp2_with (first | (go_at_call 50; ((with_reducible refine (HRQ.out _ (HAT.out.r.more (more_wd _ _ _))).mono ?_); rintro e w2 ⟨u9, rfl, hm9⟩; obtain ⟨p9, rfl, hs9⟩ := hm9.wd; clear hm9)))
  exact bodyPost_ret (v := .tuple #[.slice none 0 0, .int .i64 re]) (by simp [results, Try.results12, go_sem]) rfl ⟨_, by rw [HP.out], by rw [HP.out]; exact bmade_nil _ _ _⟩
set_option maxRecDepth 100000 in
set_option maxHeartbeats 3200000 in
theorem pst_ask (s : Stp) (a : Option Addr) (cap : Nat) (f : Option Addr) (fc : Nat) (w : World) (ht : StpFit s) (hat : StpAt w s a f fc) (hb : ¬ 5 < s.kind) (ho : s = stpOnly s) (hl : ¬ 64 < s.fate.length) (hk : s.kind = 0) (hz : (reqPut s.q).2 = 0) :
    Calls Try.prog 12 #[.agg (stp s a cap f fc)] w fun x w' => BRet w w' x (stpPut s).1 (stpPut s).2 := by
  have HP0 := stpPut_go hb ho hl (fun h => h.2 hz)
  have hrl := reqPut_len hz ht.wf
  have HP : Hid (stpPut s = (UInt8.ofNat s.kind :: (reqPut s.q).1, 0)) := Lib.hid (by rw [HP0]; unfold stpBody; rw [if_pos hk])
  have hl2 : (s.fate.length : Int) ≤ 64 := by omega
  have hb2 : (s.kind : Int) ≤ 5 := by omega
  have HAT := Lib.hid hat
  have HON := Lib.hid (fun W => only_p s a cap f fc W)
  have hsm := fun W g1 g2 => same_stp s (stpOnly s) a (soA s a) cap (soC s cap) f (soF s f) fc (soD s fc) W g1 g2 ht.r (only_stp_len s ht.r)
  rw [decide_eq_true ho] at hsm
  have HSM := Lib.hid hsm
  have m0 : ((s.kind : Int) == 0) = true := by rw [beq_iff_eq]; omega
  have n1 : ((s.kind : Int) == 1) = false := by rw [beq_eq_false_iff_ne]; omega
  have n2 : ((s.kind : Int) == 2) = false := by rw [beq_eq_false_iff_ne]; omega
  have n3 : ((s.kind : Int) == 3) = false := by rw [beq_eq_false_iff_ne]; omega
  have n4 : ((s.kind : Int) == 4) = false := by rw [beq_eq_false_iff_ne]; omega
  have n5 : ((s.kind : Int) == 5) = false := by rw [beq_eq_false_iff_ne]; omega
  have HRQ := Lib.hid (fun W h => putreq_any s.q a cap W ht.qk h ht.r ht.wf ht.t ht.g ht.m)
  obtain ⟨RP, hRP⟩ : ∃ RP, reqPut s.q = RP := ⟨_, rfl⟩
  rw [hRP] at HRQ HP hz hrl
  clear hRP HP0
  obtain ⟨rl, re⟩ := RP
  dsimp only at HRQ HP hz hrl
  subst hz
  have HK := Lib.hid ht.k
  clear hsm ht hat hb ho hk
  refine calls_wd ?_
  go_enter Try.func12, Try.ntmps12
  go_wp2
  refine wp_region_wd (by kernel_rfl) (by kernel_rfl) ?_
  repeat (go_big_quiet_step ((first | (go_at_call 49; with_reducible exact Calls.wd_of (HON.out _)) | (go_at_call 14; with_reducible exact Calls.wd_of (HSM.out _ (HAT.out.more (more_wd _ _ _)) (only_at (HAT.out.more (more_wd _ _ _))))))))
  refine wpQuiet_nil ?_
  rintro _ ⟨mx, rfl⟩
  go_wp2_with (first
    | (go_at_call 50; ((with_reducible refine (HRQ.out _ (HAT.out.r.more (more_wd _ _ _))).mono ?_); rintro e w2 ⟨u9, rfl, hm9⟩; obtain ⟨p9, rfl, hs9⟩ := hm9.wd; clear hm9))
    | (at_builtin; refine at_append rfl _ _ rfl rfl (brow_lit w [mx.e, #[.cells (stp s a cap f fc) 36]] (s.kind : Nat) (UInt8.ofNat s.kind) (by rw [u8_toNat _ HK.out])) rfl hs9 (by simp only [List.length_cons, List.length_nil]; omega) ?_; clear hs9; intro v1 m1 hr1))
  exact bodyPost_ret (v := .tuple #[v1, .int .i64 0]) (by simp [results, Try.results12, go_sem]) rfl ⟨_, by rw [HP.out], by rw [HP.out]; exact bown_made (bown_of hr1)⟩
set_option maxRecDepth 100000 in
set_option maxHeartbeats 3200000 in
theorem pst_num1 (s : Stp) (a : Option Addr) (cap : Nat) (f : Option Addr) (fc : Nat) (w : World) (ht : StpFit s) (hat : StpAt w s a f fc) (hb : ¬ 5 < s.kind) (ho : s = stpOnly s) (hl : ¬ 64 < s.fate.length) (hk : s.kind = 1) :
    Calls Try.prog 12 #[.agg (stp s a cap f fc)] w fun x w' => BRet w w' x (stpPut s).1 (stpPut s).2 := by
  have HP0 := stpPut_go hb ho hl (fun h => by omega)
  have HP : Hid (stpPut s = (UInt8.ofNat s.kind :: (put s.n), 0)) := Lib.hid (by rw [HP0]; unfold stpBody; rw [if_neg (by omega), if_pos (by omega)])
  have hl2 : (s.fate.length : Int) ≤ 64 := by omega
  have hb2 : (s.kind : Int) ≤ 5 := by omega
  have HAT := Lib.hid hat
  have HON := Lib.hid (fun W => only_p s a cap f fc W)
  have hsm := fun W g1 g2 => same_stp s (stpOnly s) a (soA s a) cap (soC s cap) f (soF s f) fc (soD s fc) W g1 g2 ht.r (only_stp_len s ht.r)
  rw [decide_eq_true ho] at hsm
  have HSM := Lib.hid hsm
  have m1 : ((s.kind : Int) == 1) = true := by rw [beq_iff_eq]; omega
  have n0 : ((s.kind : Int) == 0) = false := by rw [beq_eq_false_iff_ne]; omega
  have n2 : ((s.kind : Int) == 2) = false := by rw [beq_eq_false_iff_ne]; omega
  have n3 : ((s.kind : Int) == 3) = false := by rw [beq_eq_false_iff_ne]; omega
  have n4 : ((s.kind : Int) == 4) = false := by rw [beq_eq_false_iff_ne]; omega
  have n5 : ((s.kind : Int) == 5) = false := by rw [beq_eq_false_iff_ne]; omega
  have HK := Lib.hid ht.k
  obtain ⟨i1, i2⟩ := ht.n
  have hpl := put_len i1 i2
  clear hsm ht hat hb ho hk HP0
  refine calls_wd ?_
  go_enter Try.func12, Try.ntmps12
  go_wp2
  refine wp_region_wd (by kernel_rfl) (by kernel_rfl) ?_
  repeat (go_big_quiet_step ((first | (go_at_call 49; with_reducible exact Calls.wd_of (HON.out _)) | (go_at_call 14; with_reducible exact Calls.wd_of (HSM.out _ (HAT.out.more (more_wd _ _ _)) (only_at (HAT.out.more (more_wd _ _ _))))))))
  refine wpQuiet_nil ?_
  rintro _ ⟨mx, rfl⟩
  go_wp2_with (first
    | (go_at_call 51; ((with_reducible refine (put_any s.n i1 i2 _).mono ?_); rintro e w1 ⟨u9, rfl, x1⟩; obtain ⟨p9, rfl, hs9⟩ := x1.wd; clear x1))
    | (at_builtin; refine at_append rfl _ _ rfl rfl (brow_lit w [mx.e, #[.cells (stp s a cap f fc) 36]] (s.kind : Nat) (UInt8.ofNat s.kind) (by rw [u8_toNat _ HK.out])) rfl hs9 (by simp only [List.length_cons, List.length_nil]; omega) ?_; clear hs9; intro v1 m1 hr1))
  exact bodyPost_ret (v := .tuple #[v1, .int .i64 0]) (by simp [results, Try.results12, go_sem]) rfl ⟨_, by rw [HP.out], by rw [HP.out]; exact bown_made (bown_of hr1)⟩
set_option maxRecDepth 100000 in
set_option maxHeartbeats 3200000 in
theorem pst_num2 (s : Stp) (a : Option Addr) (cap : Nat) (f : Option Addr) (fc : Nat) (w : World) (ht : StpFit s) (hat : StpAt w s a f fc) (hb : ¬ 5 < s.kind) (ho : s = stpOnly s) (hl : ¬ 64 < s.fate.length) (hk : s.kind = 2) :
    Calls Try.prog 12 #[.agg (stp s a cap f fc)] w fun x w' => BRet w w' x (stpPut s).1 (stpPut s).2 := by
  have HP0 := stpPut_go hb ho hl (fun h => by omega)
  have HP : Hid (stpPut s = (UInt8.ofNat s.kind :: (put s.n), 0)) := Lib.hid (by rw [HP0]; unfold stpBody; rw [if_neg (by omega), if_pos (by omega)])
  have hl2 : (s.fate.length : Int) ≤ 64 := by omega
  have hb2 : (s.kind : Int) ≤ 5 := by omega
  have HAT := Lib.hid hat
  have HON := Lib.hid (fun W => only_p s a cap f fc W)
  have hsm := fun W g1 g2 => same_stp s (stpOnly s) a (soA s a) cap (soC s cap) f (soF s f) fc (soD s fc) W g1 g2 ht.r (only_stp_len s ht.r)
  rw [decide_eq_true ho] at hsm
  have HSM := Lib.hid hsm
  have m2 : ((s.kind : Int) == 2) = true := by rw [beq_iff_eq]; omega
  have n0 : ((s.kind : Int) == 0) = false := by rw [beq_eq_false_iff_ne]; omega
  have n1 : ((s.kind : Int) == 1) = false := by rw [beq_eq_false_iff_ne]; omega
  have n3 : ((s.kind : Int) == 3) = false := by rw [beq_eq_false_iff_ne]; omega
  have n4 : ((s.kind : Int) == 4) = false := by rw [beq_eq_false_iff_ne]; omega
  have n5 : ((s.kind : Int) == 5) = false := by rw [beq_eq_false_iff_ne]; omega
  have HK := Lib.hid ht.k
  obtain ⟨i1, i2⟩ := ht.n
  have hpl := put_len i1 i2
  clear hsm ht hat hb ho hk HP0
  refine calls_wd ?_
  go_enter Try.func12, Try.ntmps12
  go_wp2
  refine wp_region_wd (by kernel_rfl) (by kernel_rfl) ?_
  repeat (go_big_quiet_step ((first | (go_at_call 49; with_reducible exact Calls.wd_of (HON.out _)) | (go_at_call 14; with_reducible exact Calls.wd_of (HSM.out _ (HAT.out.more (more_wd _ _ _)) (only_at (HAT.out.more (more_wd _ _ _))))))))
  refine wpQuiet_nil ?_
  rintro _ ⟨mx, rfl⟩
  go_wp2_with (first
    | (go_at_call 51; ((with_reducible refine (put_any s.n i1 i2 _).mono ?_); rintro e w1 ⟨u9, rfl, x1⟩; obtain ⟨p9, rfl, hs9⟩ := x1.wd; clear x1))
    | (at_builtin; refine at_append rfl _ _ rfl rfl (brow_lit w [mx.e, #[.cells (stp s a cap f fc) 36]] (s.kind : Nat) (UInt8.ofNat s.kind) (by rw [u8_toNat _ HK.out])) rfl hs9 (by simp only [List.length_cons, List.length_nil]; omega) ?_; clear hs9; intro v1 m1 hr1))
  exact bodyPost_ret (v := .tuple #[v1, .int .i64 0]) (by simp [results, Try.results12, go_sem]) rfl ⟨_, by rw [HP.out], by rw [HP.out]; exact bown_made (bown_of hr1)⟩
set_option maxRecDepth 100000 in
set_option maxHeartbeats 3200000 in
theorem pst_rest4 (s : Stp) (a : Option Addr) (cap : Nat) (f : Option Addr) (fc : Nat) (w : World) (ht : StpFit s) (hat : StpAt w s a f fc) (hb : ¬ 5 < s.kind) (ho : s = stpOnly s) (hl : ¬ 64 < s.fate.length) (hk : s.kind = 4) :
    Calls Try.prog 12 #[.agg (stp s a cap f fc)] w fun x w' => BRet w w' x (stpPut s).1 (stpPut s).2 := by
  have HP0 := stpPut_go hb ho hl (fun h => by omega)
  have HP : Hid (stpPut s = (UInt8.ofNat s.kind :: s.fate, 0)) := Lib.hid (by rw [HP0]; unfold stpBody; rw [if_neg (by omega), if_neg (by omega), if_neg (by omega)])
  have hl2 : (s.fate.length : Int) ≤ 64 := by omega
  have hb2 : (s.kind : Int) ≤ 5 := by omega
  have HAT := Lib.hid hat
  have HON := Lib.hid (fun W => only_p s a cap f fc W)
  have hsm := fun W g1 g2 => same_stp s (stpOnly s) a (soA s a) cap (soC s cap) f (soF s f) fc (soD s fc) W g1 g2 ht.r (only_stp_len s ht.r)
  rw [decide_eq_true ho] at hsm
  have HSM := Lib.hid hsm
  have m4 : ((s.kind : Int) == 4) = true := by rw [beq_iff_eq]; omega
  have n0 : ((s.kind : Int) == 0) = false := by rw [beq_eq_false_iff_ne]; omega
  have n1 : ((s.kind : Int) == 1) = false := by rw [beq_eq_false_iff_ne]; omega
  have n2 : ((s.kind : Int) == 2) = false := by rw [beq_eq_false_iff_ne]; omega
  have n3 : ((s.kind : Int) == 3) = false := by rw [beq_eq_false_iff_ne]; omega
  have n5 : ((s.kind : Int) == 5) = false := by rw [beq_eq_false_iff_ne]; omega
  have HK := Lib.hid ht.k
  clear hsm ht hat hb ho hk HP0
  refine calls_wd ?_
  go_enter Try.func12, Try.ntmps12
  go_wp2
  refine wp_region_wd (by kernel_rfl) (by kernel_rfl) ?_
  repeat (go_big_quiet_step ((first | (go_at_call 49; with_reducible exact Calls.wd_of (HON.out _)) | (go_at_call 14; with_reducible exact Calls.wd_of (HSM.out _ (HAT.out.more (more_wd _ _ _)) (only_at (HAT.out.more (more_wd _ _ _))))))))
  refine wpQuiet_nil ?_
  rintro _ ⟨mx, rfl⟩
  go_wp2_with (first
    | (at_builtin; refine at_append_rb rfl _ _ rfl rfl (brow_lit w [mx.e, #[.cells (stp s a cap f fc) 36]] (s.kind : Nat) (UInt8.ofNat s.kind) (by rw [u8_toNat _ HK.out])) rfl (HAT.out.f.more (more_wd w _ _)) (by simp only [List.length_cons, List.length_nil]; omega) ?_; intro v1 m1 hr1))
  exact bodyPost_ret (v := .tuple #[v1, .int .i64 0]) (by simp [results, Try.results12, go_sem]) rfl ⟨_, by rw [HP.out], by rw [HP.out]; exact bown_made (bown_of hr1)⟩
set_option maxRecDepth 100000 in
set_option maxHeartbeats 3200000 in
theorem pst_rest5 (s : Stp) (a : Option Addr) (cap : Nat) (f : Option Addr) (fc : Nat) (w : World) (ht : StpFit s) (hat : StpAt w s a f fc) (hb : ¬ 5 < s.kind) (ho : s = stpOnly s) (hl : ¬ 64 < s.fate.length) (hk : s.kind = 5) :
    Calls Try.prog 12 #[.agg (stp s a cap f fc)] w fun x w' => BRet w w' x (stpPut s).1 (stpPut s).2 := by
  have HP0 := stpPut_go hb ho hl (fun h => by omega)
  have HP : Hid (stpPut s = (UInt8.ofNat s.kind :: s.fate, 0)) := Lib.hid (by rw [HP0]; unfold stpBody; rw [if_neg (by omega), if_neg (by omega), if_neg (by omega)])
  have hl2 : (s.fate.length : Int) ≤ 64 := by omega
  have hb2 : (s.kind : Int) ≤ 5 := by omega
  have HAT := Lib.hid hat
  have HON := Lib.hid (fun W => only_p s a cap f fc W)
  have hsm := fun W g1 g2 => same_stp s (stpOnly s) a (soA s a) cap (soC s cap) f (soF s f) fc (soD s fc) W g1 g2 ht.r (only_stp_len s ht.r)
  rw [decide_eq_true ho] at hsm
  have HSM := Lib.hid hsm
  have m5 : ((s.kind : Int) == 5) = true := by rw [beq_iff_eq]; omega
  have n0 : ((s.kind : Int) == 0) = false := by rw [beq_eq_false_iff_ne]; omega
  have n1 : ((s.kind : Int) == 1) = false := by rw [beq_eq_false_iff_ne]; omega
  have n2 : ((s.kind : Int) == 2) = false := by rw [beq_eq_false_iff_ne]; omega
  have n3 : ((s.kind : Int) == 3) = false := by rw [beq_eq_false_iff_ne]; omega
  have n4 : ((s.kind : Int) == 4) = false := by rw [beq_eq_false_iff_ne]; omega
  have HK := Lib.hid ht.k
  clear hsm ht hat hb ho hk HP0
  refine calls_wd ?_
  go_enter Try.func12, Try.ntmps12
  go_wp2
  refine wp_region_wd (by kernel_rfl) (by kernel_rfl) ?_
  repeat (go_big_quiet_step ((first | (go_at_call 49; with_reducible exact Calls.wd_of (HON.out _)) | (go_at_call 14; with_reducible exact Calls.wd_of (HSM.out _ (HAT.out.more (more_wd _ _ _)) (only_at (HAT.out.more (more_wd _ _ _))))))))
  refine wpQuiet_nil ?_
  rintro _ ⟨mx, rfl⟩
  go_wp2_with (first
    | (at_builtin; refine at_append_rb rfl _ _ rfl rfl (brow_lit w [mx.e, #[.cells (stp s a cap f fc) 36]] (s.kind : Nat) (UInt8.ofNat s.kind) (by rw [u8_toNat _ HK.out])) rfl (HAT.out.f.more (more_wd w _ _)) (by simp only [List.length_cons, List.length_nil]; omega) ?_; intro v1 m1 hr1))
  exact bodyPost_ret (v := .tuple #[v1, .int .i64 0]) (by simp [results, Try.results12, go_sem]) rfl ⟨_, by rw [HP.out], by rw [HP.out]; exact bown_made (bown_of hr1)⟩
end Go.Proofs.Ytejokhgabcldhaa
/- script: PutStep (~bilanderref27.PutStep). -/
namespace Go.Proofs.Ytejokhgabcldhaa
open Go.ChangeShapes Go.WideShapes Go.ChangeAt Go.RowKit
set_option linter.unusedVariables false
set_option linter.unusedSimpArgs false

set_option maxRecDepth 100000 in
set_option maxHeartbeats 3200000 in
theorem rst_big (s : Stp) (a : Option Addr) (cap : Nat) (f : Option Addr) (fc : Nat) (w : World) (ht : StpFit s) (hat : StpAt w s a f fc) (hb : 5 < s.kind) :
    Calls Try.prog 13 #[.agg (stp s a cap f fc)] w fun x w' => BRet w w' x (stpPut s).1 (stpPut s).2 := by
  have HP := Lib.hid (stpPut_big hb)
  have hb2 : (5 : Int) < (s.kind : Int) := by omega
  clear ht hat hb
  refine calls_wd ?_
  go_enter Try.func13, Try.ntmps13
  go_wp2
  exact bodyPost_ret (v := .tuple #[.slice none 0 0, .int .i64 2]) (by simp [results, Try.results13, go_sem]) rfl ⟨_, by rw [HP.out], by rw [HP.out]; exact bmade_nil _ _ _⟩
set_option maxRecDepth 100000 in
set_option maxHeartbeats 3200000 in
theorem rst_alien (s : Stp) (a : Option Addr) (cap : Nat) (f : Option Addr) (fc : Nat) (w : World) (ht : StpFit s) (hat : StpAt w s a f fc) (hb : ¬ 5 < s.kind) (ho : s ≠ stpOnly s) :
    Calls Try.prog 13 #[.agg (stp s a cap f fc)] w fun x w' => BRet w w' x (stpPut s).1 (stpPut s).2 := by
  have HP := Lib.hid (stpPut_alien hb ho)
  have hb2 : (s.kind : Int) ≤ 5 := by omega
  have HAT := Lib.hid hat
  have HON := Lib.hid (fun W => only_r s a cap f fc W)
  have hsm := fun W g1 g2 => rsame_stp s (stpOnly s) a (soA s a) cap (soC s cap) f (soF s f) fc (soD s fc) W g1 g2 ht.r (only_stp_len s ht.r)
  rw [decide_eq_false ho] at hsm
  have HSM := Lib.hid hsm
  clear hsm ht hat hb ho
  refine calls_wd ?_
  go_enter Try.func13, Try.ntmps13
  go_wp2
  refine wp_region_wd (by kernel_rfl) (by kernel_rfl) ?_
  repeat (go_big_quiet_step ((first | (go_at_call 53; with_reducible exact Calls.wd_of (HON.out _)) | (go_at_call 15; with_reducible exact Calls.wd_of (HSM.out _ (HAT.out.more (more_wd _ _ _)) (only_at (HAT.out.more (more_wd _ _ _))))))))
  refine wpQuiet_nil ?_
  rintro _ ⟨mx, rfl⟩
  go_wp2
  exact bodyPost_ret (v := .tuple #[.slice none 0 0, .int .i64 4]) (by simp [results, Try.results13, go_sem]) rfl ⟨_, by rw [HP.out], by rw [HP.out]; exact bmade_nil _ _ _⟩
set_option maxRecDepth 100000 in
set_option maxHeartbeats 3200000 in
theorem rst_long (s : Stp) (a : Option Addr) (cap : Nat) (f : Option Addr) (fc : Nat) (w : World) (ht : StpFit s) (hat : StpAt w s a f fc) (hb : ¬ 5 < s.kind) (ho : s = stpOnly s) (hl : 64 < s.fate.length) :
    Calls Try.prog 13 #[.agg (stp s a cap f fc)] w fun x w' => BRet w w' x (stpPut s).1 (stpPut s).2 := by
  have HP := Lib.hid (stpPut_long hb ho hl)
  have hl2 : 64 < (s.fate.length : Int) := by omega
  have hb2 : (s.kind : Int) ≤ 5 := by omega
  have HAT := Lib.hid hat
  have HON := Lib.hid (fun W => only_r s a cap f fc W)
  have hsm := fun W g1 g2 => rsame_stp s (stpOnly s) a (soA s a) cap (soC s cap) f (soF s f) fc (soD s fc) W g1 g2 ht.r (only_stp_len s ht.r)
  rw [decide_eq_true ho] at hsm
  have HSM := Lib.hid hsm
  clear hsm ht hat hb ho hl
  refine calls_wd ?_
  go_enter Try.func13, Try.ntmps13
  go_wp2
  refine wp_region_wd (by kernel_rfl) (by kernel_rfl) ?_
  repeat (go_big_quiet_step ((first | (go_at_call 53; with_reducible exact Calls.wd_of (HON.out _)) | (go_at_call 15; with_reducible exact Calls.wd_of (HSM.out _ (HAT.out.more (more_wd _ _ _)) (only_at (HAT.out.more (more_wd _ _ _))))))))
  refine wpQuiet_nil ?_
  rintro _ ⟨mx, rfl⟩
  go_wp2
  exact bodyPost_ret (v := .tuple #[.slice none 0 0, .int .i64 5]) (by simp [results, Try.results13, go_sem]) rfl ⟨_, by rw [HP.out], by rw [HP.out]; exact bmade_nil _ _ _⟩
set_option maxRecDepth 100000 in
set_option maxHeartbeats 3200000 in
theorem rst_no (s : Stp) (a : Option Addr) (cap : Nat) (f : Option Addr) (fc : Nat) (w : World) (ht : StpFit s) (hat : StpAt w s a f fc) (hb : ¬ 5 < s.kind) (ho : s = stpOnly s) (hl : ¬ 64 < s.fate.length) (h0 : s.kind = 0 ∧ (reqPut s.q).2 ≠ 0) :
    Calls Try.prog 13 #[.agg (stp s a cap f fc)] w fun x w' => BRet w w' x (stpPut s).1 (stpPut s).2 := by
  have HP := Lib.hid (stpPut_no hb ho hl h0)
  obtain ⟨hk, hne⟩ := h0
  have hl2 : (s.fate.length : Int) ≤ 64 := by omega
  have hb2 : (s.kind : Int) ≤ 5 := by omega
  have HAT := Lib.hid hat
  have HON := Lib.hid (fun W => only_r s a cap f fc W)
  have hsm := fun W g1 g2 => rsame_stp s (stpOnly s) a (soA s a) cap (soC s cap) f (soF s f) fc (soD s fc) W g1 g2 ht.r (only_stp_len s ht.r)
  rw [decide_eq_true ho] at hsm
  have HSM := Lib.hid hsm
  have m0 : ((s.kind : Int) == 0) = true := by rw [beq_iff_eq]; omega
  have n1 : ((s.kind : Int) == 1) = false := by rw [beq_eq_false_iff_ne]; omega
  have n2 : ((s.kind : Int) == 2) = false := by rw [beq_eq_false_iff_ne]; omega
  have n3 : ((s.kind : Int) == 3) = false := by rw [beq_eq_false_iff_ne]; omega
  have n4 : ((s.kind : Int) == 4) = false := by rw [beq_eq_false_iff_ne]; omega
  have n5 : ((s.kind : Int) == 5) = false := by rw [beq_eq_false_iff_ne]; omega
  have HRQ := Lib.hid (fun W h => rreq_any s.q a cap W ht.qk h ht.r ht.wf ht.t ht.g ht.m)
  obtain ⟨RP, hRP⟩ : ∃ RP, reqPut s.q = RP := ⟨_, rfl⟩
  rw [hRP] at HRQ HP hne
  clear hRP
  obtain ⟨rl, re⟩ := RP
  dsimp only at HRQ HP hne
  have hne2 : (re == 0) = false := by rw [beq_eq_false_iff_ne]; exact hne
  clear hsm ht hat hb ho hl hk
  refine calls_wd ?_
  go_enter Try.func13, Try.ntmps13
  go_wp2
  refine wp_region_wd (by kernel_rfl) (by kernel_rfl) ?_
  repeat (go_big_quiet_step ((first | (go_at_call 53; with_reducible exact Calls.wd_of (HON.out _)) | (go_at_call 15; with_reducible exact Calls.wd_of (HSM.out _ (HAT.out.more (more_wd _ _ _)) (only_at (HAT.out.more (more_wd _ _ _))))))))
  refine wpQuiet_nil ?_
  rintro _ ⟨mx, rfl⟩
  go_wp2_with (first | (go_at_call 54; ((with_reducible refine (HRQ.out _ (HAT.out.r.more (more_wd _ _ _))).mono ?_); rintro e w2 ⟨u9, rfl, hm9⟩; obtain ⟨p9, rfl, hs9⟩ := hm9.wd; clear hm9)))
  exact bodyPost_ret (v := .tuple #[.slice none 0 0, .int .i64 re]) (by simp [results, Try.results13, go_sem]) rfl ⟨_, by rw [HP.out], by rw [HP.out]; exact bmade_nil _ _ _⟩
set_option maxRecDepth 100000 in
set_option maxHeartbeats 3200000 in
theorem rst_ask (s : Stp) (a : Option Addr) (cap : Nat) (f : Option Addr) (fc : Nat) (w : World) (ht : StpFit s) (hat : StpAt w s a f fc) (hb : ¬ 5 < s.kind) (ho : s = stpOnly s) (hl : ¬ 64 < s.fate.length) (hk : s.kind = 0) (hz : (reqPut s.q).2 = 0) :
    Calls Try.prog 13 #[.agg (stp s a cap f fc)] w fun x w' => BRet w w' x (stpPut s).1 (stpPut s).2 := by
  have HP0 := stpPut_go hb ho hl (fun h => h.2 hz)
  have hrl := reqPut_len hz ht.wf
  have HP : Hid (stpPut s = (UInt8.ofNat s.kind :: ((reqPut s.q).1 ++ s.fate), 0)) := Lib.hid (by rw [HP0, only_fate ho (by omega), List.append_nil]; unfold stpBody; rw [if_pos hk])
  have hl2 : (s.fate.length : Int) ≤ 64 := by omega
  have hb2 : (s.kind : Int) ≤ 5 := by omega
  have HAT := Lib.hid hat
  have HON := Lib.hid (fun W => only_r s a cap f fc W)
  have hsm := fun W g1 g2 => rsame_stp s (stpOnly s) a (soA s a) cap (soC s cap) f (soF s f) fc (soD s fc) W g1 g2 ht.r (only_stp_len s ht.r)
  rw [decide_eq_true ho] at hsm
  have HSM := Lib.hid hsm
  have m0 : ((s.kind : Int) == 0) = true := by rw [beq_iff_eq]; omega
  have n1 : ((s.kind : Int) == 1) = false := by rw [beq_eq_false_iff_ne]; omega
  have n2 : ((s.kind : Int) == 2) = false := by rw [beq_eq_false_iff_ne]; omega
  have n3 : ((s.kind : Int) == 3) = false := by rw [beq_eq_false_iff_ne]; omega
  have n4 : ((s.kind : Int) == 4) = false := by rw [beq_eq_false_iff_ne]; omega
  have n5 : ((s.kind : Int) == 5) = false := by rw [beq_eq_false_iff_ne]; omega
  have HRQ := Lib.hid (fun W h => rreq_any s.q a cap W ht.qk h ht.r ht.wf ht.t ht.g ht.m)
  obtain ⟨RP, hRP⟩ : ∃ RP, reqPut s.q = RP := ⟨_, rfl⟩
  rw [hRP] at HRQ HP hz hrl
  clear hRP HP0
  obtain ⟨rl, re⟩ := RP
  dsimp only at HRQ HP hz hrl
  subst hz
  have HK := Lib.hid ht.k
  clear hsm ht hat hb ho hk
  refine calls_wd ?_
  go_enter Try.func13, Try.ntmps13
  go_wp2
  refine wp_region_wd (by kernel_rfl) (by kernel_rfl) ?_
  repeat (go_big_quiet_step ((first | (go_at_call 53; with_reducible exact Calls.wd_of (HON.out _)) | (go_at_call 15; with_reducible exact Calls.wd_of (HSM.out _ (HAT.out.more (more_wd _ _ _)) (only_at (HAT.out.more (more_wd _ _ _))))))))
  refine wpQuiet_nil ?_
  rintro _ ⟨mx, rfl⟩
  go_wp2_with (first
    | (go_at_call 54; ((with_reducible refine (HRQ.out _ (HAT.out.r.more (more_wd _ _ _))).mono ?_); rintro e w2 ⟨u9, rfl, hm9⟩; obtain ⟨p9, rfl, hs9⟩ := hm9.wd; clear hm9))
    | (at_builtin; refine at_append rfl _ _ rfl rfl (brow_lit w [mx.e, #[.cells (stp s a cap f fc) 30]] (s.kind : Nat) (UInt8.ofNat s.kind) (by rw [u8_toNat _ HK.out])) rfl hs9 (by simp only [List.length_cons, List.length_nil]; omega) ?_; clear hs9; intro v1 m1 hr1)
    | (at_builtin; refine at_append_rb rfl _ _ rfl rfl hr1 rfl ((HAT.out.f.more (more_wd w _ _))) (by simp only [List.length_append, List.length_cons, List.length_nil]; omega) ?_; clear hr1; intro v2 m2 hr2))
  exact bodyPost_ret (v := .tuple #[v2, .int .i64 0]) (by simp [results, Try.results13, go_sem]) rfl ⟨_, by rw [HP.out], by rw [HP.out]; exact bown_made (bown_of hr2)⟩
set_option maxRecDepth 100000 in
set_option maxHeartbeats 3200000 in
theorem rst_num1 (s : Stp) (a : Option Addr) (cap : Nat) (f : Option Addr) (fc : Nat) (w : World) (ht : StpFit s) (hat : StpAt w s a f fc) (hb : ¬ 5 < s.kind) (ho : s = stpOnly s) (hl : ¬ 64 < s.fate.length) (hk : s.kind = 1) :
    Calls Try.prog 13 #[.agg (stp s a cap f fc)] w fun x w' => BRet w w' x (stpPut s).1 (stpPut s).2 := by
  have HP0 := stpPut_go hb ho hl (fun h => by omega)
  have HP : Hid (stpPut s = (UInt8.ofNat s.kind :: (put s.n ++ s.fate), 0)) := Lib.hid (by rw [HP0, only_fate ho (by omega), List.append_nil]; unfold stpBody; rw [if_neg (by omega), if_pos (by omega)])
  have hl2 : (s.fate.length : Int) ≤ 64 := by omega
  have hb2 : (s.kind : Int) ≤ 5 := by omega
  have HAT := Lib.hid hat
  have HON := Lib.hid (fun W => only_r s a cap f fc W)
  have hsm := fun W g1 g2 => rsame_stp s (stpOnly s) a (soA s a) cap (soC s cap) f (soF s f) fc (soD s fc) W g1 g2 ht.r (only_stp_len s ht.r)
  rw [decide_eq_true ho] at hsm
  have HSM := Lib.hid hsm
  have m1 : ((s.kind : Int) == 1) = true := by rw [beq_iff_eq]; omega
  have n0 : ((s.kind : Int) == 0) = false := by rw [beq_eq_false_iff_ne]; omega
  have n2 : ((s.kind : Int) == 2) = false := by rw [beq_eq_false_iff_ne]; omega
  have n3 : ((s.kind : Int) == 3) = false := by rw [beq_eq_false_iff_ne]; omega
  have n4 : ((s.kind : Int) == 4) = false := by rw [beq_eq_false_iff_ne]; omega
  have n5 : ((s.kind : Int) == 5) = false := by rw [beq_eq_false_iff_ne]; omega
  have HK := Lib.hid ht.k
  obtain ⟨i1, i2⟩ := ht.n
  have hpl := put_len i1 i2
  clear hsm ht hat hb ho hk HP0
  refine calls_wd ?_
  go_enter Try.func13, Try.ntmps13
  go_wp2
  refine wp_region_wd (by kernel_rfl) (by kernel_rfl) ?_
  repeat (go_big_quiet_step ((first | (go_at_call 53; with_reducible exact Calls.wd_of (HON.out _)) | (go_at_call 15; with_reducible exact Calls.wd_of (HSM.out _ (HAT.out.more (more_wd _ _ _)) (only_at (HAT.out.more (more_wd _ _ _))))))))
  refine wpQuiet_nil ?_
  rintro _ ⟨mx, rfl⟩
  go_wp2_with (first
    | (go_at_call 55; ((with_reducible refine (rput_any s.n i1 i2 _).mono ?_); rintro e w1 ⟨u9, rfl, x1⟩; obtain ⟨p9, rfl, hs9⟩ := x1.wd; clear x1))
    | (at_builtin; refine at_append rfl _ _ rfl rfl (brow_lit w [mx.e, #[.cells (stp s a cap f fc) 30]] (s.kind : Nat) (UInt8.ofNat s.kind) (by rw [u8_toNat _ HK.out])) rfl hs9 (by simp only [List.length_cons, List.length_nil]; omega) ?_; clear hs9; intro v1 m1 hr1)
    | (at_builtin; refine at_append_rb rfl _ _ rfl rfl hr1 rfl ((HAT.out.f.more (more_wd w _ _))) (by simp only [List.length_append, List.length_cons, List.length_nil]; omega) ?_; clear hr1; intro v2 m2 hr2))
  exact bodyPost_ret (v := .tuple #[v2, .int .i64 0]) (by simp [results, Try.results13, go_sem]) rfl ⟨_, by rw [HP.out], by rw [HP.out]; exact bown_made (bown_of hr2)⟩
set_option maxRecDepth 100000 in
set_option maxHeartbeats 3200000 in
theorem rst_num2 (s : Stp) (a : Option Addr) (cap : Nat) (f : Option Addr) (fc : Nat) (w : World) (ht : StpFit s) (hat : StpAt w s a f fc) (hb : ¬ 5 < s.kind) (ho : s = stpOnly s) (hl : ¬ 64 < s.fate.length) (hk : s.kind = 2) :
    Calls Try.prog 13 #[.agg (stp s a cap f fc)] w fun x w' => BRet w w' x (stpPut s).1 (stpPut s).2 := by
  have HP0 := stpPut_go hb ho hl (fun h => by omega)
  have HP : Hid (stpPut s = (UInt8.ofNat s.kind :: (put s.n ++ s.fate), 0)) := Lib.hid (by rw [HP0, only_fate ho (by omega), List.append_nil]; unfold stpBody; rw [if_neg (by omega), if_pos (by omega)])
  have hl2 : (s.fate.length : Int) ≤ 64 := by omega
  have hb2 : (s.kind : Int) ≤ 5 := by omega
  have HAT := Lib.hid hat
  have HON := Lib.hid (fun W => only_r s a cap f fc W)
  have hsm := fun W g1 g2 => rsame_stp s (stpOnly s) a (soA s a) cap (soC s cap) f (soF s f) fc (soD s fc) W g1 g2 ht.r (only_stp_len s ht.r)
  rw [decide_eq_true ho] at hsm
  have HSM := Lib.hid hsm
  have m2 : ((s.kind : Int) == 2) = true := by rw [beq_iff_eq]; omega
  have n0 : ((s.kind : Int) == 0) = false := by rw [beq_eq_false_iff_ne]; omega
  have n1 : ((s.kind : Int) == 1) = false := by rw [beq_eq_false_iff_ne]; omega
  have n3 : ((s.kind : Int) == 3) = false := by rw [beq_eq_false_iff_ne]; omega
  have n4 : ((s.kind : Int) == 4) = false := by rw [beq_eq_false_iff_ne]; omega
  have n5 : ((s.kind : Int) == 5) = false := by rw [beq_eq_false_iff_ne]; omega
  have HK := Lib.hid ht.k
  obtain ⟨i1, i2⟩ := ht.n
  have hpl := put_len i1 i2
  clear hsm ht hat hb ho hk HP0
  refine calls_wd ?_
  go_enter Try.func13, Try.ntmps13
  go_wp2
  refine wp_region_wd (by kernel_rfl) (by kernel_rfl) ?_
  repeat (go_big_quiet_step ((first | (go_at_call 53; with_reducible exact Calls.wd_of (HON.out _)) | (go_at_call 15; with_reducible exact Calls.wd_of (HSM.out _ (HAT.out.more (more_wd _ _ _)) (only_at (HAT.out.more (more_wd _ _ _))))))))
  refine wpQuiet_nil ?_
  rintro _ ⟨mx, rfl⟩
  go_wp2_with (first
    | (go_at_call 55; ((with_reducible refine (rput_any s.n i1 i2 _).mono ?_); rintro e w1 ⟨u9, rfl, x1⟩; obtain ⟨p9, rfl, hs9⟩ := x1.wd; clear x1))
    | (at_builtin; refine at_append rfl _ _ rfl rfl (brow_lit w [mx.e, #[.cells (stp s a cap f fc) 30]] (s.kind : Nat) (UInt8.ofNat s.kind) (by rw [u8_toNat _ HK.out])) rfl hs9 (by simp only [List.length_cons, List.length_nil]; omega) ?_; clear hs9; intro v1 m1 hr1)
    | (at_builtin; refine at_append_rb rfl _ _ rfl rfl hr1 rfl ((HAT.out.f.more (more_wd w _ _))) (by simp only [List.length_append, List.length_cons, List.length_nil]; omega) ?_; clear hr1; intro v2 m2 hr2))
  exact bodyPost_ret (v := .tuple #[v2, .int .i64 0]) (by simp [results, Try.results13, go_sem]) rfl ⟨_, by rw [HP.out], by rw [HP.out]; exact bown_made (bown_of hr2)⟩
set_option maxRecDepth 100000 in
set_option maxHeartbeats 3200000 in
theorem rst_rest4 (s : Stp) (a : Option Addr) (cap : Nat) (f : Option Addr) (fc : Nat) (w : World) (ht : StpFit s) (hat : StpAt w s a f fc) (hb : ¬ 5 < s.kind) (ho : s = stpOnly s) (hl : ¬ 64 < s.fate.length) (hk : s.kind = 4) :
    Calls Try.prog 13 #[.agg (stp s a cap f fc)] w fun x w' => BRet w w' x (stpPut s).1 (stpPut s).2 := by
  have HP0 := stpPut_go hb ho hl (fun h => by omega)
  have HP : Hid (stpPut s = (UInt8.ofNat s.kind :: s.fate, 0)) := Lib.hid (by rw [HP0]; unfold stpBody; rw [if_neg (by omega), if_neg (by omega), if_neg (by omega)])
  have hl2 : (s.fate.length : Int) ≤ 64 := by omega
  have hb2 : (s.kind : Int) ≤ 5 := by omega
  have HAT := Lib.hid hat
  have HON := Lib.hid (fun W => only_r s a cap f fc W)
  have hsm := fun W g1 g2 => rsame_stp s (stpOnly s) a (soA s a) cap (soC s cap) f (soF s f) fc (soD s fc) W g1 g2 ht.r (only_stp_len s ht.r)
  rw [decide_eq_true ho] at hsm
  have HSM := Lib.hid hsm
  have m4 : ((s.kind : Int) == 4) = true := by rw [beq_iff_eq]; omega
  have n0 : ((s.kind : Int) == 0) = false := by rw [beq_eq_false_iff_ne]; omega
  have n1 : ((s.kind : Int) == 1) = false := by rw [beq_eq_false_iff_ne]; omega
  have n2 : ((s.kind : Int) == 2) = false := by rw [beq_eq_false_iff_ne]; omega
  have n3 : ((s.kind : Int) == 3) = false := by rw [beq_eq_false_iff_ne]; omega
  have n5 : ((s.kind : Int) == 5) = false := by rw [beq_eq_false_iff_ne]; omega
  have HK := Lib.hid ht.k
  clear hsm ht hat hb ho hk HP0
  refine calls_wd ?_
  go_enter Try.func13, Try.ntmps13
  go_wp2
  refine wp_region_wd (by kernel_rfl) (by kernel_rfl) ?_
  repeat (go_big_quiet_step ((first | (go_at_call 53; with_reducible exact Calls.wd_of (HON.out _)) | (go_at_call 15; with_reducible exact Calls.wd_of (HSM.out _ (HAT.out.more (more_wd _ _ _)) (only_at (HAT.out.more (more_wd _ _ _))))))))
  refine wpQuiet_nil ?_
  rintro _ ⟨mx, rfl⟩
  go_wp2_with (first
    | (at_builtin; refine at_append_rb rfl _ _ rfl rfl (brow_lit w [mx.e, #[.cells (stp s a cap f fc) 30]] (s.kind : Nat) (UInt8.ofNat s.kind) (by rw [u8_toNat _ HK.out])) rfl (HAT.out.f.more (more_wd w _ _)) (by simp only [List.length_cons, List.length_nil]; omega) ?_; intro v1 m1 hr1))
  exact bodyPost_ret (v := .tuple #[v1, .int .i64 0]) (by simp [results, Try.results13, go_sem]) rfl ⟨_, by rw [HP.out], by rw [HP.out]; exact bown_made (bown_of hr1)⟩
set_option maxRecDepth 100000 in
set_option maxHeartbeats 3200000 in
theorem rst_rest5 (s : Stp) (a : Option Addr) (cap : Nat) (f : Option Addr) (fc : Nat) (w : World) (ht : StpFit s) (hat : StpAt w s a f fc) (hb : ¬ 5 < s.kind) (ho : s = stpOnly s) (hl : ¬ 64 < s.fate.length) (hk : s.kind = 5) :
    Calls Try.prog 13 #[.agg (stp s a cap f fc)] w fun x w' => BRet w w' x (stpPut s).1 (stpPut s).2 := by
  have HP0 := stpPut_go hb ho hl (fun h => by omega)
  have HP : Hid (stpPut s = (UInt8.ofNat s.kind :: s.fate, 0)) := Lib.hid (by rw [HP0]; unfold stpBody; rw [if_neg (by omega), if_neg (by omega), if_neg (by omega)])
  have hl2 : (s.fate.length : Int) ≤ 64 := by omega
  have hb2 : (s.kind : Int) ≤ 5 := by omega
  have HAT := Lib.hid hat
  have HON := Lib.hid (fun W => only_r s a cap f fc W)
  have hsm := fun W g1 g2 => rsame_stp s (stpOnly s) a (soA s a) cap (soC s cap) f (soF s f) fc (soD s fc) W g1 g2 ht.r (only_stp_len s ht.r)
  rw [decide_eq_true ho] at hsm
  have HSM := Lib.hid hsm
  have m5 : ((s.kind : Int) == 5) = true := by rw [beq_iff_eq]; omega
  have n0 : ((s.kind : Int) == 0) = false := by rw [beq_eq_false_iff_ne]; omega
  have n1 : ((s.kind : Int) == 1) = false := by rw [beq_eq_false_iff_ne]; omega
  have n2 : ((s.kind : Int) == 2) = false := by rw [beq_eq_false_iff_ne]; omega
  have n3 : ((s.kind : Int) == 3) = false := by rw [beq_eq_false_iff_ne]; omega
  have n4 : ((s.kind : Int) == 4) = false := by rw [beq_eq_false_iff_ne]; omega
  have HK := Lib.hid ht.k
  clear hsm ht hat hb ho hk HP0
  refine calls_wd ?_
  go_enter Try.func13, Try.ntmps13
  go_wp2
  refine wp_region_wd (by kernel_rfl) (by kernel_rfl) ?_
  repeat (go_big_quiet_step ((first | (go_at_call 53; with_reducible exact Calls.wd_of (HON.out _)) | (go_at_call 15; with_reducible exact Calls.wd_of (HSM.out _ (HAT.out.more (more_wd _ _ _)) (only_at (HAT.out.more (more_wd _ _ _))))))))
  refine wpQuiet_nil ?_
  rintro _ ⟨mx, rfl⟩
  go_wp2_with (first
    | (at_builtin; refine at_append_rb rfl _ _ rfl rfl (brow_lit w [mx.e, #[.cells (stp s a cap f fc) 30]] (s.kind : Nat) (UInt8.ofNat s.kind) (by rw [u8_toNat _ HK.out])) rfl (HAT.out.f.more (more_wd w _ _)) (by simp only [List.length_cons, List.length_nil]; omega) ?_; intro v1 m1 hr1))
  exact bodyPost_ret (v := .tuple #[v1, .int .i64 0]) (by simp [results, Try.results13, go_sem]) rfl ⟨_, by rw [HP.out], by rw [HP.out]; exact bown_made (bown_of hr1)⟩
end Go.Proofs.Ytejokhgabcldhaa
/- script: PutStep, of a failure; joined. -/
namespace Go.Proofs.Ytejokhgabcldhaa
open Go.ChangeShapes Go.WideShapes Go.ChangeAt Go.RowKit
set_option linter.unusedVariables false
set_option linter.unusedSimpArgs false

theorem flag_cl (b : Bool) (w : World) : Calls Try.prog 52 #[.bool b] w fun e w' => e = .returned (.int .u8 (if b then 1 else 0)) ∧ w = w' := by
  cases b
  all_goals
    refine calls_wd ?_
    go_enter Try.func52, Try.ntmps52
    go_wp2
    go_ret
    exact ⟨rfl, rfl⟩
theorem callfl (a : Act) (dst : Option Tmp) (t : Nat) (h : a.eval (.tmp t) = .func (.func 52) #[] #[]) (xs : Array Operand) (ats : Array TypeId) (ty : TypeId) (pos : String) (after : Array Edge) (guard : Option (Nat × Bool)) :
    execOp a.eval { dst, op := .call { callee := .value (.tmp t), args := xs, argTypes := ats }, type := ty, pos, after, guard } = callFunc 52 (#[] ++ xs.map a.eval ++ #[]) := execOp_call_tmp a dst t 52 #[] #[] h xs ats ty pos after guard
attribute [local go_sem ↓] callfl
set_option maxRecDepth 100000 in
set_option maxHeartbeats 3200000 in
theorem rst_fail_true (s : Stp) (a : Option Addr) (cap : Nat) (f : Option Addr) (fc : Nat) (w : World) (ht : StpFit s) (hat : StpAt w s a f fc) (hb : ¬ 5 < s.kind) (ho : s = stpOnly s) (hl : ¬ 64 < s.fate.length) (hk : s.kind = 3) (hd : s.done = true) :
    Calls Try.prog 13 #[.agg (stp s a cap f fc)] w fun x w' => BRet w w' x (stpPut s).1 (stpPut s).2 := by
  have HP0 := stpPut_go hb ho hl (fun h => by omega)
  have HP : Hid (stpPut s = (UInt8.ofNat s.kind :: (put s.n ++ [1]), 0)) := Lib.hid (by rw [HP0]; unfold stpBody; rw [if_neg (by omega), if_neg (by omega), if_pos hk, hd]; rfl)
  have hl2 : (s.fate.length : Int) ≤ 64 := by omega
  have hb2 : (s.kind : Int) ≤ 5 := by omega
  have HAT := Lib.hid hat
  have HON := Lib.hid (fun W => only_r s a cap f fc W)
  have hsm := fun W g1 g2 => rsame_stp s (stpOnly s) a (soA s a) cap (soC s cap) f (soF s f) fc (soD s fc) W g1 g2 ht.r (only_stp_len s ht.r)
  rw [decide_eq_true ho] at hsm
  have HSM := Lib.hid hsm
  have m3 : ((s.kind : Int) == 3) = true := by rw [beq_iff_eq]; omega
  have n0 : ((s.kind : Int) == 0) = false := by rw [beq_eq_false_iff_ne]; omega
  have n1 : ((s.kind : Int) == 1) = false := by rw [beq_eq_false_iff_ne]; omega
  have n2 : ((s.kind : Int) == 2) = false := by rw [beq_eq_false_iff_ne]; omega
  have n4 : ((s.kind : Int) == 4) = false := by rw [beq_eq_false_iff_ne]; omega
  have n5 : ((s.kind : Int) == 5) = false := by rw [beq_eq_false_iff_ne]; omega
  have HK := Lib.hid ht.k
  obtain ⟨i1, i2⟩ := ht.n
  have hpl := put_len i1 i2
  clear hsm ht hat hb ho hk HP0
  refine calls_wd ?_
  go_enter Try.func13, Try.ntmps13
  go_wp2
  refine wp_region_wd (by kernel_rfl) (by kernel_rfl) ?_
  repeat (go_big_quiet_step ((first | (go_at_call 53; with_reducible exact Calls.wd_of (HON.out _)) | (go_at_call 15; with_reducible exact Calls.wd_of (HSM.out _ (HAT.out.more (more_wd _ _ _)) (only_at (HAT.out.more (more_wd _ _ _))))))))
  refine wpQuiet_nil ?_
  rintro _ ⟨mx, rfl⟩
  go_wp2_with (first
    | (go_at_call 55; ((with_reducible refine (rput_any s.n i1 i2 _).mono ?_); rintro e w1 ⟨u9, rfl, x1⟩; obtain ⟨p9, rfl, hs9⟩ := x1.wd; clear x1))
    | (at_builtin; refine at_append rfl _ _ rfl rfl (brow_lit w [mx.e, #[.cells (stp s a cap f fc) 30]] (s.kind : Nat) (UInt8.ofNat s.kind) (by rw [u8_toNat _ HK.out])) rfl hs9 (by simp only [List.length_cons, List.length_nil]; omega) ?_; clear hs9; intro v1 m1 hr1)
    | (at_builtin; refine at_append_byte rfl _ _ rfl rfl hr1 1 1 rfl _ rfl _ (by simp only [List.length_append, List.length_cons, List.length_nil]; omega) ?_; clear hr1; intro v2 m2 hr2))
  exact bodyPost_ret (v := .tuple #[v2, .int .i64 0]) (by simp [results, Try.results13, go_sem]) rfl ⟨_, by rw [HP.out], by rw [HP.out]; exact bown_made (bown_of hr2)⟩
set_option maxRecDepth 100000 in
set_option maxHeartbeats 3200000 in
theorem rst_fail_false (s : Stp) (a : Option Addr) (cap : Nat) (f : Option Addr) (fc : Nat) (w : World) (ht : StpFit s) (hat : StpAt w s a f fc) (hb : ¬ 5 < s.kind) (ho : s = stpOnly s) (hl : ¬ 64 < s.fate.length) (hk : s.kind = 3) (hd : s.done = false) :
    Calls Try.prog 13 #[.agg (stp s a cap f fc)] w fun x w' => BRet w w' x (stpPut s).1 (stpPut s).2 := by
  have HP0 := stpPut_go hb ho hl (fun h => by omega)
  have HP : Hid (stpPut s = (UInt8.ofNat s.kind :: (put s.n ++ [0]), 0)) := Lib.hid (by rw [HP0]; unfold stpBody; rw [if_neg (by omega), if_neg (by omega), if_pos hk, hd]; rfl)
  have hl2 : (s.fate.length : Int) ≤ 64 := by omega
  have hb2 : (s.kind : Int) ≤ 5 := by omega
  have HAT := Lib.hid hat
  have HON := Lib.hid (fun W => only_r s a cap f fc W)
  have hsm := fun W g1 g2 => rsame_stp s (stpOnly s) a (soA s a) cap (soC s cap) f (soF s f) fc (soD s fc) W g1 g2 ht.r (only_stp_len s ht.r)
  rw [decide_eq_true ho] at hsm
  have HSM := Lib.hid hsm
  have m3 : ((s.kind : Int) == 3) = true := by rw [beq_iff_eq]; omega
  have n0 : ((s.kind : Int) == 0) = false := by rw [beq_eq_false_iff_ne]; omega
  have n1 : ((s.kind : Int) == 1) = false := by rw [beq_eq_false_iff_ne]; omega
  have n2 : ((s.kind : Int) == 2) = false := by rw [beq_eq_false_iff_ne]; omega
  have n4 : ((s.kind : Int) == 4) = false := by rw [beq_eq_false_iff_ne]; omega
  have n5 : ((s.kind : Int) == 5) = false := by rw [beq_eq_false_iff_ne]; omega
  have HK := Lib.hid ht.k
  obtain ⟨i1, i2⟩ := ht.n
  have hpl := put_len i1 i2
  clear hsm ht hat hb ho hk HP0
  refine calls_wd ?_
  go_enter Try.func13, Try.ntmps13
  go_wp2
  refine wp_region_wd (by kernel_rfl) (by kernel_rfl) ?_
  repeat (go_big_quiet_step ((first | (go_at_call 53; with_reducible exact Calls.wd_of (HON.out _)) | (go_at_call 15; with_reducible exact Calls.wd_of (HSM.out _ (HAT.out.more (more_wd _ _ _)) (only_at (HAT.out.more (more_wd _ _ _))))))))
  refine wpQuiet_nil ?_
  rintro _ ⟨mx, rfl⟩
  go_wp2_with (first
    | (go_at_call 55; ((with_reducible refine (rput_any s.n i1 i2 _).mono ?_); rintro e w1 ⟨u9, rfl, x1⟩; obtain ⟨p9, rfl, hs9⟩ := x1.wd; clear x1))
    | (at_builtin; refine at_append rfl _ _ rfl rfl (brow_lit w [mx.e, #[.cells (stp s a cap f fc) 30]] (s.kind : Nat) (UInt8.ofNat s.kind) (by rw [u8_toNat _ HK.out])) rfl hs9 (by simp only [List.length_cons, List.length_nil]; omega) ?_; clear hs9; intro v1 m1 hr1)
    | (at_builtin; refine at_append_byte rfl _ _ rfl rfl hr1 0 0 rfl _ rfl _ (by simp only [List.length_append, List.length_cons, List.length_nil]; omega) ?_; clear hr1; intro v2 m2 hr2))
  exact bodyPost_ret (v := .tuple #[v2, .int .i64 0]) (by simp [results, Try.results13, go_sem]) rfl ⟨_, by rw [HP.out], by rw [HP.out]; exact bown_made (bown_of hr2)⟩
set_option maxRecDepth 100000 in
set_option maxHeartbeats 3200000 in
theorem pst_fail (s : Stp) (a : Option Addr) (cap : Nat) (f : Option Addr) (fc : Nat) (w : World) (ht : StpFit s) (hat : StpAt w s a f fc) (hb : ¬ 5 < s.kind) (ho : s = stpOnly s) (hl : ¬ 64 < s.fate.length) (hk : s.kind = 3) :
    Calls Try.prog 12 #[.agg (stp s a cap f fc)] w fun x w' => BRet w w' x (stpPut s).1 (stpPut s).2 := by
  have HP0 := stpPut_go hb ho hl (fun h => by omega)
  have HP : Hid (stpPut s = (UInt8.ofNat s.kind :: (put s.n ++ flagB s.done), 0)) := Lib.hid (by rw [HP0]; unfold stpBody; rw [if_neg (by omega), if_neg (by omega), if_pos hk])
  have hl2 : (s.fate.length : Int) ≤ 64 := by omega
  have hb2 : (s.kind : Int) ≤ 5 := by omega
  have HAT := Lib.hid hat
  have HON := Lib.hid (fun W => only_p s a cap f fc W)
  have hsm := fun W g1 g2 => same_stp s (stpOnly s) a (soA s a) cap (soC s cap) f (soF s f) fc (soD s fc) W g1 g2 ht.r (only_stp_len s ht.r)
  rw [decide_eq_true ho] at hsm
  have HSM := Lib.hid hsm
  have m3 : ((s.kind : Int) == 3) = true := by rw [beq_iff_eq]; omega
  have n0 : ((s.kind : Int) == 0) = false := by rw [beq_eq_false_iff_ne]; omega
  have n1 : ((s.kind : Int) == 1) = false := by rw [beq_eq_false_iff_ne]; omega
  have n2 : ((s.kind : Int) == 2) = false := by rw [beq_eq_false_iff_ne]; omega
  have n4 : ((s.kind : Int) == 4) = false := by rw [beq_eq_false_iff_ne]; omega
  have n5 : ((s.kind : Int) == 5) = false := by rw [beq_eq_false_iff_ne]; omega
  have HK := Lib.hid ht.k
  obtain ⟨i1, i2⟩ := ht.n
  have hpl := put_len i1 i2
  have HFL : Hid (∃ c : UInt8, (if s.done then (1 : Int) else 0) = c.toNat ∧ flagB s.done = [c]) := Lib.hid (by cases s.done <;> exact ⟨_, rfl, rfl⟩)
  obtain ⟨fb, hfb1, hfb2⟩ := HFL.out
  have hfl := fun W => flag_cl s.done W
  have HF2 := Lib.hid hfb2
  clear hsm ht hat hb ho hk HP0 HFL hfb2
  refine calls_wd ?_
  go_enter Try.func12, Try.ntmps12
  go_wp2
  refine wp_region_wd (by kernel_rfl) (by kernel_rfl) ?_
  repeat (go_big_quiet_step ((first | (go_at_call 49; with_reducible exact Calls.wd_of (HON.out _)) | (go_at_call 14; with_reducible exact Calls.wd_of (HSM.out _ (HAT.out.more (more_wd _ _ _)) (only_at (HAT.out.more (more_wd _ _ _))))))))
  refine wpQuiet_nil ?_
  rintro _ ⟨mx, rfl⟩
  go_wp2
  refine wp_region_tree (fun (x : Ext) => wd w (x.e :: [mx.e, #[.cells (stp s a cap f fc) 36]]) x.n) ((⟨_, _⟩)) [0, 1, 2, 5, 6, 7] (.one 3 (.one 4 (.one 8 (.one 9 (.one 10 (.one 11 (.one 12 .done))))))) [true, true, true, false, false, true, true, true] (wd_drew _ _ _) rfl (by kernel_rfl) (by kernel_rfl) (fun _ _ d _ _ h => by cases d <;> exact h) ?_
  apply Exists.intro
  refine ⟨?_, ?_⟩
  · intro E
    simp only [sel_t, sel_f, sel_n]
    repeat (go_big_quiet_step ((fail)))
    exact wpQuiet_nil rfl
  refine louds_one [false, false, false, true] rfl ?_
  simp only [sel_t, sel_f, sel_n]
  go_wp2_with (first | (go_at_call 51; ((with_reducible refine (put_any s.n i1 i2 _).mono ?_); rintro e w1 ⟨u9, rfl, x1⟩; obtain ⟨p9, rfl, hs9⟩ := x1.wd; clear x1)))
  refine ⟨⟨⟨_, _⟩, wd_merge _ _ _ _ _⟩, ?_⟩
  refine louds_one [false, false, false, false, true] rfl ?_
  simp only [sel_t, sel_f, sel_n]
  go_wp2_with (first | (at_builtin; refine at_append rfl _ _ rfl rfl (brow_lit w [mx.e, #[.cells (stp s a cap f fc) 36]] (s.kind : Nat) (UInt8.ofNat s.kind) (by rw [u8_toNat _ HK.out])) rfl hs9 (by simp only [List.length_cons, List.length_nil]; omega) ?_; clear hs9; intro v1 m1 hr1))
  refine ⟨⟨⟨_, _⟩, rfl⟩, ?_⟩
  refine louds_one [false, false, false, false, false, false, false, false, true] rfl ?_
  simp only [sel_t, sel_f, sel_n]
  go_wp2_with (first | (go_at_call 52; ((with_reducible refine (hfl _).mono ?_); rintro e w1 ⟨rfl, rfl⟩)))
  refine ⟨⟨⟨_, _⟩, rfl⟩, ?_⟩
  refine louds_one [false, false, false, false, false, false, false, false, false, true] rfl ?_
  simp only [sel_t, sel_f, sel_n]
  go_wp2
  refine ⟨⟨⟨_, _⟩, wd_merge _ _ _ _ _⟩, ?_⟩
  refine louds_one [false, false, false, false, false, false, false, false, false, false, true] rfl ?_
  simp only [sel_t, sel_f, sel_n]
  go_wp2_with (first | (at_builtin; refine at_append_byte rfl _ _ rfl rfl hr1 (fb.toNat : Int) fb rfl _ rfl _ (by simp only [List.length_append, List.length_cons, List.length_nil]; omega) ?_; clear hr1; intro v2 m2 hr2))
  refine ⟨⟨⟨_, _⟩, rfl⟩, ?_⟩
  refine louds_one [false, false, false, false, false, false, false, false, false, false, false, true] rfl ?_
  simp only [sel_t, sel_f, sel_n]
  go_wp2
  refine ⟨⟨⟨_, _⟩, rfl⟩, ?_⟩
  refine louds_one [false, false, false, false, false, false, false, false, false, false, false, false, true] rfl ?_
  simp only [sel_t, sel_f, sel_n]
  go_wp2
  refine ⟨⟨⟨_, _⟩, rfl⟩, ?_⟩
  refine louds_done ?_
  go_wp2
  exact bodyPost_ret (v := .tuple #[v2, .int .i64 0]) (by simp [results, Try.results12, go_sem]) rfl ⟨_, by rw [HP.out], by rw [HP.out, HF2.out]; exact bown_made (bown_of hr2)⟩
theorem pst_any (s : Stp) (a : Option Addr) (cap : Nat) (f : Option Addr) (fc : Nat) (w : World) (ht : StpFit s) (hat : StpAt w s a f fc) :
    Calls Try.prog 12 #[.agg (stp s a cap f fc)] w fun x w' => BRet w w' x (stpPut s).1 (stpPut s).2 := by
  by_cases hb : 5 < s.kind
  · exact pst_big s a cap f fc w ht hat hb
  by_cases ho : s = stpOnly s
  · by_cases hl : 64 < s.fate.length
    · exact pst_long s a cap f fc w ht hat hb ho hl
    rcases (show s.kind = 0 ∨ s.kind = 1 ∨ s.kind = 2 ∨ s.kind = 3 ∨ s.kind = 4 ∨ s.kind = 5 by omega) with h | h | h | h | h | h
    · by_cases hz : (reqPut s.q).2 = 0
      · exact pst_ask s a cap f fc w ht hat hb ho hl h hz
      · exact pst_no s a cap f fc w ht hat hb ho hl ⟨h, hz⟩
    · exact pst_num1 s a cap f fc w ht hat hb ho hl h
    · exact pst_num2 s a cap f fc w ht hat hb ho hl h
    · exact pst_fail s a cap f fc w ht hat hb ho hl h
    · exact pst_rest4 s a cap f fc w ht hat hb ho hl h
    · exact pst_rest5 s a cap f fc w ht hat hb ho hl h
  · exact pst_alien s a cap f fc w ht hat hb ho
theorem rst_any (s : Stp) (a : Option Addr) (cap : Nat) (f : Option Addr) (fc : Nat) (w : World) (ht : StpFit s) (hat : StpAt w s a f fc) :
    Calls Try.prog 13 #[.agg (stp s a cap f fc)] w fun x w' => BRet w w' x (stpPut s).1 (stpPut s).2 := by
  by_cases hb : 5 < s.kind
  · exact rst_big s a cap f fc w ht hat hb
  by_cases ho : s = stpOnly s
  · by_cases hl : 64 < s.fate.length
    · exact rst_long s a cap f fc w ht hat hb ho hl
    rcases (show s.kind = 0 ∨ s.kind = 1 ∨ s.kind = 2 ∨ s.kind = 3 ∨ s.kind = 4 ∨ s.kind = 5 by omega) with h | h | h | h | h | h
    · by_cases hz : (reqPut s.q).2 = 0
      · exact rst_ask s a cap f fc w ht hat hb ho hl h hz
      · exact rst_no s a cap f fc w ht hat hb ho hl ⟨h, hz⟩
    · exact rst_num1 s a cap f fc w ht hat hb ho hl h
    · exact rst_num2 s a cap f fc w ht hat hb ho hl h
    · by_cases hd : s.done = true
      · exact rst_fail_true s a cap f fc w ht hat hb ho hl h hd
      · exact rst_fail_false s a cap f fc w ht hat hb ho hl h (by simpa using hd)
    · exact rst_rest4 s a cap f fc w ht hat hb ho hl h
    · exact rst_rest5 s a cap f fc w ht hat hb ho hl h
  · exact rst_alien s a cap f fc w ht hat hb ho
end Go.Proofs.Ytejokhgabcldhaa
