/- console: request, join, leave, beat (printed by gen/cpg.py). -/
import Derived.Test.YtifoekadjnlhcaaGreatDoorMK
namespace Go.Proofs.YtifoekadjnlhcaaGreatDoor
open Go.ChangeShapes Go.WideShapes Go.ChangeAt Go.RowKit
set_option linter.unusedVariables false
set_option linter.unusedSimpArgs false
set_option maxRecDepth 100000 in
set_option maxHeartbeats 3200000 in
theorem req_join (p : Nat) (v : Value) (ws : List Word) (w : World) (h0 : CS w p v ws) : Calls Tryz.prog 49 #[.pointer (some ⟨p, 0, none⟩), .string (str w_join)] w fun e w' => ReqRet w w' e p v w_join ws := by
  have q0 : ((str w_join).toList == [99, 114, 101, 97, 116, 101]) = false := by rw [str_toList]; decide
  have q1 : ((str w_join).toList == [114, 101, 109, 111, 118, 101]) = false := by rw [str_toList]; decide
  have q2 : ((str w_join).toList == [100, 101, 115, 99, 114, 105, 98, 101]) = false := by rw [str_toList]; decide
  have q3 : ((str w_join).toList == [112, 114, 111, 100, 117, 99, 101]) = false := by rw [str_toList]; decide
  have q4 : ((str w_join).toList == [102, 101, 116, 99, 104]) = false := by rw [str_toList]; decide
  have q5 : ((str w_join).toList == [98, 121, 116, 105, 109, 101]) = false := by rw [str_toList]; decide
  have q6 : ((str w_join).toList == [106, 111, 105, 110]) = true := by rw [str_toList]; decide
  have HSH : Hid (reqSh w_join = some (6, [.s, .s])) := Lib.hid rfl
  have hlt := h0.rd.lt
  have H0 := Lib.hid h0
  clear h0
  obtain ⟨tw, htw⟩ : ∃ tw, w_join = tw := ⟨_, rfl⟩
  rw [htw] at HSH q0 q1 q2 q3 q4 q5 q6 ⊢
  clear htw
  cases ws with
  | nil =>
    have HT : Hid (tkAll [.s, .s] [] = none) := Lib.hid (by simp only [tkAll, tkT])
    refine calls_wd ?_
    go_enter Tryz.func49, Tryz.ntmps49
    go_wp2_with (first
      | (go_at_call 48; refine (t_none H0.out (fun W0 h => h) (first_more H0.out (more_wd _ _ _))).mono ?_; rintro e w1 hs; obtain ⟨v9, x9, k9, rfl, rfl⟩ := hs.out; clear hs))
    exact ⟨rfl, reqret_no HSH.out HT.out (cno_of _ _ _ _)⟩
  | cons s0 r0 =>
    cases r0 with
    | nil =>
      have HT : Hid (tkAll [.s, .s] (s0 :: []) = none) := Lib.hid (by simp only [tkAll, tkT])
      refine calls_wd ?_
      go_enter Tryz.func49, Tryz.ntmps49
      go_wp2_with (first
        | (go_at_call 48; refine (t_step H0.out (fun W0 h => h) (first_more H0.out (more_wd _ _ _))).mono ?_; rintro e w1 ⟨rfl, v0, x0, k0, hk, rfl⟩; have HK0 := Lib.hid hk; clear hk)
        | (go_at_call 48; refine (t_none H0.out HK0.out (more_wd _ _ _)).mono ?_; rintro e w1 hs; obtain ⟨v9, x9, k9, rfl, rfl⟩ := hs.out; clear hs))
      exact ⟨rfl, reqret_no HSH.out HT.out (cno_of _ _ _ _)⟩
    | cons s1 r1 =>
      have HT : Hid (tkAll [.s, .s] (s0 :: (s1 :: r1)) = some ([.s s0, .s s1], r1)) := Lib.hid (by simp only [tkAll, tkT])
      refine calls_wd ?_
      go_enter Tryz.func49, Tryz.ntmps49
      go_wp2_with (first
        | (go_at_call 48; refine (t_step H0.out (fun W0 h => h) (first_more H0.out (more_wd _ _ _))).mono ?_; rintro e w1 ⟨rfl, v0, x0, k0, hk, rfl⟩; have HK0 := Lib.hid hk; clear hk)
        | (go_at_call 48; refine (t_step H0.out HK0.out (more_wd _ _ _)).mono ?_; rintro e w1 ⟨rfl, v1, x1, k1, hk, rfl⟩; have HK1 := Lib.hid hk; clear hk))
      refine bodyPost_ret (v := .tuple #[.agg (rq (reqOf 6 [.s s0, .s s1]) none 0), .bool true]) (by first | (simp [results, Tryz.results49, go_sem]; done) | (simp [results, Tryz.results49, go_sem]; rfl)) rfl ?_
      exact reqret_yes HSH.out HT.out rfl rfl (ctk_of _ _ HK1.out)
set_option maxRecDepth 100000 in
set_option maxHeartbeats 3200000 in
theorem req_leave (p : Nat) (v : Value) (ws : List Word) (w : World) (h0 : CS w p v ws) : Calls Tryz.prog 49 #[.pointer (some ⟨p, 0, none⟩), .string (str w_leave)] w fun e w' => ReqRet w w' e p v w_leave ws := by
  have q0 : ((str w_leave).toList == [99, 114, 101, 97, 116, 101]) = false := by rw [str_toList]; decide
  have q1 : ((str w_leave).toList == [114, 101, 109, 111, 118, 101]) = false := by rw [str_toList]; decide
  have q2 : ((str w_leave).toList == [100, 101, 115, 99, 114, 105, 98, 101]) = false := by rw [str_toList]; decide
  have q3 : ((str w_leave).toList == [112, 114, 111, 100, 117, 99, 101]) = false := by rw [str_toList]; decide
  have q4 : ((str w_leave).toList == [102, 101, 116, 99, 104]) = false := by rw [str_toList]; decide
  have q5 : ((str w_leave).toList == [98, 121, 116, 105, 109, 101]) = false := by rw [str_toList]; decide
  have q6 : ((str w_leave).toList == [106, 111, 105, 110]) = false := by rw [str_toList]; decide
  have q7 : ((str w_leave).toList == [108, 101, 97, 118, 101]) = true := by rw [str_toList]; decide
  have HSH : Hid (reqSh w_leave = some (9, [.s, .s])) := Lib.hid rfl
  have hlt := h0.rd.lt
  have H0 := Lib.hid h0
  clear h0
  obtain ⟨tw, htw⟩ : ∃ tw, w_leave = tw := ⟨_, rfl⟩
  rw [htw] at HSH q0 q1 q2 q3 q4 q5 q6 q7 ⊢
  clear htw
  cases ws with
  | nil =>
    have HT : Hid (tkAll [.s, .s] [] = none) := Lib.hid (by simp only [tkAll, tkT])
    refine calls_wd ?_
    go_enter Tryz.func49, Tryz.ntmps49
    go_wp2_with (first
      | (go_at_call 48; refine (t_none H0.out (fun W0 h => h) (first_more H0.out (more_wd _ _ _))).mono ?_; rintro e w1 hs; obtain ⟨v9, x9, k9, rfl, rfl⟩ := hs.out; clear hs))
    exact ⟨rfl, reqret_no HSH.out HT.out (cno_of _ _ _ _)⟩
  | cons s0 r0 =>
    cases r0 with
    | nil =>
      have HT : Hid (tkAll [.s, .s] (s0 :: []) = none) := Lib.hid (by simp only [tkAll, tkT])
      refine calls_wd ?_
      go_enter Tryz.func49, Tryz.ntmps49
      go_wp2_with (first
        | (go_at_call 48; refine (t_step H0.out (fun W0 h => h) (first_more H0.out (more_wd _ _ _))).mono ?_; rintro e w1 ⟨rfl, v0, x0, k0, hk, rfl⟩; have HK0 := Lib.hid hk; clear hk)
        | (go_at_call 48; refine (t_none H0.out HK0.out (more_wd _ _ _)).mono ?_; rintro e w1 hs; obtain ⟨v9, x9, k9, rfl, rfl⟩ := hs.out; clear hs))
      exact ⟨rfl, reqret_no HSH.out HT.out (cno_of _ _ _ _)⟩
    | cons s1 r1 =>
      have HT : Hid (tkAll [.s, .s] (s0 :: (s1 :: r1)) = some ([.s s0, .s s1], r1)) := Lib.hid (by simp only [tkAll, tkT])
      refine calls_wd ?_
      go_enter Tryz.func49, Tryz.ntmps49
      go_wp2_with (first
        | (go_at_call 48; refine (t_step H0.out (fun W0 h => h) (first_more H0.out (more_wd _ _ _))).mono ?_; rintro e w1 ⟨rfl, v0, x0, k0, hk, rfl⟩; have HK0 := Lib.hid hk; clear hk)
        | (go_at_call 48; refine (t_step H0.out HK0.out (more_wd _ _ _)).mono ?_; rintro e w1 ⟨rfl, v1, x1, k1, hk, rfl⟩; have HK1 := Lib.hid hk; clear hk))
      refine bodyPost_ret (v := .tuple #[.agg (rq (reqOf 9 [.s s0, .s s1]) none 0), .bool true]) (by first | (simp [results, Tryz.results49, go_sem]; done) | (simp [results, Tryz.results49, go_sem]; rfl)) rfl ?_
      exact reqret_yes HSH.out HT.out rfl rfl (ctk_of _ _ HK1.out)
set_option maxRecDepth 100000 in
set_option maxHeartbeats 3200000 in
theorem req_beat (p : Nat) (v : Value) (ws : List Word) (w : World) (h0 : CS w p v ws) : Calls Tryz.prog 49 #[.pointer (some ⟨p, 0, none⟩), .string (str w_beat)] w fun e w' => ReqRet w w' e p v w_beat ws := by
  have q0 : ((str w_beat).toList == [99, 114, 101, 97, 116, 101]) = false := by rw [str_toList]; decide
  have q1 : ((str w_beat).toList == [114, 101, 109, 111, 118, 101]) = false := by rw [str_toList]; decide
  have q2 : ((str w_beat).toList == [100, 101, 115, 99, 114, 105, 98, 101]) = false := by rw [str_toList]; decide
  have q3 : ((str w_beat).toList == [112, 114, 111, 100, 117, 99, 101]) = false := by rw [str_toList]; decide
  have q4 : ((str w_beat).toList == [102, 101, 116, 99, 104]) = false := by rw [str_toList]; decide
  have q5 : ((str w_beat).toList == [98, 121, 116, 105, 109, 101]) = false := by rw [str_toList]; decide
  have q6 : ((str w_beat).toList == [106, 111, 105, 110]) = false := by rw [str_toList]; decide
  have q7 : ((str w_beat).toList == [108, 101, 97, 118, 101]) = false := by rw [str_toList]; decide
  have q8 : ((str w_beat).toList == [115, 121, 110, 99]) = false := by rw [str_toList]; decide
  have q9 : ((str w_beat).toList == [98, 101, 97, 116]) = true := by rw [str_toList]; decide
  have HSH : Hid (reqSh w_beat = some (8, [.s, .s, .n])) := Lib.hid rfl
  have hlt := h0.rd.lt
  have H0 := Lib.hid h0
  clear h0
  obtain ⟨tw, htw⟩ : ∃ tw, w_beat = tw := ⟨_, rfl⟩
  rw [htw] at HSH q0 q1 q2 q3 q4 q5 q6 q7 q8 q9 ⊢
  clear htw
  cases ws with
  | nil =>
    have HT : Hid (tkAll [.s, .s, .n] [] = none) := Lib.hid (by simp only [tkAll, tkT])
    refine calls_wd ?_
    go_enter Tryz.func49, Tryz.ntmps49
    go_wp2_with (first
      | (go_at_call 48; refine (t_none H0.out (fun W0 h => h) (first_more H0.out (more_wd _ _ _))).mono ?_; rintro e w1 hs; obtain ⟨v9, x9, k9, rfl, rfl⟩ := hs.out; clear hs))
    exact ⟨rfl, reqret_no HSH.out HT.out (cno_of _ _ _ _)⟩
  | cons s0 r0 =>
    cases r0 with
    | nil =>
      have HT : Hid (tkAll [.s, .s, .n] (s0 :: []) = none) := Lib.hid (by simp only [tkAll, tkT])
      refine calls_wd ?_
      go_enter Tryz.func49, Tryz.ntmps49
      go_wp2_with (first
        | (go_at_call 48; refine (t_step H0.out (fun W0 h => h) (first_more H0.out (more_wd _ _ _))).mono ?_; rintro e w1 ⟨rfl, v0, x0, k0, hk, rfl⟩; have HK0 := Lib.hid hk; clear hk)
        | (go_at_call 48; refine (t_none H0.out HK0.out (more_wd _ _ _)).mono ?_; rintro e w1 hs; obtain ⟨v9, x9, k9, rfl, rfl⟩ := hs.out; clear hs))
      exact ⟨rfl, reqret_no HSH.out HT.out (cno_of _ _ _ _)⟩
    | cons s1 r1 =>
      cases hq2 : tkN r1 with
      | none =>
        have HT : Hid (tkAll [.s, .s, .n] (s0 :: (s1 :: r1)) = none) := Lib.hid (by simp only [tkAll, hq2, tkT])
        have HQ2 := Lib.hid hq2
        clear hq2
        refine calls_wd ?_
        go_enter Tryz.func49, Tryz.ntmps49
        go_wp2_with (first
          | (go_at_call 48; refine (t_step H0.out (fun W0 h => h) (first_more H0.out (more_wd _ _ _))).mono ?_; rintro e w1 ⟨rfl, v0, x0, k0, hk, rfl⟩; have HK0 := Lib.hid hk; clear hk)
          | (go_at_call 48; refine (t_step H0.out HK0.out (more_wd _ _ _)).mono ?_; rintro e w1 ⟨rfl, v1, x1, k1, hk, rfl⟩; have HK1 := Lib.hid hk; clear hk)
          | (go_at_call 50; refine (n_none H0.out HQ2.out HK1.out (more_wd _ _ _)).mono ?_; rintro e w1 hs; obtain ⟨v9, x9, k9, rfl, rfl⟩ := hs.out; clear hs))
        exact ⟨rfl, reqret_no HSH.out HT.out (cno_of _ _ _ _)⟩
      | some a =>
        obtain ⟨n2, r2⟩ := a
        have HT : Hid (tkAll [.s, .s, .n] (s0 :: (s1 :: r1)) = some ([.s s0, .s s1, .n n2], r2)) := Lib.hid (by simp only [tkAll, hq2, tkT])
        have HQ2 := Lib.hid hq2
        clear hq2
        refine calls_wd ?_
        go_enter Tryz.func49, Tryz.ntmps49
        go_wp2_with (first
          | (go_at_call 48; refine (t_step H0.out (fun W0 h => h) (first_more H0.out (more_wd _ _ _))).mono ?_; rintro e w1 ⟨rfl, v0, x0, k0, hk, rfl⟩; have HK0 := Lib.hid hk; clear hk)
          | (go_at_call 48; refine (t_step H0.out HK0.out (more_wd _ _ _)).mono ?_; rintro e w1 ⟨rfl, v1, x1, k1, hk, rfl⟩; have HK1 := Lib.hid hk; clear hk)
          | (go_at_call 50; refine (n_step H0.out HQ2.out HK1.out (more_wd _ _ _)).mono ?_; rintro e w1 ⟨rfl, v2, x2, k2, hk, rfl⟩; have HK2 := Lib.hid hk; clear hk))
        refine bodyPost_ret (v := .tuple #[.agg (rq (reqOf 8 [.s s0, .s s1, .n n2]) none 0), .bool true]) (by first | (simp [results, Tryz.results49, go_sem]; done) | (simp [results, Tryz.results49, go_sem]; rfl)) rfl ?_
        exact reqret_yes HSH.out HT.out rfl rfl (ctk_of _ _ HK2.out)
set_option maxRecDepth 100000 in
set_option maxHeartbeats 3200000 in
theorem req_sync (p : Nat) (v : Value) (ws : List Word) (w : World) (h0 : CS w p v ws) : Calls Tryz.prog 49 #[.pointer (some ⟨p, 0, none⟩), .string (str w_sync)] w fun e w' => ReqRet w w' e p v w_sync ws := by
  have q0 : ((str w_sync).toList == [99, 114, 101, 97, 116, 101]) = false := by rw [str_toList]; decide
  have q1 : ((str w_sync).toList == [114, 101, 109, 111, 118, 101]) = false := by rw [str_toList]; decide
  have q2 : ((str w_sync).toList == [100, 101, 115, 99, 114, 105, 98, 101]) = false := by rw [str_toList]; decide
  have q3 : ((str w_sync).toList == [112, 114, 111, 100, 117, 99, 101]) = false := by rw [str_toList]; decide
  have q4 : ((str w_sync).toList == [102, 101, 116, 99, 104]) = false := by rw [str_toList]; decide
  have q5 : ((str w_sync).toList == [98, 121, 116, 105, 109, 101]) = false := by rw [str_toList]; decide
  have q6 : ((str w_sync).toList == [106, 111, 105, 110]) = false := by rw [str_toList]; decide
  have q7 : ((str w_sync).toList == [108, 101, 97, 118, 101]) = false := by rw [str_toList]; decide
  have q8 : ((str w_sync).toList == [115, 121, 110, 99]) = true := by rw [str_toList]; decide
  have HSH : Hid (reqSh w_sync = some (7, [.s, .s, .n, .s])) := Lib.hid rfl
  have hlt := h0.rd.lt
  have H0 := Lib.hid h0
  clear h0
  obtain ⟨tw, htw⟩ : ∃ tw, w_sync = tw := ⟨_, rfl⟩
  rw [htw] at HSH q0 q1 q2 q3 q4 q5 q6 q7 q8 ⊢
  clear htw
  cases ws with
  | nil =>
    have HT : Hid (tkAll [.s, .s, .n, .s] [] = none) := Lib.hid (by simp only [tkAll, tkT])
    refine calls_wd ?_
    go_enter Tryz.func49, Tryz.ntmps49
    go_wp2_with (first
      | (go_at_call 48; refine (t_none H0.out (fun W0 h => h) (first_more H0.out (more_wd _ _ _))).mono ?_; rintro e w1 hs; obtain ⟨v9, x9, k9, rfl, rfl⟩ := hs.out; clear hs))
    exact ⟨rfl, reqret_no HSH.out HT.out (cno_of _ _ _ _)⟩
  | cons s0 r0 =>
    cases r0 with
    | nil =>
      have HT : Hid (tkAll [.s, .s, .n, .s] (s0 :: []) = none) := Lib.hid (by simp only [tkAll, tkT])
      refine calls_wd ?_
      go_enter Tryz.func49, Tryz.ntmps49
      go_wp2_with (first
        | (go_at_call 48; refine (t_step H0.out (fun W0 h => h) (first_more H0.out (more_wd _ _ _))).mono ?_; rintro e w1 ⟨rfl, v0, x0, k0, hk, rfl⟩; have HK0 := Lib.hid hk; clear hk)
        | (go_at_call 48; refine (t_none H0.out HK0.out (more_wd _ _ _)).mono ?_; rintro e w1 hs; obtain ⟨v9, x9, k9, rfl, rfl⟩ := hs.out; clear hs))
      exact ⟨rfl, reqret_no HSH.out HT.out (cno_of _ _ _ _)⟩
    | cons s1 r1 =>
      cases hq2 : tkN r1 with
      | none =>
        have HT : Hid (tkAll [.s, .s, .n, .s] (s0 :: (s1 :: r1)) = none) := Lib.hid (by simp only [tkAll, hq2, tkT])
        have HQ2 := Lib.hid hq2
        clear hq2
        refine calls_wd ?_
        go_enter Tryz.func49, Tryz.ntmps49
        go_wp2_with (first
          | (go_at_call 48; refine (t_step H0.out (fun W0 h => h) (first_more H0.out (more_wd _ _ _))).mono ?_; rintro e w1 ⟨rfl, v0, x0, k0, hk, rfl⟩; have HK0 := Lib.hid hk; clear hk)
          | (go_at_call 48; refine (t_step H0.out HK0.out (more_wd _ _ _)).mono ?_; rintro e w1 ⟨rfl, v1, x1, k1, hk, rfl⟩; have HK1 := Lib.hid hk; clear hk)
          | (go_at_call 50; refine (n_none H0.out HQ2.out HK1.out (more_wd _ _ _)).mono ?_; rintro e w1 hs; obtain ⟨v9, x9, k9, rfl, rfl⟩ := hs.out; clear hs))
        exact ⟨rfl, reqret_no HSH.out HT.out (cno_of _ _ _ _)⟩
      | some a =>
        obtain ⟨n2, r2⟩ := a
        cases r2 with
        | nil =>
          have HT : Hid (tkAll [.s, .s, .n, .s] (s0 :: (s1 :: r1)) = none) := Lib.hid (by simp only [tkAll, hq2, tkT])
          have HQ2 := Lib.hid hq2
          clear hq2
          refine calls_wd ?_
          go_enter Tryz.func49, Tryz.ntmps49
          go_wp2_with (first
            | (go_at_call 48; refine (t_step H0.out (fun W0 h => h) (first_more H0.out (more_wd _ _ _))).mono ?_; rintro e w1 ⟨rfl, v0, x0, k0, hk, rfl⟩; have HK0 := Lib.hid hk; clear hk)
            | (go_at_call 48; refine (t_step H0.out HK0.out (more_wd _ _ _)).mono ?_; rintro e w1 ⟨rfl, v1, x1, k1, hk, rfl⟩; have HK1 := Lib.hid hk; clear hk)
            | (go_at_call 50; refine (n_step H0.out HQ2.out HK1.out (more_wd _ _ _)).mono ?_; rintro e w1 ⟨rfl, v2, x2, k2, hk, rfl⟩; have HK2 := Lib.hid hk; clear hk)
            | (go_at_call 48; refine (t_none H0.out HK2.out (more_wd _ _ _)).mono ?_; rintro e w1 hs; obtain ⟨v9, x9, k9, rfl, rfl⟩ := hs.out; clear hs))
          exact ⟨rfl, reqret_no HSH.out HT.out (cno_of _ _ _ _)⟩
        | cons s3 r3 =>
          have HT : Hid (tkAll [.s, .s, .n, .s] (s0 :: (s1 :: r1)) = some ([.s s0, .s s1, .n n2, .s s3], r3)) := Lib.hid (by simp only [tkAll, hq2, tkT])
          have HQ2 := Lib.hid hq2
          clear hq2
          refine calls_wd ?_
          go_enter Tryz.func49, Tryz.ntmps49
          go_wp2_with (first
            | (go_at_call 48; refine (t_step H0.out (fun W0 h => h) (first_more H0.out (more_wd _ _ _))).mono ?_; rintro e w1 ⟨rfl, v0, x0, k0, hk, rfl⟩; have HK0 := Lib.hid hk; clear hk)
            | (go_at_call 48; refine (t_step H0.out HK0.out (more_wd _ _ _)).mono ?_; rintro e w1 ⟨rfl, v1, x1, k1, hk, rfl⟩; have HK1 := Lib.hid hk; clear hk)
            | (go_at_call 50; refine (n_step H0.out HQ2.out HK1.out (more_wd _ _ _)).mono ?_; rintro e w1 ⟨rfl, v2, x2, k2, hk, rfl⟩; have HK2 := Lib.hid hk; clear hk)
            | (go_at_call 48; refine (t_step H0.out HK2.out (more_wd _ _ _)).mono ?_; rintro e w1 ⟨rfl, v3, x3, k3, hk, rfl⟩; have HK3 := Lib.hid hk; clear hk))
          refine bodyPost_ret (v := .tuple #[.agg (rq (reqOf 7 [.s s0, .s s1, .n n2, .s s3]) none 0), .bool true]) (by first | (simp [results, Tryz.results49, go_sem]; done) | (simp [results, Tryz.results49, go_sem]; rfl)) rfl ?_
          exact reqret_yes HSH.out HT.out rfl rfl (ctk_of _ _ HK3.out)
set_option maxRecDepth 100000 in
set_option maxHeartbeats 3200000 in
theorem req_committed (p : Nat) (v : Value) (ws : List Word) (w : World) (h0 : CS w p v ws) : Calls Tryz.prog 49 #[.pointer (some ⟨p, 0, none⟩), .string (str w_committed)] w fun e w' => ReqRet w w' e p v w_committed ws := by
  have q0 : ((str w_committed).toList == [99, 114, 101, 97, 116, 101]) = false := by rw [str_toList]; decide
  have q1 : ((str w_committed).toList == [114, 101, 109, 111, 118, 101]) = false := by rw [str_toList]; decide
  have q2 : ((str w_committed).toList == [100, 101, 115, 99, 114, 105, 98, 101]) = false := by rw [str_toList]; decide
  have q3 : ((str w_committed).toList == [112, 114, 111, 100, 117, 99, 101]) = false := by rw [str_toList]; decide
  have q4 : ((str w_committed).toList == [102, 101, 116, 99, 104]) = false := by rw [str_toList]; decide
  have q5 : ((str w_committed).toList == [98, 121, 116, 105, 109, 101]) = false := by rw [str_toList]; decide
  have q6 : ((str w_committed).toList == [106, 111, 105, 110]) = false := by rw [str_toList]; decide
  have q7 : ((str w_committed).toList == [108, 101, 97, 118, 101]) = false := by rw [str_toList]; decide
  have q8 : ((str w_committed).toList == [115, 121, 110, 99]) = false := by rw [str_toList]; decide
  have q9 : ((str w_committed).toList == [98, 101, 97, 116]) = false := by rw [str_toList]; decide
  have q10 : ((str w_committed).toList == [99, 111, 109, 109, 105, 116]) = false := by rw [str_toList]; decide
  have q11 : ((str w_committed).toList == [99, 111, 109, 109, 105, 116, 116, 101, 100]) = true := by rw [str_toList]; decide
  have HSH : Hid (reqSh w_committed = some (11, [.s, .s, .n])) := Lib.hid rfl
  have hlt := h0.rd.lt
  have H0 := Lib.hid h0
  clear h0
  obtain ⟨tw, htw⟩ : ∃ tw, w_committed = tw := ⟨_, rfl⟩
  rw [htw] at HSH q0 q1 q2 q3 q4 q5 q6 q7 q8 q9 q10 q11 ⊢
  clear htw
  cases ws with
  | nil =>
    have HT : Hid (tkAll [.s, .s, .n] [] = none) := Lib.hid (by simp only [tkAll, tkT])
    refine calls_wd ?_
    go_enter Tryz.func49, Tryz.ntmps49
    go_wp2_with (first
      | (go_at_call 48; refine (t_none H0.out (fun W0 h => h) (first_more H0.out (more_wd _ _ _))).mono ?_; rintro e w1 hs; obtain ⟨v9, x9, k9, rfl, rfl⟩ := hs.out; clear hs))
    exact ⟨rfl, reqret_no HSH.out HT.out (cno_of _ _ _ _)⟩
  | cons s0 r0 =>
    cases r0 with
    | nil =>
      have HT : Hid (tkAll [.s, .s, .n] (s0 :: []) = none) := Lib.hid (by simp only [tkAll, tkT])
      refine calls_wd ?_
      go_enter Tryz.func49, Tryz.ntmps49
      go_wp2_with (first
        | (go_at_call 48; refine (t_step H0.out (fun W0 h => h) (first_more H0.out (more_wd _ _ _))).mono ?_; rintro e w1 ⟨rfl, v0, x0, k0, hk, rfl⟩; have HK0 := Lib.hid hk; clear hk)
        | (go_at_call 48; refine (t_none H0.out HK0.out (more_wd _ _ _)).mono ?_; rintro e w1 hs; obtain ⟨v9, x9, k9, rfl, rfl⟩ := hs.out; clear hs))
      exact ⟨rfl, reqret_no HSH.out HT.out (cno_of _ _ _ _)⟩
    | cons s1 r1 =>
      cases hq2 : tkN r1 with
      | none =>
        have HT : Hid (tkAll [.s, .s, .n] (s0 :: (s1 :: r1)) = none) := Lib.hid (by simp only [tkAll, hq2, tkT])
        have HQ2 := Lib.hid hq2
        clear hq2
        refine calls_wd ?_
        go_enter Tryz.func49, Tryz.ntmps49
        go_wp2_with (first
          | (go_at_call 48; refine (t_step H0.out (fun W0 h => h) (first_more H0.out (more_wd _ _ _))).mono ?_; rintro e w1 ⟨rfl, v0, x0, k0, hk, rfl⟩; have HK0 := Lib.hid hk; clear hk)
          | (go_at_call 48; refine (t_step H0.out HK0.out (more_wd _ _ _)).mono ?_; rintro e w1 ⟨rfl, v1, x1, k1, hk, rfl⟩; have HK1 := Lib.hid hk; clear hk)
          | (go_at_call 50; refine (n_none H0.out HQ2.out HK1.out (more_wd _ _ _)).mono ?_; rintro e w1 hs; obtain ⟨v9, x9, k9, rfl, rfl⟩ := hs.out; clear hs))
        exact ⟨rfl, reqret_no HSH.out HT.out (cno_of _ _ _ _)⟩
      | some a =>
        obtain ⟨n2, r2⟩ := a
        have HT : Hid (tkAll [.s, .s, .n] (s0 :: (s1 :: r1)) = some ([.s s0, .s s1, .n n2], r2)) := Lib.hid (by simp only [tkAll, hq2, tkT])
        have HQ2 := Lib.hid hq2
        clear hq2
        refine calls_wd ?_
        go_enter Tryz.func49, Tryz.ntmps49
        go_wp2_with (first
          | (go_at_call 48; refine (t_step H0.out (fun W0 h => h) (first_more H0.out (more_wd _ _ _))).mono ?_; rintro e w1 ⟨rfl, v0, x0, k0, hk, rfl⟩; have HK0 := Lib.hid hk; clear hk)
          | (go_at_call 48; refine (t_step H0.out HK0.out (more_wd _ _ _)).mono ?_; rintro e w1 ⟨rfl, v1, x1, k1, hk, rfl⟩; have HK1 := Lib.hid hk; clear hk)
          | (go_at_call 50; refine (n_step H0.out HQ2.out HK1.out (more_wd _ _ _)).mono ?_; rintro e w1 ⟨rfl, v2, x2, k2, hk, rfl⟩; have HK2 := Lib.hid hk; clear hk))
        refine bodyPost_ret (v := .tuple #[.agg (rq (reqOf 11 [.s s0, .s s1, .n n2]) none 0), .bool true]) (by first | (simp [results, Tryz.results49, go_sem]; done) | (simp [results, Tryz.results49, go_sem]; rfl)) rfl ?_
        exact reqret_yes HSH.out HT.out rfl rfl (ctk_of _ _ HK2.out)
set_option maxRecDepth 100000 in
set_option maxHeartbeats 3200000 in
theorem req_commit (p : Nat) (v : Value) (ws : List Word) (w : World) (h0 : CS w p v ws) : Calls Tryz.prog 49 #[.pointer (some ⟨p, 0, none⟩), .string (str w_commit)] w fun e w' => ReqRet w w' e p v w_commit ws := by
  have q0 : ((str w_commit).toList == [99, 114, 101, 97, 116, 101]) = false := by rw [str_toList]; decide
  have q1 : ((str w_commit).toList == [114, 101, 109, 111, 118, 101]) = false := by rw [str_toList]; decide
  have q2 : ((str w_commit).toList == [100, 101, 115, 99, 114, 105, 98, 101]) = false := by rw [str_toList]; decide
  have q3 : ((str w_commit).toList == [112, 114, 111, 100, 117, 99, 101]) = false := by rw [str_toList]; decide
  have q4 : ((str w_commit).toList == [102, 101, 116, 99, 104]) = false := by rw [str_toList]; decide
  have q5 : ((str w_commit).toList == [98, 121, 116, 105, 109, 101]) = false := by rw [str_toList]; decide
  have q6 : ((str w_commit).toList == [106, 111, 105, 110]) = false := by rw [str_toList]; decide
  have q7 : ((str w_commit).toList == [108, 101, 97, 118, 101]) = false := by rw [str_toList]; decide
  have q8 : ((str w_commit).toList == [115, 121, 110, 99]) = false := by rw [str_toList]; decide
  have q9 : ((str w_commit).toList == [98, 101, 97, 116]) = false := by rw [str_toList]; decide
  have q10 : ((str w_commit).toList == [99, 111, 109, 109, 105, 116]) = true := by rw [str_toList]; decide
  have HSH : Hid (reqSh w_commit = some (10, [.s, .s, .n, .s, .n, .n])) := Lib.hid rfl
  have hlt := h0.rd.lt
  have H0 := Lib.hid h0
  clear h0
  obtain ⟨tw, htw⟩ : ∃ tw, w_commit = tw := ⟨_, rfl⟩
  rw [htw] at HSH q0 q1 q2 q3 q4 q5 q6 q7 q8 q9 q10 ⊢
  clear htw
  cases ws with
  | nil =>
    have HT : Hid (tkAll [.s, .s, .n, .s, .n, .n] [] = none) := Lib.hid (by simp only [tkAll, tkT])
    refine calls_wd ?_
    go_enter Tryz.func49, Tryz.ntmps49
    go_wp2_with (first
      | (go_at_call 48; refine (t_none H0.out (fun W0 h => h) (first_more H0.out (more_wd _ _ _))).mono ?_; rintro e w1 hs; obtain ⟨v9, x9, k9, rfl, rfl⟩ := hs.out; clear hs))
    exact ⟨rfl, reqret_no HSH.out HT.out (cno_of _ _ _ _)⟩
  | cons s0 r0 =>
    cases r0 with
    | nil =>
      have HT : Hid (tkAll [.s, .s, .n, .s, .n, .n] (s0 :: []) = none) := Lib.hid (by simp only [tkAll, tkT])
      refine calls_wd ?_
      go_enter Tryz.func49, Tryz.ntmps49
      go_wp2_with (first
        | (go_at_call 48; refine (t_step H0.out (fun W0 h => h) (first_more H0.out (more_wd _ _ _))).mono ?_; rintro e w1 ⟨rfl, v0, x0, k0, hk, rfl⟩; have HK0 := Lib.hid hk; clear hk)
        | (go_at_call 48; refine (t_none H0.out HK0.out (more_wd _ _ _)).mono ?_; rintro e w1 hs; obtain ⟨v9, x9, k9, rfl, rfl⟩ := hs.out; clear hs))
      exact ⟨rfl, reqret_no HSH.out HT.out (cno_of _ _ _ _)⟩
    | cons s1 r1 =>
      cases hq2 : tkN r1 with
      | none =>
        have HT : Hid (tkAll [.s, .s, .n, .s, .n, .n] (s0 :: (s1 :: r1)) = none) := Lib.hid (by simp only [tkAll, hq2, tkT])
        have HQ2 := Lib.hid hq2
        clear hq2
        refine calls_wd ?_
        go_enter Tryz.func49, Tryz.ntmps49
        go_wp2_with (first
          | (go_at_call 48; refine (t_step H0.out (fun W0 h => h) (first_more H0.out (more_wd _ _ _))).mono ?_; rintro e w1 ⟨rfl, v0, x0, k0, hk, rfl⟩; have HK0 := Lib.hid hk; clear hk)
          | (go_at_call 48; refine (t_step H0.out HK0.out (more_wd _ _ _)).mono ?_; rintro e w1 ⟨rfl, v1, x1, k1, hk, rfl⟩; have HK1 := Lib.hid hk; clear hk)
          | (go_at_call 50; refine (n_none H0.out HQ2.out HK1.out (more_wd _ _ _)).mono ?_; rintro e w1 hs; obtain ⟨v9, x9, k9, rfl, rfl⟩ := hs.out; clear hs))
        exact ⟨rfl, reqret_no HSH.out HT.out (cno_of _ _ _ _)⟩
      | some a =>
        obtain ⟨n2, r2⟩ := a
        cases r2 with
        | nil =>
          have HT : Hid (tkAll [.s, .s, .n, .s, .n, .n] (s0 :: (s1 :: r1)) = none) := Lib.hid (by simp only [tkAll, hq2, tkT])
          have HQ2 := Lib.hid hq2
          clear hq2
          refine calls_wd ?_
          go_enter Tryz.func49, Tryz.ntmps49
          go_wp2_with (first
            | (go_at_call 48; refine (t_step H0.out (fun W0 h => h) (first_more H0.out (more_wd _ _ _))).mono ?_; rintro e w1 ⟨rfl, v0, x0, k0, hk, rfl⟩; have HK0 := Lib.hid hk; clear hk)
            | (go_at_call 48; refine (t_step H0.out HK0.out (more_wd _ _ _)).mono ?_; rintro e w1 ⟨rfl, v1, x1, k1, hk, rfl⟩; have HK1 := Lib.hid hk; clear hk)
            | (go_at_call 50; refine (n_step H0.out HQ2.out HK1.out (more_wd _ _ _)).mono ?_; rintro e w1 ⟨rfl, v2, x2, k2, hk, rfl⟩; have HK2 := Lib.hid hk; clear hk)
            | (go_at_call 48; refine (t_none H0.out HK2.out (more_wd _ _ _)).mono ?_; rintro e w1 hs; obtain ⟨v9, x9, k9, rfl, rfl⟩ := hs.out; clear hs))
          exact ⟨rfl, reqret_no HSH.out HT.out (cno_of _ _ _ _)⟩
        | cons s3 r3 =>
          cases hq4 : tkN r3 with
          | none =>
            have HT : Hid (tkAll [.s, .s, .n, .s, .n, .n] (s0 :: (s1 :: r1)) = none) := Lib.hid (by simp only [tkAll, hq2, hq4, tkT])
            have HQ2 := Lib.hid hq2
            have HQ4 := Lib.hid hq4
            clear hq2 hq4
            refine calls_wd ?_
            go_enter Tryz.func49, Tryz.ntmps49
            go_wp2_with (first
              | (go_at_call 48; refine (t_step H0.out (fun W0 h => h) (first_more H0.out (more_wd _ _ _))).mono ?_; rintro e w1 ⟨rfl, v0, x0, k0, hk, rfl⟩; have HK0 := Lib.hid hk; clear hk)
              | (go_at_call 48; refine (t_step H0.out HK0.out (more_wd _ _ _)).mono ?_; rintro e w1 ⟨rfl, v1, x1, k1, hk, rfl⟩; have HK1 := Lib.hid hk; clear hk)
              | (go_at_call 50; refine (n_step H0.out HQ2.out HK1.out (more_wd _ _ _)).mono ?_; rintro e w1 ⟨rfl, v2, x2, k2, hk, rfl⟩; have HK2 := Lib.hid hk; clear hk)
              | (go_at_call 48; refine (t_step H0.out HK2.out (more_wd _ _ _)).mono ?_; rintro e w1 ⟨rfl, v3, x3, k3, hk, rfl⟩; have HK3 := Lib.hid hk; clear hk)
              | (go_at_call 50; refine (n_none H0.out HQ4.out HK3.out (more_wd _ _ _)).mono ?_; rintro e w1 hs; obtain ⟨v9, x9, k9, rfl, rfl⟩ := hs.out; clear hs))
            exact ⟨rfl, reqret_no HSH.out HT.out (cno_of _ _ _ _)⟩
          | some a =>
            obtain ⟨n4, r4⟩ := a
            cases hq5 : tkN r4 with
            | none =>
              have HT : Hid (tkAll [.s, .s, .n, .s, .n, .n] (s0 :: (s1 :: r1)) = none) := Lib.hid (by simp only [tkAll, hq2, hq4, hq5, tkT])
              have HQ2 := Lib.hid hq2
              have HQ4 := Lib.hid hq4
              have HQ5 := Lib.hid hq5
              clear hq2 hq4 hq5
              refine calls_wd ?_
              go_enter Tryz.func49, Tryz.ntmps49
              go_wp2_with (first
                | (go_at_call 48; refine (t_step H0.out (fun W0 h => h) (first_more H0.out (more_wd _ _ _))).mono ?_; rintro e w1 ⟨rfl, v0, x0, k0, hk, rfl⟩; have HK0 := Lib.hid hk; clear hk)
                | (go_at_call 48; refine (t_step H0.out HK0.out (more_wd _ _ _)).mono ?_; rintro e w1 ⟨rfl, v1, x1, k1, hk, rfl⟩; have HK1 := Lib.hid hk; clear hk)
                | (go_at_call 50; refine (n_step H0.out HQ2.out HK1.out (more_wd _ _ _)).mono ?_; rintro e w1 ⟨rfl, v2, x2, k2, hk, rfl⟩; have HK2 := Lib.hid hk; clear hk)
                | (go_at_call 48; refine (t_step H0.out HK2.out (more_wd _ _ _)).mono ?_; rintro e w1 ⟨rfl, v3, x3, k3, hk, rfl⟩; have HK3 := Lib.hid hk; clear hk)
                | (go_at_call 50; refine (n_step H0.out HQ4.out HK3.out (more_wd _ _ _)).mono ?_; rintro e w1 ⟨rfl, v4, x4, k4, hk, rfl⟩; have HK4 := Lib.hid hk; clear hk)
                | (go_at_call 50; refine (n_none H0.out HQ5.out HK4.out (more_wd _ _ _)).mono ?_; rintro e w1 hs; obtain ⟨v9, x9, k9, rfl, rfl⟩ := hs.out; clear hs))
              exact ⟨rfl, reqret_no HSH.out HT.out (cno_of _ _ _ _)⟩
            | some a =>
              obtain ⟨n5, r5⟩ := a
              have HT : Hid (tkAll [.s, .s, .n, .s, .n, .n] (s0 :: (s1 :: r1)) = some ([.s s0, .s s1, .n n2, .s s3, .n n4, .n n5], r5)) := Lib.hid (by simp only [tkAll, hq2, hq4, hq5, tkT])
              have HQ2 := Lib.hid hq2
              have HQ4 := Lib.hid hq4
              have HQ5 := Lib.hid hq5
              clear hq2 hq4 hq5
              refine calls_wd ?_
              go_enter Tryz.func49, Tryz.ntmps49
              go_wp2_with (first
                | (go_at_call 48; refine (t_step H0.out (fun W0 h => h) (first_more H0.out (more_wd _ _ _))).mono ?_; rintro e w1 ⟨rfl, v0, x0, k0, hk, rfl⟩; have HK0 := Lib.hid hk; clear hk)
                | (go_at_call 48; refine (t_step H0.out HK0.out (more_wd _ _ _)).mono ?_; rintro e w1 ⟨rfl, v1, x1, k1, hk, rfl⟩; have HK1 := Lib.hid hk; clear hk)
                | (go_at_call 50; refine (n_step H0.out HQ2.out HK1.out (more_wd _ _ _)).mono ?_; rintro e w1 ⟨rfl, v2, x2, k2, hk, rfl⟩; have HK2 := Lib.hid hk; clear hk)
                | (go_at_call 48; refine (t_step H0.out HK2.out (more_wd _ _ _)).mono ?_; rintro e w1 ⟨rfl, v3, x3, k3, hk, rfl⟩; have HK3 := Lib.hid hk; clear hk)
                | (go_at_call 50; refine (n_step H0.out HQ4.out HK3.out (more_wd _ _ _)).mono ?_; rintro e w1 ⟨rfl, v4, x4, k4, hk, rfl⟩; have HK4 := Lib.hid hk; clear hk)
                | (go_at_call 50; refine (n_step H0.out HQ5.out HK4.out (more_wd _ _ _)).mono ?_; rintro e w1 ⟨rfl, v5, x5, k5, hk, rfl⟩; have HK5 := Lib.hid hk; clear hk))
              refine bodyPost_ret (v := .tuple #[.agg (rq (reqOf 10 [.s s0, .s s1, .n n2, .s s3, .n n4, .n n5]) none 0), .bool true]) (by first | (simp [results, Tryz.results49, go_sem]; done) | (simp [results, Tryz.results49, go_sem]; rfl)) rfl ?_
              exact reqret_yes HSH.out HT.out rfl rfl (ctk_of _ _ HK5.out)
end Go.Proofs.YtifoekadjnlhcaaGreatDoor
