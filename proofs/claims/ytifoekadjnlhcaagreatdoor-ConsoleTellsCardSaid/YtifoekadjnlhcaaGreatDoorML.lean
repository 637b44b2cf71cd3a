/- console: request, create, remove, describe (printed by gen/cpg.py). -/
import Derived.Test.YtifoekadjnlhcaaGreatDoorMK
namespace Go.Proofs.YtifoekadjnlhcaaGreatDoor
open Go.ChangeShapes Go.WideShapes Go.ChangeAt Go.RowKit
set_option linter.unusedVariables false
set_option linter.unusedSimpArgs false
set_option maxRecDepth 100000 in
set_option maxHeartbeats 3200000 in
theorem req_create (p : Nat) (v : Value) (ws : List Word) (w : World) (h0 : CS w p v ws) : Calls Tryz.prog 49 #[.pointer (some ⟨p, 0, none⟩), .string (str w_create)] w fun e w' => ReqRet w w' e p v w_create ws := by
  have q0 : ((str w_create).toList == [99, 114, 101, 97, 116, 101]) = true := by rw [str_toList]; decide
  have HSH : Hid (reqSh w_create = some (0, [.s, .n, .y])) := Lib.hid rfl
  have hlt := h0.rd.lt
  have H0 := Lib.hid h0
  clear h0
  obtain ⟨tw, htw⟩ : ∃ tw, w_create = tw := ⟨_, rfl⟩
  rw [htw] at HSH q0 ⊢
  clear htw
  cases ws with
  | nil =>
    have HT : Hid (tkAll [.s, .n, .y] [] = none) := Lib.hid (by simp only [tkAll, tkT])
    refine calls_wd ?_
    go_enter Tryz.func49, Tryz.ntmps49
    go_wp2_with (first
      | (go_at_call 48; refine (t_none H0.out (fun W0 h => h) (first_more H0.out (more_wd _ _ _))).mono ?_; rintro e w1 hs; obtain ⟨v9, x9, k9, rfl, rfl⟩ := hs.out; clear hs))
    exact ⟨rfl, reqret_no HSH.out HT.out (cno_of _ _ _ _)⟩
  | cons s0 r0 =>
    cases hq1 : tkN r0 with
    | none =>
      have HT : Hid (tkAll [.s, .n, .y] (s0 :: r0) = none) := Lib.hid (by simp only [tkAll, hq1, tkT])
      have HQ1 := Lib.hid hq1
      clear hq1
      refine calls_wd ?_
      go_enter Tryz.func49, Tryz.ntmps49
      go_wp2_with (first
        | (go_at_call 48; refine (t_step H0.out (fun W0 h => h) (first_more H0.out (more_wd _ _ _))).mono ?_; rintro e w1 ⟨rfl, v0, x0, k0, hk, rfl⟩; have HK0 := Lib.hid hk; clear hk)
        | (go_at_call 50; refine (n_none H0.out HQ1.out HK0.out (more_wd _ _ _)).mono ?_; rintro e w1 hs; obtain ⟨v9, x9, k9, rfl, rfl⟩ := hs.out; clear hs))
      exact ⟨rfl, reqret_no HSH.out HT.out (cno_of _ _ _ _)⟩
    | some a =>
      obtain ⟨n1, r1⟩ := a
      cases hq2 : tkY r1 with
      | none =>
        have HT : Hid (tkAll [.s, .n, .y] (s0 :: r0) = none) := Lib.hid (by simp only [tkAll, hq1, hq2, tkT])
        have HQ1 := Lib.hid hq1
        have HQ2 := Lib.hid hq2
        clear hq1 hq2
        refine calls_wd ?_
        go_enter Tryz.func49, Tryz.ntmps49
        go_wp2_with (first
          | (go_at_call 48; refine (t_step H0.out (fun W0 h => h) (first_more H0.out (more_wd _ _ _))).mono ?_; rintro e w1 ⟨rfl, v0, x0, k0, hk, rfl⟩; have HK0 := Lib.hid hk; clear hk)
          | (go_at_call 50; refine (n_step H0.out HQ1.out HK0.out (more_wd _ _ _)).mono ?_; rintro e w1 ⟨rfl, v1, x1, k1, hk, rfl⟩; have HK1 := Lib.hid hk; clear hk)
          | (go_at_call 51; refine (y_none H0.out HQ2.out HK1.out (more_wd _ _ _)).mono ?_; rintro e w1 hs; obtain ⟨v9, x9, k9, rfl, rfl⟩ := hs.out; clear hs))
        exact ⟨rfl, reqret_no HSH.out HT.out (cno_of _ _ _ _)⟩
      | some a =>
        obtain ⟨b2, r2⟩ := a
        have HT : Hid (tkAll [.s, .n, .y] (s0 :: r0) = some ([.s s0, .n n1, .y b2], r2)) := Lib.hid (by simp only [tkAll, hq1, hq2, tkT])
        have HQ1 := Lib.hid hq1
        have HQ2 := Lib.hid hq2
        clear hq1 hq2
        refine calls_wd ?_
        go_enter Tryz.func49, Tryz.ntmps49
        go_wp2_with (first
          | (go_at_call 48; refine (t_step H0.out (fun W0 h => h) (first_more H0.out (more_wd _ _ _))).mono ?_; rintro e w1 ⟨rfl, v0, x0, k0, hk, rfl⟩; have HK0 := Lib.hid hk; clear hk)
          | (go_at_call 50; refine (n_step H0.out HQ1.out HK0.out (more_wd _ _ _)).mono ?_; rintro e w1 ⟨rfl, v1, x1, k1, hk, rfl⟩; have HK1 := Lib.hid hk; clear hk)
          | (go_at_call 51; refine (y_step H0.out HQ2.out HK1.out (more_wd _ _ _)).mono ?_; rintro e w1 ⟨rfl, v2, x2, k2, hk, rfl⟩; have HK2 := Lib.hid hk; clear hk))
        refine bodyPost_ret (v := .tuple #[.agg (rq (reqOf 0 [.s s0, .n n1, .y b2]) none 0), .bool true]) (by first | (simp [results, Tryz.results49, go_sem]; done) | (simp [results, Tryz.results49, go_sem]; rfl)) rfl ?_
        exact reqret_yes HSH.out HT.out rfl rfl (ctk_of _ _ HK2.out)
set_option maxRecDepth 100000 in
set_option maxHeartbeats 3200000 in
theorem req_remove (p : Nat) (v : Value) (ws : List Word) (w : World) (h0 : CS w p v ws) : Calls Tryz.prog 49 #[.pointer (some ⟨p, 0, none⟩), .string (str w_remove)] w fun e w' => ReqRet w w' e p v w_remove ws := by
  have q0 : ((str w_remove).toList == [99, 114, 101, 97, 116, 101]) = false := by rw [str_toList]; decide
  have q1 : ((str w_remove).toList == [114, 101, 109, 111, 118, 101]) = true := by rw [str_toList]; decide
  have HSH : Hid (reqSh w_remove = some (1, [.s])) := Lib.hid rfl
  have hlt := h0.rd.lt
  have H0 := Lib.hid h0
  clear h0
  obtain ⟨tw, htw⟩ : ∃ tw, w_remove = tw := ⟨_, rfl⟩
  rw [htw] at HSH q0 q1 ⊢
  clear htw
  cases ws with
  | nil =>
    have HT : Hid (tkAll [.s] [] = none) := Lib.hid (by simp only [tkAll, tkT])
    refine calls_wd ?_
    go_enter Tryz.func49, Tryz.ntmps49
    go_wp2_with (first
      | (go_at_call 48; refine (t_none H0.out (fun W0 h => h) (first_more H0.out (more_wd _ _ _))).mono ?_; rintro e w1 hs; obtain ⟨v9, x9, k9, rfl, rfl⟩ := hs.out; clear hs))
    exact ⟨rfl, reqret_no HSH.out HT.out (cno_of _ _ _ _)⟩
  | cons s0 r0 =>
    have HT : Hid (tkAll [.s] (s0 :: r0) = some ([.s s0], r0)) := Lib.hid (by simp only [tkAll, tkT])
    refine calls_wd ?_
    go_enter Tryz.func49, Tryz.ntmps49
    go_wp2_with (first
      | (go_at_call 48; refine (t_step H0.out (fun W0 h => h) (first_more H0.out (more_wd _ _ _))).mono ?_; rintro e w1 ⟨rfl, v0, x0, k0, hk, rfl⟩; have HK0 := Lib.hid hk; clear hk))
    refine bodyPost_ret (v := .tuple #[.agg (rq (reqOf 1 [.s s0]) none 0), .bool true]) (by first | (simp [results, Tryz.results49, go_sem]; done) | (simp [results, Tryz.results49, go_sem]; rfl)) rfl ?_
    exact reqret_yes HSH.out HT.out rfl rfl (ctk_of _ _ HK0.out)
set_option maxRecDepth 100000 in
set_option maxHeartbeats 3200000 in
theorem req_describe (p : Nat) (v : Value) (ws : List Word) (w : World) (h0 : CS w p v ws) : Calls Tryz.prog 49 #[.pointer (some ⟨p, 0, none⟩), .string (str w_describe)] w fun e w' => ReqRet w w' e p v w_describe ws := by
  have q0 : ((str w_describe).toList == [99, 114, 101, 97, 116, 101]) = false := by rw [str_toList]; decide
  have q1 : ((str w_describe).toList == [114, 101, 109, 111, 118, 101]) = false := by rw [str_toList]; decide
  have q2 : ((str w_describe).toList == [100, 101, 115, 99, 114, 105, 98, 101]) = true := by rw [str_toList]; decide
  have HSH : Hid (reqSh w_describe = some (2, [.s])) := Lib.hid rfl
  have hlt := h0.rd.lt
  have H0 := Lib.hid h0
  clear h0
  obtain ⟨tw, htw⟩ : ∃ tw, w_describe = tw := ⟨_, rfl⟩
  rw [htw] at HSH q0 q1 q2 ⊢
  clear htw
  cases ws with
  | nil =>
    have HT : Hid (tkAll [.s] [] = none) := Lib.hid (by simp only [tkAll, tkT])
    refine calls_wd ?_
    go_enter Tryz.func49, Tryz.ntmps49
    go_wp2_with (first
      | (go_at_call 48; refine (t_none H0.out (fun W0 h => h) (first_more H0.out (more_wd _ _ _))).mono ?_; rintro e w1 hs; obtain ⟨v9, x9, k9, rfl, rfl⟩ := hs.out; clear hs))
    exact ⟨rfl, reqret_no HSH.out HT.out (cno_of _ _ _ _)⟩
  | cons s0 r0 =>
    have HT : Hid (tkAll [.s] (s0 :: r0) = some ([.s s0], r0)) := Lib.hid (by simp only [tkAll, tkT])
    refine calls_wd ?_
    go_enter Tryz.func49, Tryz.ntmps49
    go_wp2_with (first
      | (go_at_call 48; refine (t_step H0.out (fun W0 h => h) (first_more H0.out (more_wd _ _ _))).mono ?_; rintro e w1 ⟨rfl, v0, x0, k0, hk, rfl⟩; have HK0 := Lib.hid hk; clear hk))
    refine bodyPost_ret (v := .tuple #[.agg (rq (reqOf 2 [.s s0]) none 0), .bool true]) (by first | (simp [results, Tryz.results49, go_sem]; done) | (simp [results, Tryz.results49, go_sem]; rfl)) rfl ?_
    exact reqret_yes HSH.out HT.out rfl rfl (ctk_of _ _ HK0.out)
set_option maxRecDepth 100000 in
set_option maxHeartbeats 3200000 in
theorem req_fetch (p : Nat) (v : Value) (ws : List Word) (w : World) (h0 : CS w p v ws) : Calls Tryz.prog 49 #[.pointer (some ⟨p, 0, none⟩), .string (str w_fetch)] w fun e w' => ReqRet w w' e p v w_fetch ws := by
  have q0 : ((str w_fetch).toList == [99, 114, 101, 97, 116, 101]) = false := by rw [str_toList]; decide
  have q1 : ((str w_fetch).toList == [114, 101, 109, 111, 118, 101]) = false := by rw [str_toList]; decide
  have q2 : ((str w_fetch).toList == [100, 101, 115, 99, 114, 105, 98, 101]) = false := by rw [str_toList]; decide
  have q3 : ((str w_fetch).toList == [112, 114, 111, 100, 117, 99, 101]) = false := by rw [str_toList]; decide
  have q4 : ((str w_fetch).toList == [102, 101, 116, 99, 104]) = true := by rw [str_toList]; decide
  have HSH : Hid (reqSh w_fetch = some (4, [.s, .n, .n, .n])) := Lib.hid rfl
  have hlt := h0.rd.lt
  have H0 := Lib.hid h0
  clear h0
  obtain ⟨tw, htw⟩ : ∃ tw, w_fetch = tw := ⟨_, rfl⟩
  rw [htw] at HSH q0 q1 q2 q3 q4 ⊢
  clear htw
  cases ws with
  | nil =>
    have HT : Hid (tkAll [.s, .n, .n, .n] [] = none) := Lib.hid (by simp only [tkAll, tkT])
    refine calls_wd ?_
    go_enter Tryz.func49, Tryz.ntmps49
    go_wp2_with (first
      | (go_at_call 48; refine (t_none H0.out (fun W0 h => h) (first_more H0.out (more_wd _ _ _))).mono ?_; rintro e w1 hs; obtain ⟨v9, x9, k9, rfl, rfl⟩ := hs.out; clear hs))
    exact ⟨rfl, reqret_no HSH.out HT.out (cno_of _ _ _ _)⟩
  | cons s0 r0 =>
    cases hq1 : tkN r0 with
    | none =>
      have HT : Hid (tkAll [.s, .n, .n, .n] (s0 :: r0) = none) := Lib.hid (by simp only [tkAll, hq1, tkT])
      have HQ1 := Lib.hid hq1
      clear hq1
      refine calls_wd ?_
      go_enter Tryz.func49, Tryz.ntmps49
      go_wp2_with (first
        | (go_at_call 48; refine (t_step H0.out (fun W0 h => h) (first_more H0.out (more_wd _ _ _))).mono ?_; rintro e w1 ⟨rfl, v0, x0, k0, hk, rfl⟩; have HK0 := Lib.hid hk; clear hk)
        | (go_at_call 50; refine (n_none H0.out HQ1.out HK0.out (more_wd _ _ _)).mono ?_; rintro e w1 hs; obtain ⟨v9, x9, k9, rfl, rfl⟩ := hs.out; clear hs))
      exact ⟨rfl, reqret_no HSH.out HT.out (cno_of _ _ _ _)⟩
    | some a =>
      obtain ⟨n1, r1⟩ := a
      cases hq2 : tkN r1 with
      | none =>
        have HT : Hid (tkAll [.s, .n, .n, .n] (s0 :: r0) = none) := Lib.hid (by simp only [tkAll, hq1, hq2, tkT])
        have HQ1 := Lib.hid hq1
        have HQ2 := Lib.hid hq2
        clear hq1 hq2
        refine calls_wd ?_
        go_enter Tryz.func49, Tryz.ntmps49
        go_wp2_with (first
          | (go_at_call 48; refine (t_step H0.out (fun W0 h => h) (first_more H0.out (more_wd _ _ _))).mono ?_; rintro e w1 ⟨rfl, v0, x0, k0, hk, rfl⟩; have HK0 := Lib.hid hk; clear hk)
          | (go_at_call 50; refine (n_step H0.out HQ1.out HK0.out (more_wd _ _ _)).mono ?_; rintro e w1 ⟨rfl, v1, x1, k1, hk, rfl⟩; have HK1 := Lib.hid hk; clear hk)
          | (go_at_call 50; refine (n_none H0.out HQ2.out HK1.out (more_wd _ _ _)).mono ?_; rintro e w1 hs; obtain ⟨v9, x9, k9, rfl, rfl⟩ := hs.out; clear hs))
        exact ⟨rfl, reqret_no HSH.out HT.out (cno_of _ _ _ _)⟩
      | some a =>
        obtain ⟨n2, r2⟩ := a
        cases hq3 : tkN r2 with
        | none =>
          have HT : Hid (tkAll [.s, .n, .n, .n] (s0 :: r0) = none) := Lib.hid (by simp only [tkAll, hq1, hq2, hq3, tkT])
          have HQ1 := Lib.hid hq1
          have HQ2 := Lib.hid hq2
          have HQ3 := Lib.hid hq3
          clear hq1 hq2 hq3
          refine calls_wd ?_
          go_enter Tryz.func49, Tryz.ntmps49
          go_wp2_with (first
            | (go_at_call 48; refine (t_step H0.out (fun W0 h => h) (first_more H0.out (more_wd _ _ _))).mono ?_; rintro e w1 ⟨rfl, v0, x0, k0, hk, rfl⟩; have HK0 := Lib.hid hk; clear hk)
            | (go_at_call 50; refine (n_step H0.out HQ1.out HK0.out (more_wd _ _ _)).mono ?_; rintro e w1 ⟨rfl, v1, x1, k1, hk, rfl⟩; have HK1 := Lib.hid hk; clear hk)
            | (go_at_call 50; refine (n_step H0.out HQ2.out HK1.out (more_wd _ _ _)).mono ?_; rintro e w1 ⟨rfl, v2, x2, k2, hk, rfl⟩; have HK2 := Lib.hid hk; clear hk)
            | (go_at_call 50; refine (n_none H0.out HQ3.out HK2.out (more_wd _ _ _)).mono ?_; rintro e w1 hs; obtain ⟨v9, x9, k9, rfl, rfl⟩ := hs.out; clear hs))
          exact ⟨rfl, reqret_no HSH.out HT.out (cno_of _ _ _ _)⟩
        | some a =>
          obtain ⟨n3, r3⟩ := a
          have HT : Hid (tkAll [.s, .n, .n, .n] (s0 :: r0) = some ([.s s0, .n n1, .n n2, .n n3], r3)) := Lib.hid (by simp only [tkAll, hq1, hq2, hq3, tkT])
          have HQ1 := Lib.hid hq1
          have HQ2 := Lib.hid hq2
          have HQ3 := Lib.hid hq3
          clear hq1 hq2 hq3
          refine calls_wd ?_
          go_enter Tryz.func49, Tryz.ntmps49
          go_wp2_with (first
            | (go_at_call 48; refine (t_step H0.out (fun W0 h => h) (first_more H0.out (more_wd _ _ _))).mono ?_; rintro e w1 ⟨rfl, v0, x0, k0, hk, rfl⟩; have HK0 := Lib.hid hk; clear hk)
            | (go_at_call 50; refine (n_step H0.out HQ1.out HK0.out (more_wd _ _ _)).mono ?_; rintro e w1 ⟨rfl, v1, x1, k1, hk, rfl⟩; have HK1 := Lib.hid hk; clear hk)
            | (go_at_call 50; refine (n_step H0.out HQ2.out HK1.out (more_wd _ _ _)).mono ?_; rintro e w1 ⟨rfl, v2, x2, k2, hk, rfl⟩; have HK2 := Lib.hid hk; clear hk)
            | (go_at_call 50; refine (n_step H0.out HQ3.out HK2.out (more_wd _ _ _)).mono ?_; rintro e w1 ⟨rfl, v3, x3, k3, hk, rfl⟩; have HK3 := Lib.hid hk; clear hk))
          refine bodyPost_ret (v := .tuple #[.agg (rq (reqOf 4 [.s s0, .n n1, .n n2, .n n3]) none 0), .bool true]) (by first | (simp [results, Tryz.results49, go_sem]; done) | (simp [results, Tryz.results49, go_sem]; rfl)) rfl ?_
          exact reqret_yes HSH.out HT.out rfl rfl (ctk_of _ _ HK3.out)
set_option maxRecDepth 100000 in
set_option maxHeartbeats 3200000 in
theorem req_bytime (p : Nat) (v : Value) (ws : List Word) (w : World) (h0 : CS w p v ws) : Calls Tryz.prog 49 #[.pointer (some ⟨p, 0, none⟩), .string (str w_bytime)] w fun e w' => ReqRet w w' e p v w_bytime ws := by
  have q0 : ((str w_bytime).toList == [99, 114, 101, 97, 116, 101]) = false := by rw [str_toList]; decide
  have q1 : ((str w_bytime).toList == [114, 101, 109, 111, 118, 101]) = false := by rw [str_toList]; decide
  have q2 : ((str w_bytime).toList == [100, 101, 115, 99, 114, 105, 98, 101]) = false := by rw [str_toList]; decide
  have q3 : ((str w_bytime).toList == [112, 114, 111, 100, 117, 99, 101]) = false := by rw [str_toList]; decide
  have q4 : ((str w_bytime).toList == [102, 101, 116, 99, 104]) = false := by rw [str_toList]; decide
  have q5 : ((str w_bytime).toList == [98, 121, 116, 105, 109, 101]) = true := by rw [str_toList]; decide
  have HSH : Hid (reqSh w_bytime = some (5, [.s, .n, .n])) := Lib.hid rfl
  have hlt := h0.rd.lt
  have H0 := Lib.hid h0
  clear h0
  obtain ⟨tw, htw⟩ : ∃ tw, w_bytime = tw := ⟨_, rfl⟩
  rw [htw] at HSH q0 q1 q2 q3 q4 q5 ⊢
  clear htw
  cases ws with
  | nil =>
    have HT : Hid (tkAll [.s, .n, .n] [] = none) := Lib.hid (by simp only [tkAll, tkT])
    refine calls_wd ?_
    go_enter Tryz.func49, Tryz.ntmps49
    go_wp2_with (first
      | (go_at_call 48; refine (t_none H0.out (fun W0 h => h) (first_more H0.out (more_wd _ _ _))).mono ?_; rintro e w1 hs; obtain ⟨v9, x9, k9, rfl, rfl⟩ := hs.out; clear hs))
    exact ⟨rfl, reqret_no HSH.out HT.out (cno_of _ _ _ _)⟩
  | cons s0 r0 =>
    cases hq1 : tkN r0 with
    | none =>
      have HT : Hid (tkAll [.s, .n, .n] (s0 :: r0) = none) := Lib.hid (by simp only [tkAll, hq1, tkT])
      have HQ1 := Lib.hid hq1
      clear hq1
      refine calls_wd ?_
      go_enter Tryz.func49, Tryz.ntmps49
      go_wp2_with (first
        | (go_at_call 48; refine (t_step H0.out (fun W0 h => h) (first_more H0.out (more_wd _ _ _))).mono ?_; rintro e w1 ⟨rfl, v0, x0, k0, hk, rfl⟩; have HK0 := Lib.hid hk; clear hk)
        | (go_at_call 50; refine (n_none H0.out HQ1.out HK0.out (more_wd _ _ _)).mono ?_; rintro e w1 hs; obtain ⟨v9, x9, k9, rfl, rfl⟩ := hs.out; clear hs))
      exact ⟨rfl, reqret_no HSH.out HT.out (cno_of _ _ _ _)⟩
    | some a =>
      obtain ⟨n1, r1⟩ := a
      cases hq2 : tkN r1 with
      | none =>
        have HT : Hid (tkAll [.s, .n, .n] (s0 :: r0) = none) := Lib.hid (by simp only [tkAll, hq1, hq2, tkT])
        have HQ1 := Lib.hid hq1
        have HQ2 := Lib.hid hq2
        clear hq1 hq2
        refine calls_wd ?_
        go_enter Tryz.func49, Tryz.ntmps49
        go_wp2_with (first
          | (go_at_call 48; refine (t_step H0.out (fun W0 h => h) (first_more H0.out (more_wd _ _ _))).mono ?_; rintro e w1 ⟨rfl, v0, x0, k0, hk, rfl⟩; have HK0 := Lib.hid hk; clear hk)
          | (go_at_call 50; refine (n_step H0.out HQ1.out HK0.out (more_wd _ _ _)).mono ?_; rintro e w1 ⟨rfl, v1, x1, k1, hk, rfl⟩; have HK1 := Lib.hid hk; clear hk)
          | (go_at_call 50; refine (n_none H0.out HQ2.out HK1.out (more_wd _ _ _)).mono ?_; rintro e w1 hs; obtain ⟨v9, x9, k9, rfl, rfl⟩ := hs.out; clear hs))
        exact ⟨rfl, reqret_no HSH.out HT.out (cno_of _ _ _ _)⟩
      | some a =>
        obtain ⟨n2, r2⟩ := a
        have HT : Hid (tkAll [.s, .n, .n] (s0 :: r0) = some ([.s s0, .n n1, .n n2], r2)) := Lib.hid (by simp only [tkAll, hq1, hq2, tkT])
        have HQ1 := Lib.hid hq1
        have HQ2 := Lib.hid hq2
        clear hq1 hq2
        refine calls_wd ?_
        go_enter Tryz.func49, Tryz.ntmps49
        go_wp2_with (first
          | (go_at_call 48; refine (t_step H0.out (fun W0 h => h) (first_more H0.out (more_wd _ _ _))).mono ?_; rintro e w1 ⟨rfl, v0, x0, k0, hk, rfl⟩; have HK0 := Lib.hid hk; clear hk)
          | (go_at_call 50; refine (n_step H0.out HQ1.out HK0.out (more_wd _ _ _)).mono ?_; rintro e w1 ⟨rfl, v1, x1, k1, hk, rfl⟩; have HK1 := Lib.hid hk; clear hk)
          | (go_at_call 50; refine (n_step H0.out HQ2.out HK1.out (more_wd _ _ _)).mono ?_; rintro e w1 ⟨rfl, v2, x2, k2, hk, rfl⟩; have HK2 := Lib.hid hk; clear hk))
        refine bodyPost_ret (v := .tuple #[.agg (rq (reqOf 5 [.s s0, .n n1, .n n2]) none 0), .bool true]) (by first | (simp [results, Tryz.results49, go_sem]; done) | (simp [results, Tryz.results49, go_sem]; rfl)) rfl ?_
        exact reqret_yes HSH.out HT.out rfl rfl (ctk_of _ _ HK2.out)
end Go.Proofs.YtifoekadjnlhcaaGreatDoor
