/- console: request, produce and no request; request, whatever the word. -/
import Derived.Test.YtifoekadjnlhcaaGreatDoorML
import Derived.Test.YtifoekadjnlhcaaGreatDoorMM
import Derived.Test.YtifoekadjnlhcaaGreatDoorMP
namespace Go.Proofs.YtifoekadjnlhcaaGreatDoor
open Go.ChangeShapes Go.WideShapes Go.ChangeAt Go.RowKit
set_option linter.unusedVariables false
set_option linter.unusedSimpArgs false
theorem reqget_no {w w' : World} {e : Ending} {p : Nat} {v : Value} {t : Word} {ws : List Word} (h : requestW t ws = none) (hc : CNo w w' e p) : ReqGet w w' e p v t ws := ⟨by rw [h]; exact hc⟩
theorem reqget_yes {w w' : World} {e : Ending} {p : Nat} {v : Value} {t : Word} {ws r : List Word} {q : Req} {a : Option Addr} {cap : Nat} (h : requestW t ws = some (some q, r)) (he : e = .returned (.tuple #[.agg (rq q a cap), .bool true])) (hc : CTk w w' p v ws r) (hr : RecsNew w.heap.size w' a cap q.batch.recs) : ReqGet w w' e p v t ws := ⟨by rw [h]; exact ⟨a, cap, he, hc, hr⟩⟩
theorem reqget_non {w w' : World} {e : Ending} {p : Nat} {v : Value} {t : Word} {ws r : List Word} (h : requestW t ws = some (none, r)) (he : e = .returned (.tuple #[.agg (rq (reqBlank 0) none 0), .bool false])) (hc : CTk w w' p v ws r) : ReqGet w w' e p v t ws := ⟨by rw [h]; exact ⟨he, hc⟩⟩
theorem ctk_first {w : World} {p : Nat} {v : Value} {ws : List Word} (h0 : CS w p v ws) {L : List (Array Obj)} {k : Nat} : CTk w (wd w L k) p v ws ws := by
  obtain ⟨x, m, h⟩ := more_wd w L k
  exact ⟨v, x, m, fun _ h => h, by rw [cset_self h0.rd]; exact h⟩
theorem requestW_prod (ws : List Word) : requestW w_produce ws = match prodW ws with
    | none => none
    | some (q, r) => some (some q, r) := rfl
set_option maxRecDepth 100000 in
set_option maxHeartbeats 3200000 in
theorem req_produce (p : Nat) (v : Value) (ws : List Word) (w : World) (h0 : CS w p v ws) : Calls Tryz.prog 49 #[.pointer (some ⟨p, 0, none⟩), .string (str w_produce)] w fun e w' => ReqGet w w' e p v w_produce ws := by
  have q0 : ((str w_produce).toList == [99, 114, 101, 97, 116, 101]) = false := by rw [str_toList]; decide
  have q1 : ((str w_produce).toList == [114, 101, 109, 111, 118, 101]) = false := by rw [str_toList]; decide
  have q2 : ((str w_produce).toList == [100, 101, 115, 99, 114, 105, 98, 101]) = false := by rw [str_toList]; decide
  have q3 : ((str w_produce).toList == [112, 114, 111, 100, 117, 99, 101]) = true := by rw [str_toList]; decide
  have HRW := Lib.hid (requestW_prod ws)
  have HLT := Lib.hid h0.rd.lt
  have hlt := h0.rd.lt
  have H0 := Lib.hid h0
  clear h0
  obtain ⟨tw, htw⟩ : ∃ tw, w_produce = tw := ⟨_, rfl⟩
  rw [htw] at HRW q0 q1 q2 q3 ⊢
  clear htw
  cases hq : prodW ws with
  | none =>
    have HT : Hid (requestW tw ws = none) := Lib.hid (by rw [HRW.out, hq])
    have HP := Lib.hid hq
    clear hq
    refine calls_wd ?_
    go_enter Tryz.func49, Tryz.ntmps49
    go_wp2_with (first
      | (go_at_call 75; refine (prod_any p v ws _ (H0.out.more (more_wd _ _ _))).mono ?_; rintro e w1 hs; have hs2 := hs.out; rw [HP.out] at hs2; obtain ⟨v9, x9, k9, rfl, rfl⟩ := hs2.out; clear hs hs2))
    exact ⟨rfl, reqget_no HT.out (cno_of _ _ _ _)⟩
  | some c =>
    obtain ⟨q, r⟩ := c
    have HT : Hid (requestW tw ws = some (some q, r)) := Lib.hid (by rw [HRW.out, hq])
    have HP := Lib.hid hq
    clear hq
    refine calls_wd ?_
    go_enter Tryz.func49, Tryz.ntmps49
    go_wp2_with (first
      | (go_at_call 75; refine (prod_any p v ws _ (H0.out.more (more_wd _ _ _))).mono ?_; rintro e w1 hs; have hs2 := hs.out; rw [HP.out] at hs2; obtain ⟨a, cap, rfl, hk, hr⟩ := hs2; obtain ⟨v2, x2, k2, hk2, rfl⟩ := hk.out; have HR := Lib.hid hr; have HK := Lib.hid hk2; clear hs hk hr hk2))
    refine bodyPost_ret (v := .tuple #[.agg (rq q a cap), .bool true]) (by first | (simp [results, Tryz.results49, go_sem]; done) | (simp [results, Tryz.results49, go_sem]; rfl)) rfl ?_
    exact reqget_yes HT.out rfl (ctk_of _ _ HK.out) (HR.out.wd HLT.out rfl)
set_option maxRecDepth 100000 in
set_option maxHeartbeats 3200000 in
theorem req_none (p : Nat) (v : Value) (t : Word) (ws : List Word) (w : World) (h0 : CS w p v ws) (hs : reqSh t = none) (hp : t ≠ w_produce) : Calls Tryz.prog 49 #[.pointer (some ⟨p, 0, none⟩), .string (str t)] w fun e w' => ReqGet w w' e p v t ws := by
  have HT : Hid (requestW t ws = some (none, ws)) := Lib.hid (by unfold requestW; rw [hs]; dsimp only; rw [if_neg hp])
  have hne : ∀ l, t ≠ l → ((str t).toList == l) = false := fun l h => by rw [str_toList]; exact beq_false_of_ne h
  unfold reqSh at hs
  have q0 := hne w_create (fun h => by rw [if_pos h] at hs; cases hs)
  rw [if_neg (fun h => by rw [if_pos h] at hs; cases hs)] at hs
  have q1 := hne w_remove (fun h => by rw [if_pos h] at hs; cases hs)
  rw [if_neg (fun h => by rw [if_pos h] at hs; cases hs)] at hs
  have q2 := hne w_describe (fun h => by rw [if_pos h] at hs; cases hs)
  rw [if_neg (fun h => by rw [if_pos h] at hs; cases hs)] at hs
  have q3 := hne w_produce hp
  have q4 := hne w_fetch (fun h => by rw [if_pos h] at hs; cases hs)
  rw [if_neg (fun h => by rw [if_pos h] at hs; cases hs)] at hs
  have q5 := hne w_bytime (fun h => by rw [if_pos h] at hs; cases hs)
  rw [if_neg (fun h => by rw [if_pos h] at hs; cases hs)] at hs
  have q6 := hne w_join (fun h => by rw [if_pos h] at hs; cases hs)
  rw [if_neg (fun h => by rw [if_pos h] at hs; cases hs)] at hs
  have q7 := hne w_leave (fun h => by rw [if_pos h] at hs; cases hs)
  rw [if_neg (fun h => by rw [if_pos h] at hs; cases hs)] at hs
  have q8 := hne w_sync (fun h => by rw [if_pos h] at hs; cases hs)
  rw [if_neg (fun h => by rw [if_pos h] at hs; cases hs)] at hs
  have q9 := hne w_beat (fun h => by rw [if_pos h] at hs; cases hs)
  rw [if_neg (fun h => by rw [if_pos h] at hs; cases hs)] at hs
  have q10 := hne w_commit (fun h => by rw [if_pos h] at hs; cases hs)
  rw [if_neg (fun h => by rw [if_pos h] at hs; cases hs)] at hs
  have q11 := hne w_committed (fun h => by rw [if_pos h] at hs; cases hs)
  clear hs hp hne
  unfold w_create at q0; unfold w_remove at q1; unfold w_describe at q2; unfold w_produce at q3; unfold w_fetch at q4; unfold w_bytime at q5; unfold w_join at q6; unfold w_leave at q7; unfold w_sync at q8; unfold w_beat at q9; unfold w_commit at q10; unfold w_committed at q11
  have hlt := h0.rd.lt
  have H0 := Lib.hid h0
  clear h0
  refine calls_wd ?_
  go_enter Tryz.func49, Tryz.ntmps49
  go_wp2
  refine bodyPost_ret (v := .tuple #[.agg (rq (reqBlank 0) none 0), .bool false]) (by first | (simp [results, Tryz.results49, go_sem]; done) | (simp [results, Tryz.results49, go_sem]; rfl)) rfl ?_
  exact reqget_non HT.out rfl (ctk_first H0.out)
theorem request_any (p : Nat) (v : Value) (t : Word) (ws : List Word) (w : World) (h0 : CS w p v ws) : Calls Tryz.prog 49 #[.pointer (some ⟨p, 0, none⟩), .string (str t)] w fun e w' => ReqGet w w' e p v t ws := by
  by_cases h : t = w_create
  · subst h; exact (req_create p v ws w h0).mono (fun e w' h => h.get rfl)
  by_cases h : t = w_remove
  · subst h; exact (req_remove p v ws w h0).mono (fun e w' h => h.get rfl)
  by_cases h : t = w_describe
  · subst h; exact (req_describe p v ws w h0).mono (fun e w' h => h.get rfl)
  by_cases h : t = w_produce
  · subst h; exact req_produce p v ws w h0
  by_cases h : t = w_fetch
  · subst h; exact (req_fetch p v ws w h0).mono (fun e w' h => h.get rfl)
  by_cases h : t = w_bytime
  · subst h; exact (req_bytime p v ws w h0).mono (fun e w' h => h.get rfl)
  by_cases h : t = w_join
  · subst h; exact (req_join p v ws w h0).mono (fun e w' h => h.get rfl)
  by_cases h : t = w_leave
  · subst h; exact (req_leave p v ws w h0).mono (fun e w' h => h.get rfl)
  by_cases h : t = w_sync
  · subst h; exact (req_sync p v ws w h0).mono (fun e w' h => h.get rfl)
  by_cases h : t = w_beat
  · subst h; exact (req_beat p v ws w h0).mono (fun e w' h => h.get rfl)
  by_cases h : t = w_commit
  · subst h; exact (req_commit p v ws w h0).mono (fun e w' h => h.get rfl)
  by_cases h : t = w_committed
  · subst h; exact (req_committed p v ws w h0).mono (fun e w' h => h.get rfl)
  exact req_none p v t ws w h0 (by unfold reqSh; simp [*]) (by assumption)
end Go.Proofs.YtifoekadjnlhcaaGreatDoor
