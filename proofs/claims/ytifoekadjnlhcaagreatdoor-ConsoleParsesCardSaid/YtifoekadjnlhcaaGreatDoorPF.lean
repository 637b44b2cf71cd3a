/- the document's console: request by its shape; Parse, a produce, a request (printed by gen/crk.py). -/
import Derived.Test.YtifoekadjnlhcaaGreatDoorPD
import Derived.Test.YtifoekadjnlhcaaGreatDoorPE
import Derived.Test.YtifoekadjnlhcaaGreatDoorMR
import Derived.Test.YtifoekadjnlhcaaGreatDoorMV
import Derived.Test.YtifoekadjnlhcaaGreatDoorPA
namespace Go.Proofs.YtifoekadjnlhcaaGreatDoor
open Go.ChangeShapes Go.WideShapes Go.ChangeAt Go.RowKit
set_option linter.unusedVariables false
set_option linter.unusedSimpArgs false
def tvK : TV → TK
  | .s _ => .s
  | .n _ => .n
  | .y _ => .y
theorem tkAll_form : ∀ (sh : List TK) (ws : List Word) (vs : List TV) (q : List Word), tkAll sh ws = some (vs, q) → vs.map tvK = sh
  | [], ws, vs, q, h => by simp [tkAll] at h; obtain ⟨rfl, _⟩ := h; rfl
  | .s :: sh, ws, vs, q, h => by
    simp only [tkAll] at h
    cases h1 : tkT ws with
    | none => rw [h1] at h; cases h
    | some p =>
      obtain ⟨t, r⟩ := p
      rw [h1] at h
      dsimp only at h
      cases h2 : tkAll sh r with
      | none => rw [h2] at h; cases h
      | some p2 => obtain ⟨v2, q2⟩ := p2; rw [h2] at h; cases h; simp [tvK, tkAll_form sh r v2 _ h2]
  | .n :: sh, ws, vs, q, h => by
    simp only [tkAll] at h
    cases h1 : tkN ws with
    | none => rw [h1] at h; cases h
    | some p =>
      obtain ⟨t, r⟩ := p
      rw [h1] at h
      dsimp only at h
      cases h2 : tkAll sh r with
      | none => rw [h2] at h; cases h
      | some p2 => obtain ⟨v2, q2⟩ := p2; rw [h2] at h; cases h; simp [tvK, tkAll_form sh r v2 _ h2]
  | .y :: sh, ws, vs, q, h => by
    simp only [tkAll] at h
    cases h1 : tkY ws with
    | none => rw [h1] at h; cases h
    | some p =>
      obtain ⟨t, r⟩ := p
      rw [h1] at h
      dsimp only at h
      cases h2 : tkAll sh r with
      | none => rw [h2] at h; cases h
      | some p2 => obtain ⟨v2, q2⟩ := p2; rw [h2] at h; cases h; simp [tvK, tkAll_form sh r v2 _ h2]
theorem form_s {vs : List TV} {sh : List TK} (h : vs.map tvK = .s :: sh) : ∃ w vs', vs = .s w :: vs' ∧ vs'.map tvK = sh := by
  cases vs with
  | nil => cases h
  | cons v vs => cases v <;> simp [tvK] at h; exact ⟨_, _, rfl, h⟩
theorem form_n {vs : List TV} {sh : List TK} (h : vs.map tvK = .n :: sh) : ∃ w vs', vs = .n w :: vs' ∧ vs'.map tvK = sh := by
  cases vs with
  | nil => cases h
  | cons v vs => cases v <;> simp [tvK] at h; exact ⟨_, _, rfl, h⟩
theorem form_y {vs : List TV} {sh : List TK} (h : vs.map tvK = .y :: sh) : ∃ w vs', vs = .y w :: vs' ∧ vs'.map tvK = sh := by
  cases vs with
  | nil => cases h
  | cons v vs => cases v <;> simp [tvK] at h; exact ⟨_, _, rfl, h⟩
theorem form_nil {vs : List TV} (h : vs.map tvK = []) : vs = [] := by simpa using h
theorem yes_eq (c : Bool) : (((if c then 1 else 0 : Nat) : Int) == 1) = c := by cases c <;> rfl
theorem rreq_any {t : Word} {k : Nat} {sh : List TK} {vs : List TV} (h : reqSh t = some (k, sh)) (hv : vs.map tvK = sh) (w : World) (vS vN : Value) (hs : SRd w vS (tvS vs)) (hn : IRd w vN (tvN vs)) :
    Calls Tryz.prog 30 #[.int .u8 k, vS, vN] w fun e w' => e = .returned (.agg (rq (reqOf k vs) none 0)) ∧ More w w' := by
  unfold reqSh at h
  repeat' (split at h)
  · cases h
    obtain ⟨x0, vs0, rfl, hv0⟩ := form_s hv
    obtain ⟨x1, vs1, rfl, hv1⟩ := form_n hv0
    obtain ⟨x2, vs2, rfl, hv2⟩ := form_y hv1
    obtain rfl := form_nil hv2
    exact rrq_0 x0 x1 (if x2 then 1 else 0) x2 (yes_eq x2) w vS vN hs hn
  · cases h
    obtain ⟨x0, vs0, rfl, hv0⟩ := form_s hv
    obtain rfl := form_nil hv0
    exact rrq_1 x0 w vS vN hs hn
  · cases h
    obtain ⟨x0, vs0, rfl, hv0⟩ := form_s hv
    obtain rfl := form_nil hv0
    exact rrq_2 x0 w vS vN hs hn
  · cases h
    obtain ⟨x0, vs0, rfl, hv0⟩ := form_s hv
    obtain ⟨x1, vs1, rfl, hv1⟩ := form_n hv0
    obtain ⟨x2, vs2, rfl, hv2⟩ := form_n hv1
    obtain ⟨x3, vs3, rfl, hv3⟩ := form_n hv2
    obtain rfl := form_nil hv3
    exact rrq_4 x0 x1 x2 x3 w vS vN hs hn
  · cases h
    obtain ⟨x0, vs0, rfl, hv0⟩ := form_s hv
    obtain ⟨x1, vs1, rfl, hv1⟩ := form_n hv0
    obtain ⟨x2, vs2, rfl, hv2⟩ := form_n hv1
    obtain rfl := form_nil hv2
    exact rrq_5 x0 x1 x2 w vS vN hs hn
  · cases h
    obtain ⟨x0, vs0, rfl, hv0⟩ := form_s hv
    obtain ⟨x1, vs1, rfl, hv1⟩ := form_s hv0
    obtain rfl := form_nil hv1
    exact rrq_6 x0 x1 w vS vN hs hn
  · cases h
    obtain ⟨x0, vs0, rfl, hv0⟩ := form_s hv
    obtain ⟨x1, vs1, rfl, hv1⟩ := form_s hv0
    obtain rfl := form_nil hv1
    exact rrq_9 x0 x1 w vS vN hs hn
  · cases h
    obtain ⟨x0, vs0, rfl, hv0⟩ := form_s hv
    obtain ⟨x1, vs1, rfl, hv1⟩ := form_s hv0
    obtain ⟨x2, vs2, rfl, hv2⟩ := form_n hv1
    obtain ⟨x3, vs3, rfl, hv3⟩ := form_s hv2
    obtain rfl := form_nil hv3
    exact rrq_7 x0 x1 x3 x2 w vS vN hs hn
  · cases h
    obtain ⟨x0, vs0, rfl, hv0⟩ := form_s hv
    obtain ⟨x1, vs1, rfl, hv1⟩ := form_s hv0
    obtain ⟨x2, vs2, rfl, hv2⟩ := form_n hv1
    obtain rfl := form_nil hv2
    exact rrq_8 x0 x1 x2 w vS vN hs hn
  · cases h
    obtain ⟨x0, vs0, rfl, hv0⟩ := form_s hv
    obtain ⟨x1, vs1, rfl, hv1⟩ := form_s hv0
    obtain ⟨x2, vs2, rfl, hv2⟩ := form_n hv1
    obtain ⟨x3, vs3, rfl, hv3⟩ := form_s hv2
    obtain ⟨x4, vs4, rfl, hv4⟩ := form_n hv3
    obtain ⟨x5, vs5, rfl, hv5⟩ := form_n hv4
    obtain rfl := form_nil hv5
    exact rrq_10 x0 x1 x3 x2 x4 x5 w vS vN hs hn
  · cases h
    obtain ⟨x0, vs0, rfl, hv0⟩ := form_s hv
    obtain ⟨x1, vs1, rfl, hv1⟩ := form_s hv0
    obtain ⟨x2, vs2, rfl, hv2⟩ := form_n hv1
    obtain rfl := form_nil hv2
    exact rrq_11 x0 x1 x2 w vS vN hs hn
  · cases h
theorem words_got {w w' : World} {e : Ending} {line : List UInt8} {t : Word} {r : List Word} (h : WordsRet w w' e line) (hs : splitC 32 line = t :: r) : ∃ (b o M c : Nat) (a2 : Option Addr) (n2 c2 : Nat) (x : Array Obj) (k : Nat),
    e = .returned (.slice (some ⟨b, o, none⟩) M c) ∧ w' = plus w x k ∧ b < w'.heap.size ∧ 0 < M ∧ w'.cell? ⟨b, o, none⟩ = some (.string (str t)) ∧
    (∀ W, (Instr.slice 39 (.slice (some ⟨b, o, none⟩) M c) (some (.int .i64 1)) none none).run Tryz.prog W = .ok (.slice a2 n2 c2) W) ∧ SRd w' (.slice a2 n2 c2) r := by
  obtain ⟨v, x, k, he, hw, hsr⟩ := h.out
  rw [hs] at hsr
  have hsl := srd_slice (P := Tryz.prog) 39 9 Tryz.underlying39 sz_strR hsr 1 (by omega) (by simp; omega)
  have hd := hsr.drop 1 (by simp)
  obtain ⟨a2, cap2, hd2, _⟩ := hd.out
  rw [show (1 : Int).toNat = 1 from rfl, hd2] at hsl
  rw [hd2] at hd
  obtain ⟨a, cap, rfl, hcap, hm, hc⟩ := hsr.out
  obtain ⟨b, o, rfl, hb, hcell⟩ := hc (by simp)
  exact ⟨b, o, _, cap, a2, _, cap2, x, k, he, hw, hb, by simp, by simpa using hcell 0 t rfl, hsl, hd⟩
structure RParse (w w' : World) (e : Ending) (line : List UInt8) : Prop where
  out : match parseR (splitC 32 line) with
    | none => e = .returned (.tuple #[.agg (stp (stpBlank 0) none 0 none 0), .int .i64 60]) ∧ More w w'
    | some s => ∃ a cap f fc x k, e = .returned (.tuple #[.agg (stp s a cap f fc), .int .i64 0]) ∧ w' = plus w x k ∧ StpAt w' s a f fc
theorem rparse_no {w w' : World} {e : Ending} {line : List UInt8} (h : parseR (splitC 32 line) = none) (he : e = .returned (.tuple #[.agg (stp (stpBlank 0) none 0 none 0), .int .i64 60])) (hm : More w w') : RParse w w' e line := ⟨by rw [h]; exact ⟨he, hm⟩⟩
theorem rparse_yes {w w' : World} {e : Ending} {line : List UInt8} {s : Stp} {a f : Option Addr} {cap fc : Nat} (h : parseR (splitC 32 line) = some s) (he : e = .returned (.tuple #[.agg (stp s a cap f fc), .int .i64 0])) (hm : More w w') (hs : StpAt w' s a f fc) : RParse w w' e line := ⟨by
  rw [h]
  obtain ⟨x, k, hx⟩ := hm
  exact ⟨a, cap, f, fc, x, k, he, hx, hs⟩⟩
theorem recs_swap {S : Nat} {w : World} {L L' : List (Array Obj)} {n k m : Nat} {x : Array Obj} {a : Option Addr} {cap : Nat} {l : List Rec} (h : RecsNew S (plus (wd w L n) x k) a cap l) (hS : (wd w L n).heap.size ≤ S) (hL : shape L' = shape L) : RecsNew S (wd w (x :: L') m) a cap l := by
  rw [wd_plus] at h
  rw [wd_size] at hS
  exact h.keep (Nat.le_refl _) (fun b hb _ => by rw [hp_at _ _ _ _ _ (by rw [hL]; omega), hp_at _ _ _ _ _ (by omega), hL])
theorem rb_swap {S : Nat} {w : World} {L L' : List (Array Obj)} {n k m : Nat} {x : Array Obj} {f : Option Addr} {fc : Nat} {l : List UInt8} (h : RBNew S (plus (wd w L n) x k) f fc l) (hS : (wd w L n).heap.size ≤ S) (hL : shape L' = shape L) : RBNew S (wd w (x :: L') m) f fc l := by
  rw [wd_plus] at h
  rw [wd_size] at hS
  exact h.keep (Nat.le_refl _) (fun b hb _ => by rw [hp_at _ _ _ _ _ (by rw [hL]; omega), hp_at _ _ _ _ _ (by omega), hL])
theorem produce_ne (t : Word) (h : t ≠ w_produce) : ((str t).toList == [112, 114, 111, 100, 117, 99, 101]) = false := by rw [str_toList]; exact beq_false_of_ne h
set_option maxRecDepth 100000 in
set_option maxHeartbeats 3200000 in
theorem rparse_prod (line : List UInt8) (r : List Word) (w : World) (hl : line.length ≤ 1000) (hws : splitC 32 line = w_produce :: r) : Calls Tryz.prog 8 #[.string (str line)] w fun e w' => RParse w w' e line := by
  have q0 : ((str w_produce).toList == [112, 114, 111, 100, 117, 99, 101]) = true := by rw [str_toList]; decide
  have HW := Lib.hid (fun W => rwords_any line W hl)
  have HWS := Lib.hid hws
  have HPP : Hid (parseR (splitC 32 line) = match prodR r with
    | none => none
    | some q => some { stpBlank 0 with q := q }) := Lib.hid (by rw [hws]; rfl)
  clear hws
  obtain ⟨tw, htw⟩ : ∃ tw, w_produce = tw := ⟨_, rfl⟩
  rw [htw] at HWS q0
  clear htw
  cases hq : prodR r with
  | none =>
    have HQ := Lib.hid hq
    have HNO : Hid (parseR (splitC 32 line) = none) := Lib.hid (by rw [HPP.out, hq])
    clear hq HPP
    refine calls_wd ?_
    go_enter Tryz.func8, Tryz.ntmps8
    go_wp2_with (first
      | (go_at_call 12; refine (HW.out _).mono ?_; rintro e w1 hs; obtain ⟨bw, ow, M, cw, a2, n2, c2, y1, k1, rfl, rfl, hbw, hM, hc0, hsl, hsr⟩ := words_got hs HWS.out; rw [wd_plus] at hbw hc0 hsr; have hc0F := fun (A : Array Obj) (k : Nat) => cell_over A k hbw hc0; have HSR := Lib.hid (fun W hm => hsr.more (w' := W) hm); clear hs hsr)
      | (go_at_call 27; refine (rprod_any _ r _ (HSR.out _ (more_same _ _ _ _))).mono ?_; rintro e w1 hs; have hs2 := hs.out; rw [HQ.out] at hs2; obtain ⟨rfl, x1, n1, rfl⟩ := hs2; clear hs))
    refine bodyPost_ret (v := .tuple #[.agg (stp (stpBlank 0) none 0 none 0), .int .i64 60]) (by first | (simp [results, Tryz.results8, go_sem]; done) | (simp [results, Tryz.results8, go_sem]; rfl)) rfl ?_
    exact rparse_no HNO.out rfl (more_wd _ _ _)
  | some q =>
    have HQ := Lib.hid hq
    have HYES : Hid (parseR (splitC 32 line) = some { stpBlank 0 with q := q }) := Lib.hid (by rw [HPP.out, hq])
    clear hq HPP
    refine calls_wd ?_
    go_enter Tryz.func8, Tryz.ntmps8
    go_wp2_with (first
      | (go_at_call 12; refine (HW.out _).mono ?_; rintro e w1 hs; obtain ⟨bw, ow, M, cw, a2, n2, c2, y1, k1, rfl, rfl, hbw, hM, hc0, hsl, hsr⟩ := words_got hs HWS.out; rw [wd_plus] at hbw hc0 hsr; have hc0F := fun (A : Array Obj) (k : Nat) => cell_over A k hbw hc0; have HSR := Lib.hid (fun W hm => hsr.more (w' := W) hm); clear hs hsr)
      | (go_at_call 27; refine (rprod_any _ r _ (HSR.out _ (more_same _ _ _ _))).mono ?_; rintro e w1 hs; have hs2 := hs.out; rw [HQ.out] at hs2; obtain ⟨a, cap, x1, n1, rfl, rfl, hr⟩ := hs2; have HR := Lib.hid hr; clear hs hr))
    refine bodyPost_ret (v := .tuple #[.agg (stp { stpBlank 0 with q := q } a cap none 0), .int .i64 0]) (by first | (simp [results, Tryz.results8, go_sem]; done) | (simp [results, Tryz.results8, go_sem]; rfl)) rfl ?_
    exact rparse_yes HYES.out rfl (more_wd _ _ _) ⟨((recs_swap HR.out (L' := [_, _]) (m := 0) (Nat.le_refl _) (by rfl)).over).at, RB.nil _⟩
set_option maxRecDepth 100000 in
set_option maxHeartbeats 3200000 in
theorem rparse_req (line : List UInt8) (t : Word) (r : List Word) (k : Nat) (sh : List TK) (w : World) (hl : line.length ≤ 1000) (hws : splitC 32 line = t :: r) (hsh : reqSh t = some (k, sh)) (hne : t ≠ w_produce) : Calls Tryz.prog 8 #[.string (str line)] w fun e w' => RParse w w' e line := by
  have q0 := produce_ne t hne
  have HW := Lib.hid (fun W => rwords_any line W hl)
  have HWS := Lib.hid hws
  obtain ⟨hm1, hm2, hm3⟩ := shB_map hsh
  have HPP : Hid (parseR (splitC 32 line) = match tkAll sh r with
    | some (vs, []) => some { stpBlank 0 with q := reqOf k vs }
    | _ => none) := Lib.hid (by rw [hws]; show (if t = w_produce then _ else _) = _; rw [if_neg hne, hsh]; rfl)
  have HTK : Hid (takeR (shB k) r = match tkAll sh r with
    | some (vs, []) => some (tvS vs, tvN vs)
    | _ => none) := Lib.hid (by rw [takeR_all _ _ hm3, hm1]; rfl)
  have HSH := Lib.hid hsh
  have HF := Lib.hid (fun vs q h => tkAll_form sh r vs q h)
  obtain ⟨SB, hSB⟩ : ∃ SB, shB k = SB := ⟨_, rfl⟩
  have HSB := Lib.hid hSB
  have q1 : (str SB).toList.isEmpty = false := by rw [str_toList, ← hSB]; cases h : shB k with
    | nil => exact absurd h hm2
    | cons _ _ => rfl
  have hlen : SB.length ≤ 64 := by
    rw [← hSB]
    unfold shB
    split <;> decide
  have HSHP := Lib.hid (fun W => (rshape_any t W).mono fun e w' h => by have := h.out; rw [hsh] at this; dsimp only at this; rw [hSB] at this; exact this)
  have HT := Lib.hid (fun v W h => rtake_any SB r v W h hlen)
  rw [hSB] at HTK
  clear hws hm1 hm2 hm3 hSB hlen hne hsh
  cases hq : takeR SB r with
  | none =>
    have HQ := Lib.hid hq
    have HNO : Hid (parseR (splitC 32 line) = none) := Lib.hid (by
      rw [HPP.out]
      have h := HTK.out
      rw [hq] at h
      cases hk : tkAll sh r with
      | none => rfl
      | some p =>
        obtain ⟨vs, q⟩ := p
        rw [hk] at h
        cases q with
        | nil => cases h
        | cons _ _ => rfl)
    clear hq HPP HTK
    refine calls_wd ?_
    go_enter Tryz.func8, Tryz.ntmps8
    go_wp2_with (first
      | (go_at_call 12; refine (HW.out _).mono ?_; rintro e w1 hs; obtain ⟨bw, ow, M, cw, a2, n2, c2, y1, k1, rfl, rfl, hbw, hM, hc0, hsl, hsr⟩ := words_got hs HWS.out; rw [wd_plus] at hbw hc0 hsr; have hc0F := fun (A : Array Obj) (k : Nat) => cell_over A k hbw hc0; have HSR := Lib.hid (fun W hm => hsr.more (w' := W) hm); clear hs hsr)
      | (go_at_call 28; ((with_reducible refine (HSHP.out _).mono ?_); rintro e w1 ⟨rfl, x1, n1, rfl⟩))
      | (go_at_call 29; refine (HT.out _ _ (HSR.out _ (more_cons (more_same _ _ _ _)))).mono ?_; rintro e w1 hs; have hs2 := hs.out; rw [HQ.out] at hs2; obtain ⟨rfl, x2, n2, rfl⟩ := hs2; clear hs))
    refine bodyPost_ret (v := .tuple #[.agg (stp (stpBlank 0) none 0 none 0), .int .i64 60]) (by first | (simp [results, Tryz.results8, go_sem]; done) | (simp [results, Tryz.results8, go_sem]; rfl)) rfl ?_
    exact rparse_no HNO.out rfl (more_wd _ _ _)
  | some p =>
    obtain ⟨s, n⟩ := p
    obtain ⟨vs, hvs⟩ : ∃ vs, tkAll sh r = some (vs, []) := by
      have h := HTK.out
      rw [hq] at h
      cases hk : tkAll sh r with
      | none => rw [hk] at h; cases h
      | some p =>
        obtain ⟨vs, q⟩ := p
        rw [hk] at h
        cases q with
        | nil => exact ⟨vs, rfl⟩
        | cons _ _ => cases h
    have hsn : s = tvS vs ∧ n = tvN vs := by
      have h := HTK.out
      rw [hq, hvs] at h
      cases h
      exact ⟨rfl, rfl⟩
    obtain ⟨rfl, rfl⟩ := hsn
    have HREQ := Lib.hid (fun W vS vN h1 h2 => rreq_any HSH.out (HF.out _ _ hvs) W vS vN h1 h2)
    obtain ⟨Q, hQ⟩ : ∃ Q, reqOf k vs = Q := ⟨_, rfl⟩
    rw [hQ] at HREQ
    have HRN : Hid (Q.batch.recs = []) := Lib.hid (by rw [← hQ]; exact reqOf_recs k vs)
    have HYES : Hid (parseR (splitC 32 line) = some { stpBlank 0 with q := Q }) := Lib.hid (by rw [HPP.out, hvs, ← hQ])
    have HQ := Lib.hid hq
    clear hq HPP HTK hvs hQ
    refine calls_wd ?_
    go_enter Tryz.func8, Tryz.ntmps8
    go_wp2_with (first
      | (go_at_call 12; refine (HW.out _).mono ?_; rintro e w1 hs; obtain ⟨bw, ow, M, cw, a2, n2, c2, y1, k1, rfl, rfl, hbw, hM, hc0, hsl, hsr⟩ := words_got hs HWS.out; rw [wd_plus] at hbw hc0 hsr; have hc0F := fun (A : Array Obj) (k : Nat) => cell_over A k hbw hc0; have HSR := Lib.hid (fun W hm => hsr.more (w' := W) hm); clear hs hsr)
      | (go_at_call 28; ((with_reducible refine (HSHP.out _).mono ?_); rintro e w1 ⟨rfl, x1, n1, rfl⟩))
      | (go_at_call 29; refine (HT.out _ _ (HSR.out _ (more_cons (more_same _ _ _ _)))).mono ?_; rintro e w1 hs; have hs2 := hs.out; rw [HQ.out] at hs2; obtain ⟨vs9, vn9, x2, m2, rfl, rfl, hs9, hi9⟩ := hs2; rw [wd_plus] at hs9 hi9; have HS9 := Lib.hid hs9; have HI9 := Lib.hid hi9; clear hs hs9 hi9)
      | (go_at_call 30; refine (HREQ.out _ _ _ (HS9.out.more (more_same _ _ _ _)) (HI9.out.more (more_same _ _ _ _))).mono ?_; rintro e w1 ⟨rfl, x3, n3, rfl⟩))
    refine bodyPost_ret (v := .tuple #[.agg (stp { stpBlank 0 with q := Q } none 0 none 0), .int .i64 0]) (by first | (simp [results, Tryz.results8, go_sem]; done) | (simp [results, Tryz.results8, go_sem]; rfl)) rfl ?_
    exact rparse_yes HYES.out rfl (more_wd _ _ _) ⟨by rw [show ({ stpBlank 0 with q := Q } : Stp).q.batch.recs = [] from HRN.out]; exact RowAt.nil _, RB.nil _⟩
theorem wd_mm {w : World} {a b c : Array Obj} {L : List (Array Obj)} {n : Nat} : wd w (c :: b :: a :: L) n = wd w ((a ++ (b ++ c)) :: L) n := (wd_merge _ _ _ _ _).trans (wd_merge _ _ _ _ _)
theorem otherR_recs {t : Word} {r : List Word} {s : Stp} (h : otherR t r = some s) : s.q.batch.recs = [] := by
  unfold otherR at h
  repeat' (split at h)
  all_goals (first | (cases h; done) | (cases h; rfl))
set_option maxRecDepth 100000 in
set_option maxHeartbeats 3200000 in
theorem rparse_ono (line : List UInt8) (t : Word) (r : List Word) (w : World) (hl : line.length ≤ 1000) (hws : splitC 32 line = t :: r) (hsh : reqSh t = none) (hne : t ≠ w_produce) (hq : otherR t r = none) : Calls Tryz.prog 8 #[.string (str line)] w fun e w' => RParse w w' e line := by
  have q0 := produce_ne t hne
  have q1 : (str ([] : List UInt8)).toList.isEmpty = true := by rw [str_toList]; rfl
  have HW := Lib.hid (fun W => rwords_any line W hl)
  have HWS := Lib.hid hws
  have HPP : Hid (parseR (splitC 32 line) = otherR t r) := Lib.hid (by rw [hws]; show (if t = w_produce then _ else _) = _; rw [if_neg hne, hsh])
  have HSHP := Lib.hid (fun W => (rshape_any t W).mono fun e w' h => by have := h.out; rw [hsh] at this; exact this)
  have HO := Lib.hid (fun v W h => rother_any t v r W h)
  have HQ := Lib.hid hq
  have HNO : Hid (parseR (splitC 32 line) = none) := Lib.hid (by rw [HPP.out, hq])
  clear hws hne hsh hq
  refine calls_wd ?_
  go_enter Tryz.func8, Tryz.ntmps8
  go_wp2_with (first
    | (go_at_call 12; refine (HW.out _).mono ?_; rintro e w1 hs; obtain ⟨bw, ow, M, cw, a2, n2, c2, y1, k1, rfl, rfl, hbw, hM, hc0, hsl, hsr⟩ := words_got hs HWS.out; rw [wd_plus] at hbw hc0 hsr; have hc0F := fun (A : Array Obj) (k : Nat) => cell_over A k hbw hc0; have HSR := Lib.hid (fun W hm => hsr.more (w' := W) hm); clear hs hsr)
    | (go_at_call 28; ((with_reducible refine (HSHP.out _).mono ?_); rintro e w1 ⟨rfl, x1, n1, rfl⟩)))
  refine wp_region_U (fun (s : Ext) => wd w [s.e, y1, #[.cells (stp (stpBlank 0) none 0 none 0) 34]] s.n) (⟨x1, n1 + 1⟩) [0, 1, 2, 3, 4] (.alt (.one 5 (.alt (.one 6 (.alt (.one 7 (.alt (.one 8 (.one 9 (.one 10 (.one 11 .done)))) (.one 9 (.alt (.one 8 (.one 10 (.one 11 .done))) (.one 10 (.one 8 (.one 11 .done))))))) (.alt (.one 8 (.alt (.one 7 (.one 9 (.one 10 (.one 11 .done)))) (.one 9 (.one 7 (.one 10 (.one 11 .done)))))) (.one 9 (.alt (.one 7 (.alt (.one 8 (.one 10 (.one 11 .done))) (.one 10 (.one 8 (.one 11 .done))))) (.one 8 (.one 7 (.one 10 (.one 11 .done))))))))) (.one 9 (.one 6 (.alt (.one 7 (.alt (.one 8 (.one 10 (.one 11 .done))) (.one 10 (.one 8 (.one 11 .done))))) (.one 8 (.one 7 (.one 10 (.one 11 .done))))))))) (.one 9 (.one 5 (.one 6 (.alt (.one 7 (.alt (.one 8 (.one 10 (.one 11 .done))) (.one 10 (.one 8 (.one 11 .done))))) (.one 8 (.one 7 (.one 10 (.one 11 .done))))))))) [true, true, true, true, true] (wd_drew _ _ _) rfl (by kernel_rfl) (by kernel_rfl) (fun _ _ d _ _ h => by cases d <;> exact h) ?_
  apply Exists.intro
  refine ⟨?_, ?_⟩
  · intro E
    simp only [sel_t, sel_f, sel_n]
    repeat (go_big_quiet_step ((fail)))
    exact wpQuiet_nil rfl
  refine loudU_alt ?_ ?_
  focus
    refine loudU_one [false, false, false, false, false, true] rfl ?_
    simp only [sel_t, sel_f, sel_n]
    go_wp2_with (first | (go_at_call 31; refine (HO.out _ _ (HSR.out _ (by first | exact more_cons (more_same _ _ _ _) | exact more_cons (more_cons (more_same _ _ _ _))))).mono ?_; rintro e9 w9 hs; have hs2 := hs.out; rw [HQ.out] at hs2; obtain ⟨s9, a9, c9, f9, d9, rfl, ⟨x9, n9, rfl⟩⟩ := hs2; clear hs))
    refine ⟨⟨⟨_, _⟩, by first | rfl | exact wd_merge _ _ _ _ _ | exact wd_mm⟩, ?_⟩
    refine loudU_alt ?_ ?_
    focus
      refine loudU_one [false, false, false, false, false, false, true] rfl ?_
      simp only [sel_t, sel_f, sel_n]
      go_wp2
      refine ⟨⟨⟨_, _⟩, by first | rfl | exact wd_merge _ _ _ _ _ | exact wd_mm⟩, ?_⟩
      refine loudU_alt ?_ ?_
      focus
        refine loudU_one [false, false, false, false, false, false, false, true] rfl ?_
        simp only [sel_t, sel_f, sel_n]
        go_wp2
        refine ⟨⟨⟨_, _⟩, by first | rfl | exact wd_merge _ _ _ _ _ | exact wd_mm⟩, ?_⟩
        refine loudU_alt ?_ ?_
        focus
          refine loudU_one [false, false, false, false, false, false, false, false, true] rfl ?_
          simp only [sel_t, sel_f, sel_n]
          go_wp2
          refine ⟨⟨⟨_, _⟩, by first | rfl | exact wd_merge _ _ _ _ _ | exact wd_mm⟩, ?_⟩
          refine loudU_one [false, false, false, false, false, false, false, false, false, true] rfl ?_
          simp only [sel_t, sel_f, sel_n]
          go_wp2
          refine ⟨⟨⟨_, _⟩, by first | rfl | exact wd_merge _ _ _ _ _ | exact wd_mm⟩, ?_⟩
          refine loudU_one [false, false, false, false, false, false, false, false, false, false, true] rfl ?_
          simp only [sel_t, sel_f, sel_n]
          go_wp2
          refine ⟨⟨⟨_, _⟩, by first | rfl | exact wd_merge _ _ _ _ _ | exact wd_mm⟩, ?_⟩
          refine loudU_one [false, false, false, false, false, false, false, false, false, false, false, true] rfl ?_
          simp only [sel_t, sel_f, sel_n]
          go_wp2
          refine ⟨⟨⟨_, _⟩, by first | rfl | exact wd_merge _ _ _ _ _ | exact wd_mm⟩, ?_⟩
          refine loudU_done ?_
          go_wp2
          refine bodyPost_ret (v := .tuple #[.agg (stp (stpBlank 0) none 0 none 0), .int .i64 60]) (by first | (simp [results, Tryz.results8, go_sem]; done) | (simp [results, Tryz.results8, go_sem]; rfl)) rfl ?_
          exact rparse_no HNO.out rfl (more_wd _ _ _)
        refine loudU_one [false, false, false, false, false, false, false, false, false, true] rfl ?_
        simp only [sel_t, sel_f, sel_n]
        go_wp2
        refine ⟨⟨⟨_, _⟩, by first | rfl | exact wd_merge _ _ _ _ _ | exact wd_mm⟩, ?_⟩
        refine loudU_alt ?_ ?_
        focus
          refine loudU_one [false, false, false, false, false, false, false, false, true] rfl ?_
          simp only [sel_t, sel_f, sel_n]
          go_wp2
          refine ⟨⟨⟨_, _⟩, by first | rfl | exact wd_merge _ _ _ _ _ | exact wd_mm⟩, ?_⟩
          refine loudU_one [false, false, false, false, false, false, false, false, false, false, true] rfl ?_
          simp only [sel_t, sel_f, sel_n]
          go_wp2
          refine ⟨⟨⟨_, _⟩, by first | rfl | exact wd_merge _ _ _ _ _ | exact wd_mm⟩, ?_⟩
          refine loudU_one [false, false, false, false, false, false, false, false, false, false, false, true] rfl ?_
          simp only [sel_t, sel_f, sel_n]
          go_wp2
          refine ⟨⟨⟨_, _⟩, by first | rfl | exact wd_merge _ _ _ _ _ | exact wd_mm⟩, ?_⟩
          refine loudU_done ?_
          go_wp2
          refine bodyPost_ret (v := .tuple #[.agg (stp (stpBlank 0) none 0 none 0), .int .i64 60]) (by first | (simp [results, Tryz.results8, go_sem]; done) | (simp [results, Tryz.results8, go_sem]; rfl)) rfl ?_
          exact rparse_no HNO.out rfl (more_wd _ _ _)
        refine loudU_one [false, false, false, false, false, false, false, false, false, false, true] rfl ?_
        simp only [sel_t, sel_f, sel_n]
        go_wp2
        refine ⟨⟨⟨_, _⟩, by first | rfl | exact wd_merge _ _ _ _ _ | exact wd_mm⟩, ?_⟩
        refine loudU_one [false, false, false, false, false, false, false, false, true] rfl ?_
        simp only [sel_t, sel_f, sel_n]
        go_wp2
        refine ⟨⟨⟨_, _⟩, by first | rfl | exact wd_merge _ _ _ _ _ | exact wd_mm⟩, ?_⟩
        refine loudU_one [false, false, false, false, false, false, false, false, false, false, false, true] rfl ?_
        simp only [sel_t, sel_f, sel_n]
        go_wp2
        refine ⟨⟨⟨_, _⟩, by first | rfl | exact wd_merge _ _ _ _ _ | exact wd_mm⟩, ?_⟩
        refine loudU_done ?_
        go_wp2
        refine bodyPost_ret (v := .tuple #[.agg (stp (stpBlank 0) none 0 none 0), .int .i64 60]) (by first | (simp [results, Tryz.results8, go_sem]; done) | (simp [results, Tryz.results8, go_sem]; rfl)) rfl ?_
        exact rparse_no HNO.out rfl (more_wd _ _ _)
      refine loudU_alt ?_ ?_
      focus
        refine loudU_one [false, false, false, false, false, false, false, false, true] rfl ?_
        simp only [sel_t, sel_f, sel_n]
        go_wp2
        refine ⟨⟨⟨_, _⟩, by first | rfl | exact wd_merge _ _ _ _ _ | exact wd_mm⟩, ?_⟩
        refine loudU_alt ?_ ?_
        focus
          refine loudU_one [false, false, false, false, false, false, false, true] rfl ?_
          simp only [sel_t, sel_f, sel_n]
          go_wp2
          refine ⟨⟨⟨_, _⟩, by first | rfl | exact wd_merge _ _ _ _ _ | exact wd_mm⟩, ?_⟩
          refine loudU_one [false, false, false, false, false, false, false, false, false, true] rfl ?_
          simp only [sel_t, sel_f, sel_n]
          go_wp2
          refine ⟨⟨⟨_, _⟩, by first | rfl | exact wd_merge _ _ _ _ _ | exact wd_mm⟩, ?_⟩
          refine loudU_one [false, false, false, false, false, false, false, false, false, false, true] rfl ?_
          simp only [sel_t, sel_f, sel_n]
          go_wp2
          refine ⟨⟨⟨_, _⟩, by first | rfl | exact wd_merge _ _ _ _ _ | exact wd_mm⟩, ?_⟩
          refine loudU_one [false, false, false, false, false, false, false, false, false, false, false, true] rfl ?_
          simp only [sel_t, sel_f, sel_n]
          go_wp2
          refine ⟨⟨⟨_, _⟩, by first | rfl | exact wd_merge _ _ _ _ _ | exact wd_mm⟩, ?_⟩
          refine loudU_done ?_
          go_wp2
          refine bodyPost_ret (v := .tuple #[.agg (stp (stpBlank 0) none 0 none 0), .int .i64 60]) (by first | (simp [results, Tryz.results8, go_sem]; done) | (simp [results, Tryz.results8, go_sem]; rfl)) rfl ?_
          exact rparse_no HNO.out rfl (more_wd _ _ _)
        refine loudU_one [false, false, false, false, false, false, false, false, false, true] rfl ?_
        simp only [sel_t, sel_f, sel_n]
        go_wp2
        refine ⟨⟨⟨_, _⟩, by first | rfl | exact wd_merge _ _ _ _ _ | exact wd_mm⟩, ?_⟩
        refine loudU_one [false, false, false, false, false, false, false, true] rfl ?_
        simp only [sel_t, sel_f, sel_n]
        go_wp2
        refine ⟨⟨⟨_, _⟩, by first | rfl | exact wd_merge _ _ _ _ _ | exact wd_mm⟩, ?_⟩
        refine loudU_one [false, false, false, false, false, false, false, false, false, false, true] rfl ?_
        simp only [sel_t, sel_f, sel_n]
        go_wp2
        refine ⟨⟨⟨_, _⟩, by first | rfl | exact wd_merge _ _ _ _ _ | exact wd_mm⟩, ?_⟩
        refine loudU_one [false, false, false, false, false, false, false, false, false, false, false, true] rfl ?_
        simp only [sel_t, sel_f, sel_n]
        go_wp2
        refine ⟨⟨⟨_, _⟩, by first | rfl | exact wd_merge _ _ _ _ _ | exact wd_mm⟩, ?_⟩
        refine loudU_done ?_
        go_wp2
        refine bodyPost_ret (v := .tuple #[.agg (stp (stpBlank 0) none 0 none 0), .int .i64 60]) (by first | (simp [results, Tryz.results8, go_sem]; done) | (simp [results, Tryz.results8, go_sem]; rfl)) rfl ?_
        exact rparse_no HNO.out rfl (more_wd _ _ _)
      refine loudU_one [false, false, false, false, false, false, false, false, false, true] rfl ?_
      simp only [sel_t, sel_f, sel_n]
      go_wp2
      refine ⟨⟨⟨_, _⟩, by first | rfl | exact wd_merge _ _ _ _ _ | exact wd_mm⟩, ?_⟩
      refine loudU_alt ?_ ?_
      focus
        refine loudU_one [false, false, false, false, false, false, false, true] rfl ?_
        simp only [sel_t, sel_f, sel_n]
        go_wp2
        refine ⟨⟨⟨_, _⟩, by first | rfl | exact wd_merge _ _ _ _ _ | exact wd_mm⟩, ?_⟩
        refine loudU_alt ?_ ?_
        focus
          refine loudU_one [false, false, false, false, false, false, false, false, true] rfl ?_
          simp only [sel_t, sel_f, sel_n]
          go_wp2
          refine ⟨⟨⟨_, _⟩, by first | rfl | exact wd_merge _ _ _ _ _ | exact wd_mm⟩, ?_⟩
          refine loudU_one [false, false, false, false, false, false, false, false, false, false, true] rfl ?_
          simp only [sel_t, sel_f, sel_n]
          go_wp2
          refine ⟨⟨⟨_, _⟩, by first | rfl | exact wd_merge _ _ _ _ _ | exact wd_mm⟩, ?_⟩
          refine loudU_one [false, false, false, false, false, false, false, false, false, false, false, true] rfl ?_
          simp only [sel_t, sel_f, sel_n]
          go_wp2
          refine ⟨⟨⟨_, _⟩, by first | rfl | exact wd_merge _ _ _ _ _ | exact wd_mm⟩, ?_⟩
          refine loudU_done ?_
          go_wp2
          refine bodyPost_ret (v := .tuple #[.agg (stp (stpBlank 0) none 0 none 0), .int .i64 60]) (by first | (simp [results, Tryz.results8, go_sem]; done) | (simp [results, Tryz.results8, go_sem]; rfl)) rfl ?_
          exact rparse_no HNO.out rfl (more_wd _ _ _)
        refine loudU_one [false, false, false, false, false, false, false, false, false, false, true] rfl ?_
        simp only [sel_t, sel_f, sel_n]
        go_wp2
        refine ⟨⟨⟨_, _⟩, by first | rfl | exact wd_merge _ _ _ _ _ | exact wd_mm⟩, ?_⟩
        refine loudU_one [false, false, false, false, false, false, false, false, true] rfl ?_
        simp only [sel_t, sel_f, sel_n]
        go_wp2
        refine ⟨⟨⟨_, _⟩, by first | rfl | exact wd_merge _ _ _ _ _ | exact wd_mm⟩, ?_⟩
        refine loudU_one [false, false, false, false, false, false, false, false, false, false, false, true] rfl ?_
        simp only [sel_t, sel_f, sel_n]
        go_wp2
        refine ⟨⟨⟨_, _⟩, by first | rfl | exact wd_merge _ _ _ _ _ | exact wd_mm⟩, ?_⟩
        refine loudU_done ?_
        go_wp2
        refine bodyPost_ret (v := .tuple #[.agg (stp (stpBlank 0) none 0 none 0), .int .i64 60]) (by first | (simp [results, Tryz.results8, go_sem]; done) | (simp [results, Tryz.results8, go_sem]; rfl)) rfl ?_
        exact rparse_no HNO.out rfl (more_wd _ _ _)
      refine loudU_one [false, false, false, false, false, false, false, false, true] rfl ?_
      simp only [sel_t, sel_f, sel_n]
      go_wp2
      refine ⟨⟨⟨_, _⟩, by first | rfl | exact wd_merge _ _ _ _ _ | exact wd_mm⟩, ?_⟩
      refine loudU_one [false, false, false, false, false, false, false, true] rfl ?_
      simp only [sel_t, sel_f, sel_n]
      go_wp2
      refine ⟨⟨⟨_, _⟩, by first | rfl | exact wd_merge _ _ _ _ _ | exact wd_mm⟩, ?_⟩
      refine loudU_one [false, false, false, false, false, false, false, false, false, false, true] rfl ?_
      simp only [sel_t, sel_f, sel_n]
      go_wp2
      refine ⟨⟨⟨_, _⟩, by first | rfl | exact wd_merge _ _ _ _ _ | exact wd_mm⟩, ?_⟩
      refine loudU_one [false, false, false, false, false, false, false, false, false, false, false, true] rfl ?_
      simp only [sel_t, sel_f, sel_n]
      go_wp2
      refine ⟨⟨⟨_, _⟩, by first | rfl | exact wd_merge _ _ _ _ _ | exact wd_mm⟩, ?_⟩
      refine loudU_done ?_
      go_wp2
      refine bodyPost_ret (v := .tuple #[.agg (stp (stpBlank 0) none 0 none 0), .int .i64 60]) (by first | (simp [results, Tryz.results8, go_sem]; done) | (simp [results, Tryz.results8, go_sem]; rfl)) rfl ?_
      exact rparse_no HNO.out rfl (more_wd _ _ _)
    refine loudU_one [false, false, false, false, false, false, false, false, false, true] rfl ?_
    simp only [sel_t, sel_f, sel_n]
    go_wp2
    refine ⟨⟨⟨_, _⟩, by first | rfl | exact wd_merge _ _ _ _ _ | exact wd_mm⟩, ?_⟩
    refine loudU_one [false, false, false, false, false, false, true] rfl ?_
    simp only [sel_t, sel_f, sel_n]
    go_wp2
    refine ⟨⟨⟨_, _⟩, by first | rfl | exact wd_merge _ _ _ _ _ | exact wd_mm⟩, ?_⟩
    refine loudU_alt ?_ ?_
    focus
      refine loudU_one [false, false, false, false, false, false, false, true] rfl ?_
      simp only [sel_t, sel_f, sel_n]
      go_wp2
      refine ⟨⟨⟨_, _⟩, by first | rfl | exact wd_merge _ _ _ _ _ | exact wd_mm⟩, ?_⟩
      refine loudU_alt ?_ ?_
      focus
        refine loudU_one [false, false, false, false, false, false, false, false, true] rfl ?_
        simp only [sel_t, sel_f, sel_n]
        go_wp2
        refine ⟨⟨⟨_, _⟩, by first | rfl | exact wd_merge _ _ _ _ _ | exact wd_mm⟩, ?_⟩
        refine loudU_one [false, false, false, false, false, false, false, false, false, false, true] rfl ?_
        simp only [sel_t, sel_f, sel_n]
        go_wp2
        refine ⟨⟨⟨_, _⟩, by first | rfl | exact wd_merge _ _ _ _ _ | exact wd_mm⟩, ?_⟩
        refine loudU_one [false, false, false, false, false, false, false, false, false, false, false, true] rfl ?_
        simp only [sel_t, sel_f, sel_n]
        go_wp2
        refine ⟨⟨⟨_, _⟩, by first | rfl | exact wd_merge _ _ _ _ _ | exact wd_mm⟩, ?_⟩
        refine loudU_done ?_
        go_wp2
        refine bodyPost_ret (v := .tuple #[.agg (stp (stpBlank 0) none 0 none 0), .int .i64 60]) (by first | (simp [results, Tryz.results8, go_sem]; done) | (simp [results, Tryz.results8, go_sem]; rfl)) rfl ?_
        exact rparse_no HNO.out rfl (more_wd _ _ _)
      refine loudU_one [false, false, false, false, false, false, false, false, false, false, true] rfl ?_
      simp only [sel_t, sel_f, sel_n]
      go_wp2
      refine ⟨⟨⟨_, _⟩, by first | rfl | exact wd_merge _ _ _ _ _ | exact wd_mm⟩, ?_⟩
      refine loudU_one [false, false, false, false, false, false, false, false, true] rfl ?_
      simp only [sel_t, sel_f, sel_n]
      go_wp2
      refine ⟨⟨⟨_, _⟩, by first | rfl | exact wd_merge _ _ _ _ _ | exact wd_mm⟩, ?_⟩
      refine loudU_one [false, false, false, false, false, false, false, false, false, false, false, true] rfl ?_
      simp only [sel_t, sel_f, sel_n]
      go_wp2
      refine ⟨⟨⟨_, _⟩, by first | rfl | exact wd_merge _ _ _ _ _ | exact wd_mm⟩, ?_⟩
      refine loudU_done ?_
      go_wp2
      refine bodyPost_ret (v := .tuple #[.agg (stp (stpBlank 0) none 0 none 0), .int .i64 60]) (by first | (simp [results, Tryz.results8, go_sem]; done) | (simp [results, Tryz.results8, go_sem]; rfl)) rfl ?_
      exact rparse_no HNO.out rfl (more_wd _ _ _)
    refine loudU_one [false, false, false, false, false, false, false, false, true] rfl ?_
    simp only [sel_t, sel_f, sel_n]
    go_wp2
    refine ⟨⟨⟨_, _⟩, by first | rfl | exact wd_merge _ _ _ _ _ | exact wd_mm⟩, ?_⟩
    refine loudU_one [false, false, false, false, false, false, false, true] rfl ?_
    simp only [sel_t, sel_f, sel_n]
    go_wp2
    refine ⟨⟨⟨_, _⟩, by first | rfl | exact wd_merge _ _ _ _ _ | exact wd_mm⟩, ?_⟩
    refine loudU_one [false, false, false, false, false, false, false, false, false, false, true] rfl ?_
    simp only [sel_t, sel_f, sel_n]
    go_wp2
    refine ⟨⟨⟨_, _⟩, by first | rfl | exact wd_merge _ _ _ _ _ | exact wd_mm⟩, ?_⟩
    refine loudU_one [false, false, false, false, false, false, false, false, false, false, false, true] rfl ?_
    simp only [sel_t, sel_f, sel_n]
    go_wp2
    refine ⟨⟨⟨_, _⟩, by first | rfl | exact wd_merge _ _ _ _ _ | exact wd_mm⟩, ?_⟩
    refine loudU_done ?_
    go_wp2
    refine bodyPost_ret (v := .tuple #[.agg (stp (stpBlank 0) none 0 none 0), .int .i64 60]) (by first | (simp [results, Tryz.results8, go_sem]; done) | (simp [results, Tryz.results8, go_sem]; rfl)) rfl ?_
    exact rparse_no HNO.out rfl (more_wd _ _ _)
  refine loudU_one [false, false, false, false, false, false, false, false, false, true] rfl ?_
  simp only [sel_t, sel_f, sel_n]
  go_wp2
  refine ⟨⟨⟨_, _⟩, by first | rfl | exact wd_merge _ _ _ _ _ | exact wd_mm⟩, ?_⟩
  refine loudU_one [false, false, false, false, false, true] rfl ?_
  simp only [sel_t, sel_f, sel_n]
  go_wp2_with (first | (go_at_call 31; refine (HO.out _ _ (HSR.out _ (by first | exact more_cons (more_same _ _ _ _) | exact more_cons (more_cons (more_same _ _ _ _))))).mono ?_; rintro e9 w9 hs; have hs2 := hs.out; rw [HQ.out] at hs2; obtain ⟨s9, a9, c9, f9, d9, rfl, ⟨x9, n9, rfl⟩⟩ := hs2; clear hs))
  refine ⟨⟨⟨_, _⟩, by first | rfl | exact wd_merge _ _ _ _ _ | exact wd_mm⟩, ?_⟩
  refine loudU_one [false, false, false, false, false, false, true] rfl ?_
  simp only [sel_t, sel_f, sel_n]
  go_wp2
  refine ⟨⟨⟨_, _⟩, by first | rfl | exact wd_merge _ _ _ _ _ | exact wd_mm⟩, ?_⟩
  refine loudU_alt ?_ ?_
  focus
    refine loudU_one [false, false, false, false, false, false, false, true] rfl ?_
    simp only [sel_t, sel_f, sel_n]
    go_wp2
    refine ⟨⟨⟨_, _⟩, by first | rfl | exact wd_merge _ _ _ _ _ | exact wd_mm⟩, ?_⟩
    refine loudU_alt ?_ ?_
    focus
      refine loudU_one [false, false, false, false, false, false, false, false, true] rfl ?_
      simp only [sel_t, sel_f, sel_n]
      go_wp2
      refine ⟨⟨⟨_, _⟩, by first | rfl | exact wd_merge _ _ _ _ _ | exact wd_mm⟩, ?_⟩
      refine loudU_one [false, false, false, false, false, false, false, false, false, false, true] rfl ?_
      simp only [sel_t, sel_f, sel_n]
      go_wp2
      refine ⟨⟨⟨_, _⟩, by first | rfl | exact wd_merge _ _ _ _ _ | exact wd_mm⟩, ?_⟩
      refine loudU_one [false, false, false, false, false, false, false, false, false, false, false, true] rfl ?_
      simp only [sel_t, sel_f, sel_n]
      go_wp2
      refine ⟨⟨⟨_, _⟩, by first | rfl | exact wd_merge _ _ _ _ _ | exact wd_mm⟩, ?_⟩
      refine loudU_done ?_
      go_wp2
      refine bodyPost_ret (v := .tuple #[.agg (stp (stpBlank 0) none 0 none 0), .int .i64 60]) (by first | (simp [results, Tryz.results8, go_sem]; done) | (simp [results, Tryz.results8, go_sem]; rfl)) rfl ?_
      exact rparse_no HNO.out rfl (more_wd _ _ _)
    refine loudU_one [false, false, false, false, false, false, false, false, false, false, true] rfl ?_
    simp only [sel_t, sel_f, sel_n]
    go_wp2
    refine ⟨⟨⟨_, _⟩, by first | rfl | exact wd_merge _ _ _ _ _ | exact wd_mm⟩, ?_⟩
    refine loudU_one [false, false, false, false, false, false, false, false, true] rfl ?_
    simp only [sel_t, sel_f, sel_n]
    go_wp2
    refine ⟨⟨⟨_, _⟩, by first | rfl | exact wd_merge _ _ _ _ _ | exact wd_mm⟩, ?_⟩
    refine loudU_one [false, false, false, false, false, false, false, false, false, false, false, true] rfl ?_
    simp only [sel_t, sel_f, sel_n]
    go_wp2
    refine ⟨⟨⟨_, _⟩, by first | rfl | exact wd_merge _ _ _ _ _ | exact wd_mm⟩, ?_⟩
    refine loudU_done ?_
    go_wp2
    refine bodyPost_ret (v := .tuple #[.agg (stp (stpBlank 0) none 0 none 0), .int .i64 60]) (by first | (simp [results, Tryz.results8, go_sem]; done) | (simp [results, Tryz.results8, go_sem]; rfl)) rfl ?_
    exact rparse_no HNO.out rfl (more_wd _ _ _)
  refine loudU_one [false, false, false, false, false, false, false, false, true] rfl ?_
  simp only [sel_t, sel_f, sel_n]
  go_wp2
  refine ⟨⟨⟨_, _⟩, by first | rfl | exact wd_merge _ _ _ _ _ | exact wd_mm⟩, ?_⟩
  refine loudU_one [false, false, false, false, false, false, false, true] rfl ?_
  simp only [sel_t, sel_f, sel_n]
  go_wp2
  refine ⟨⟨⟨_, _⟩, by first | rfl | exact wd_merge _ _ _ _ _ | exact wd_mm⟩, ?_⟩
  refine loudU_one [false, false, false, false, false, false, false, false, false, false, true] rfl ?_
  simp only [sel_t, sel_f, sel_n]
  go_wp2
  refine ⟨⟨⟨_, _⟩, by first | rfl | exact wd_merge _ _ _ _ _ | exact wd_mm⟩, ?_⟩
  refine loudU_one [false, false, false, false, false, false, false, false, false, false, false, true] rfl ?_
  simp only [sel_t, sel_f, sel_n]
  go_wp2
  refine ⟨⟨⟨_, _⟩, by first | rfl | exact wd_merge _ _ _ _ _ | exact wd_mm⟩, ?_⟩
  refine loudU_done ?_
  go_wp2
  refine bodyPost_ret (v := .tuple #[.agg (stp (stpBlank 0) none 0 none 0), .int .i64 60]) (by first | (simp [results, Tryz.results8, go_sem]; done) | (simp [results, Tryz.results8, go_sem]; rfl)) rfl ?_
  exact rparse_no HNO.out rfl (more_wd _ _ _)
set_option maxRecDepth 100000 in
set_option maxHeartbeats 3200000 in
theorem rparse_oyes (line : List UInt8) (t : Word) (r : List Word) (w : World) (hl : line.length ≤ 1000) (hws : splitC 32 line = t :: r) (hsh : reqSh t = none) (hne : t ≠ w_produce) (s : Stp) (hq : otherR t r = some s) : Calls Tryz.prog 8 #[.string (str line)] w fun e w' => RParse w w' e line := by
  have q0 := produce_ne t hne
  have q1 : (str ([] : List UInt8)).toList.isEmpty = true := by rw [str_toList]; rfl
  have HW := Lib.hid (fun W => rwords_any line W hl)
  have HWS := Lib.hid hws
  have HPP : Hid (parseR (splitC 32 line) = otherR t r) := Lib.hid (by rw [hws]; show (if t = w_produce then _ else _) = _; rw [if_neg hne, hsh])
  have HSHP := Lib.hid (fun W => (rshape_any t W).mono fun e w' h => by have := h.out; rw [hsh] at this; exact this)
  have HO := Lib.hid (fun v W h => rother_any t v r W h)
  have HQ := Lib.hid hq
  have HYES : Hid (parseR (splitC 32 line) = some s) := Lib.hid (by rw [HPP.out, hq])
  have HRN := Lib.hid (otherR_recs hq)
  clear hws hne hsh hq
  refine calls_wd ?_
  go_enter Tryz.func8, Tryz.ntmps8
  go_wp2_with (first
    | (go_at_call 12; refine (HW.out _).mono ?_; rintro e w1 hs; obtain ⟨bw, ow, M, cw, a2, n2, c2, y1, k1, rfl, rfl, hbw, hM, hc0, hsl, hsr⟩ := words_got hs HWS.out; rw [wd_plus] at hbw hc0 hsr; have hc0F := fun (A : Array Obj) (k : Nat) => cell_over A k hbw hc0; have HSR := Lib.hid (fun W hm => hsr.more (w' := W) hm); clear hs hsr)
    | (go_at_call 28; ((with_reducible refine (HSHP.out _).mono ?_); rintro e w1 ⟨rfl, x1, n1, rfl⟩)))
  refine wp_region_U (fun (s : Ext) => wd w [s.e, y1, #[.cells (stp (stpBlank 0) none 0 none 0) 34]] s.n) (⟨x1, n1 + 1⟩) [0, 1, 2, 3, 4] (.alt (.one 5 (.alt (.one 6 (.alt (.one 7 (.alt (.one 8 (.one 9 (.one 10 (.one 11 .done)))) (.one 9 (.alt (.one 8 (.one 10 (.one 11 .done))) (.one 10 (.one 8 (.one 11 .done))))))) (.alt (.one 8 (.alt (.one 7 (.one 9 (.one 10 (.one 11 .done)))) (.one 9 (.one 7 (.one 10 (.one 11 .done)))))) (.one 9 (.alt (.one 7 (.alt (.one 8 (.one 10 (.one 11 .done))) (.one 10 (.one 8 (.one 11 .done))))) (.one 8 (.one 7 (.one 10 (.one 11 .done))))))))) (.one 9 (.one 6 (.alt (.one 7 (.alt (.one 8 (.one 10 (.one 11 .done))) (.one 10 (.one 8 (.one 11 .done))))) (.one 8 (.one 7 (.one 10 (.one 11 .done))))))))) (.one 9 (.one 5 (.one 6 (.alt (.one 7 (.alt (.one 8 (.one 10 (.one 11 .done))) (.one 10 (.one 8 (.one 11 .done))))) (.one 8 (.one 7 (.one 10 (.one 11 .done))))))))) [true, true, true, true, true] (wd_drew _ _ _) rfl (by kernel_rfl) (by kernel_rfl) (fun _ _ d _ _ h => by cases d <;> exact h) ?_
  apply Exists.intro
  refine ⟨?_, ?_⟩
  · intro E
    simp only [sel_t, sel_f, sel_n]
    repeat (go_big_quiet_step ((fail)))
    exact wpQuiet_nil rfl
  refine loudU_alt ?_ ?_
  focus
    refine loudU_one [false, false, false, false, false, true] rfl ?_
    simp only [sel_t, sel_f, sel_n]
    go_wp2_with (first | (go_at_call 31; refine (HO.out _ _ (HSR.out _ (by first | exact more_cons (more_same _ _ _ _) | exact more_cons (more_cons (more_same _ _ _ _))))).mono ?_; rintro e9 w9 hs; have hs2 := hs.out; rw [HQ.out] at hs2; obtain ⟨f9, d9, x9, n9, rfl, rfl, hr9⟩ := hs2; have HR9 := Lib.hid hr9; clear hs hr9))
    refine ⟨⟨⟨_, _⟩, by first | rfl | exact wd_merge _ _ _ _ _ | exact wd_mm⟩, ?_⟩
    refine loudU_alt ?_ ?_
    focus
      refine loudU_one [false, false, false, false, false, false, true] rfl ?_
      simp only [sel_t, sel_f, sel_n]
      go_wp2
      refine ⟨⟨⟨_, _⟩, by first | rfl | exact wd_merge _ _ _ _ _ | exact wd_mm⟩, ?_⟩
      refine loudU_alt ?_ ?_
      focus
        refine loudU_one [false, false, false, false, false, false, false, true] rfl ?_
        simp only [sel_t, sel_f, sel_n]
        go_wp2
        refine ⟨⟨⟨_, _⟩, by first | rfl | exact wd_merge _ _ _ _ _ | exact wd_mm⟩, ?_⟩
        refine loudU_alt ?_ ?_
        focus
          refine loudU_one [false, false, false, false, false, false, false, false, true] rfl ?_
          simp only [sel_t, sel_f, sel_n]
          go_wp2
          refine ⟨⟨⟨_, _⟩, by first | rfl | exact wd_merge _ _ _ _ _ | exact wd_mm⟩, ?_⟩
          refine loudU_one [false, false, false, false, false, false, false, false, false, true] rfl ?_
          simp only [sel_t, sel_f, sel_n]
          go_wp2
          refine ⟨⟨⟨_, _⟩, by first | rfl | exact wd_merge _ _ _ _ _ | exact wd_mm⟩, ?_⟩
          refine loudU_one [false, false, false, false, false, false, false, false, false, false, true] rfl ?_
          simp only [sel_t, sel_f, sel_n]
          go_wp2
          refine ⟨⟨⟨_, _⟩, by first | rfl | exact wd_merge _ _ _ _ _ | exact wd_mm⟩, ?_⟩
          refine loudU_one [false, false, false, false, false, false, false, false, false, false, false, true] rfl ?_
          simp only [sel_t, sel_f, sel_n]
          go_wp2
          refine ⟨⟨⟨_, _⟩, by first | rfl | exact wd_merge _ _ _ _ _ | exact wd_mm⟩, ?_⟩
          refine loudU_done ?_
          go_wp2
          refine bodyPost_ret (v := .tuple #[.agg (stp s none 0 f9 d9), .int .i64 0]) (by first | (simp [results, Tryz.results8, go_sem]; done) | (simp [results, Tryz.results8, go_sem]; rfl)) rfl ?_
          exact rparse_yes HYES.out rfl (more_wd _ _ _) ⟨by rw [HRN.out]; exact RowAt.nil _, by first | exact ((rb_swap HR9.out (L' := [_, _, _]) (m := 0) (Nat.le_refl _) (by rfl)).over).rb | exact (rb_swap HR9.out (L' := [_, _, _, _]) (Nat.le_refl _) (by rfl)).rb⟩
        refine loudU_one [false, false, false, false, false, false, false, false, false, true] rfl ?_
        simp only [sel_t, sel_f, sel_n]
        go_wp2
        refine ⟨⟨⟨_, _⟩, by first | rfl | exact wd_merge _ _ _ _ _ | exact wd_mm⟩, ?_⟩
        refine loudU_alt ?_ ?_
        focus
          refine loudU_one [false, false, false, false, false, false, false, false, true] rfl ?_
          simp only [sel_t, sel_f, sel_n]
          go_wp2
          refine ⟨⟨⟨_, _⟩, by first | rfl | exact wd_merge _ _ _ _ _ | exact wd_mm⟩, ?_⟩
          refine loudU_one [false, false, false, false, false, false, false, false, false, false, true] rfl ?_
          simp only [sel_t, sel_f, sel_n]
          go_wp2
          refine ⟨⟨⟨_, _⟩, by first | rfl | exact wd_merge _ _ _ _ _ | exact wd_mm⟩, ?_⟩
          refine loudU_one [false, false, false, false, false, false, false, false, false, false, false, true] rfl ?_
          simp only [sel_t, sel_f, sel_n]
          go_wp2
          refine ⟨⟨⟨_, _⟩, by first | rfl | exact wd_merge _ _ _ _ _ | exact wd_mm⟩, ?_⟩
          refine loudU_done ?_
          go_wp2
          refine bodyPost_ret (v := .tuple #[.agg (stp s none 0 f9 d9), .int .i64 0]) (by first | (simp [results, Tryz.results8, go_sem]; done) | (simp [results, Tryz.results8, go_sem]; rfl)) rfl ?_
          exact rparse_yes HYES.out rfl (more_wd _ _ _) ⟨by rw [HRN.out]; exact RowAt.nil _, by first | exact ((rb_swap HR9.out (L' := [_, _, _]) (m := 0) (Nat.le_refl _) (by rfl)).over).rb | exact (rb_swap HR9.out (L' := [_, _, _, _]) (Nat.le_refl _) (by rfl)).rb⟩
        refine loudU_one [false, false, false, false, false, false, false, false, false, false, true] rfl ?_
        simp only [sel_t, sel_f, sel_n]
        go_wp2
        refine ⟨⟨⟨_, _⟩, by first | rfl | exact wd_merge _ _ _ _ _ | exact wd_mm⟩, ?_⟩
        refine loudU_one [false, false, false, false, false, false, false, false, true] rfl ?_
        simp only [sel_t, sel_f, sel_n]
        go_wp2
        refine ⟨⟨⟨_, _⟩, by first | rfl | exact wd_merge _ _ _ _ _ | exact wd_mm⟩, ?_⟩
        refine loudU_one [false, false, false, false, false, false, false, false, false, false, false, true] rfl ?_
        simp only [sel_t, sel_f, sel_n]
        go_wp2
        refine ⟨⟨⟨_, _⟩, by first | rfl | exact wd_merge _ _ _ _ _ | exact wd_mm⟩, ?_⟩
        refine loudU_done ?_
        go_wp2
        refine bodyPost_ret (v := .tuple #[.agg (stp s none 0 f9 d9), .int .i64 0]) (by first | (simp [results, Tryz.results8, go_sem]; done) | (simp [results, Tryz.results8, go_sem]; rfl)) rfl ?_
        exact rparse_yes HYES.out rfl (more_wd _ _ _) ⟨by rw [HRN.out]; exact RowAt.nil _, by first | exact ((rb_swap HR9.out (L' := [_, _, _]) (m := 0) (Nat.le_refl _) (by rfl)).over).rb | exact (rb_swap HR9.out (L' := [_, _, _, _]) (Nat.le_refl _) (by rfl)).rb⟩
      refine loudU_alt ?_ ?_
      focus
        refine loudU_one [false, false, false, false, false, false, false, false, true] rfl ?_
        simp only [sel_t, sel_f, sel_n]
        go_wp2
        refine ⟨⟨⟨_, _⟩, by first | rfl | exact wd_merge _ _ _ _ _ | exact wd_mm⟩, ?_⟩
        refine loudU_alt ?_ ?_
        focus
          refine loudU_one [false, false, false, false, false, false, false, true] rfl ?_
          simp only [sel_t, sel_f, sel_n]
          go_wp2
          refine ⟨⟨⟨_, _⟩, by first | rfl | exact wd_merge _ _ _ _ _ | exact wd_mm⟩, ?_⟩
          refine loudU_one [false, false, false, false, false, false, false, false, false, true] rfl ?_
          simp only [sel_t, sel_f, sel_n]
          go_wp2
          refine ⟨⟨⟨_, _⟩, by first | rfl | exact wd_merge _ _ _ _ _ | exact wd_mm⟩, ?_⟩
          refine loudU_one [false, false, false, false, false, false, false, false, false, false, true] rfl ?_
          simp only [sel_t, sel_f, sel_n]
          go_wp2
          refine ⟨⟨⟨_, _⟩, by first | rfl | exact wd_merge _ _ _ _ _ | exact wd_mm⟩, ?_⟩
          refine loudU_one [false, false, false, false, false, false, false, false, false, false, false, true] rfl ?_
          simp only [sel_t, sel_f, sel_n]
          go_wp2
          refine ⟨⟨⟨_, _⟩, by first | rfl | exact wd_merge _ _ _ _ _ | exact wd_mm⟩, ?_⟩
          refine loudU_done ?_
          go_wp2
          refine bodyPost_ret (v := .tuple #[.agg (stp s none 0 f9 d9), .int .i64 0]) (by first | (simp [results, Tryz.results8, go_sem]; done) | (simp [results, Tryz.results8, go_sem]; rfl)) rfl ?_
          exact rparse_yes HYES.out rfl (more_wd _ _ _) ⟨by rw [HRN.out]; exact RowAt.nil _, by first | exact ((rb_swap HR9.out (L' := [_, _, _]) (m := 0) (Nat.le_refl _) (by rfl)).over).rb | exact (rb_swap HR9.out (L' := [_, _, _, _]) (Nat.le_refl _) (by rfl)).rb⟩
        refine loudU_one [false, false, false, false, false, false, false, false, false, true] rfl ?_
        simp only [sel_t, sel_f, sel_n]
        go_wp2
        refine ⟨⟨⟨_, _⟩, by first | rfl | exact wd_merge _ _ _ _ _ | exact wd_mm⟩, ?_⟩
        refine loudU_one [false, false, false, false, false, false, false, true] rfl ?_
        simp only [sel_t, sel_f, sel_n]
        go_wp2
        refine ⟨⟨⟨_, _⟩, by first | rfl | exact wd_merge _ _ _ _ _ | exact wd_mm⟩, ?_⟩
        refine loudU_one [false, false, false, false, false, false, false, false, false, false, true] rfl ?_
        simp only [sel_t, sel_f, sel_n]
        go_wp2
        refine ⟨⟨⟨_, _⟩, by first | rfl | exact wd_merge _ _ _ _ _ | exact wd_mm⟩, ?_⟩
        refine loudU_one [false, false, false, false, false, false, false, false, false, false, false, true] rfl ?_
        simp only [sel_t, sel_f, sel_n]
        go_wp2
        refine ⟨⟨⟨_, _⟩, by first | rfl | exact wd_merge _ _ _ _ _ | exact wd_mm⟩, ?_⟩
        refine loudU_done ?_
        go_wp2
        refine bodyPost_ret (v := .tuple #[.agg (stp s none 0 f9 d9), .int .i64 0]) (by first | (simp [results, Tryz.results8, go_sem]; done) | (simp [results, Tryz.results8, go_sem]; rfl)) rfl ?_
        exact rparse_yes HYES.out rfl (more_wd _ _ _) ⟨by rw [HRN.out]; exact RowAt.nil _, by first | exact ((rb_swap HR9.out (L' := [_, _, _]) (m := 0) (Nat.le_refl _) (by rfl)).over).rb | exact (rb_swap HR9.out (L' := [_, _, _, _]) (Nat.le_refl _) (by rfl)).rb⟩
      refine loudU_one [false, false, false, false, false, false, false, false, false, true] rfl ?_
      simp only [sel_t, sel_f, sel_n]
      go_wp2
      refine ⟨⟨⟨_, _⟩, by first | rfl | exact wd_merge _ _ _ _ _ | exact wd_mm⟩, ?_⟩
      refine loudU_alt ?_ ?_
      focus
        refine loudU_one [false, false, false, false, false, false, false, true] rfl ?_
        simp only [sel_t, sel_f, sel_n]
        go_wp2
        refine ⟨⟨⟨_, _⟩, by first | rfl | exact wd_merge _ _ _ _ _ | exact wd_mm⟩, ?_⟩
        refine loudU_alt ?_ ?_
        focus
          refine loudU_one [false, false, false, false, false, false, false, false, true] rfl ?_
          simp only [sel_t, sel_f, sel_n]
          go_wp2
          refine ⟨⟨⟨_, _⟩, by first | rfl | exact wd_merge _ _ _ _ _ | exact wd_mm⟩, ?_⟩
          refine loudU_one [false, false, false, false, false, false, false, false, false, false, true] rfl ?_
          simp only [sel_t, sel_f, sel_n]
          go_wp2
          refine ⟨⟨⟨_, _⟩, by first | rfl | exact wd_merge _ _ _ _ _ | exact wd_mm⟩, ?_⟩
          refine loudU_one [false, false, false, false, false, false, false, false, false, false, false, true] rfl ?_
          simp only [sel_t, sel_f, sel_n]
          go_wp2
          refine ⟨⟨⟨_, _⟩, by first | rfl | exact wd_merge _ _ _ _ _ | exact wd_mm⟩, ?_⟩
          refine loudU_done ?_
          go_wp2
          refine bodyPost_ret (v := .tuple #[.agg (stp s none 0 f9 d9), .int .i64 0]) (by first | (simp [results, Tryz.results8, go_sem]; done) | (simp [results, Tryz.results8, go_sem]; rfl)) rfl ?_
          exact rparse_yes HYES.out rfl (more_wd _ _ _) ⟨by rw [HRN.out]; exact RowAt.nil _, by first | exact ((rb_swap HR9.out (L' := [_, _, _]) (m := 0) (Nat.le_refl _) (by rfl)).over).rb | exact (rb_swap HR9.out (L' := [_, _, _, _]) (Nat.le_refl _) (by rfl)).rb⟩
        refine loudU_one [false, false, false, false, false, false, false, false, false, false, true] rfl ?_
        simp only [sel_t, sel_f, sel_n]
        go_wp2
        refine ⟨⟨⟨_, _⟩, by first | rfl | exact wd_merge _ _ _ _ _ | exact wd_mm⟩, ?_⟩
        refine loudU_one [false, false, false, false, false, false, false, false, true] rfl ?_
        simp only [sel_t, sel_f, sel_n]
        go_wp2
        refine ⟨⟨⟨_, _⟩, by first | rfl | exact wd_merge _ _ _ _ _ | exact wd_mm⟩, ?_⟩
        refine loudU_one [false, false, false, false, false, false, false, false, false, false, false, true] rfl ?_
        simp only [sel_t, sel_f, sel_n]
        go_wp2
        refine ⟨⟨⟨_, _⟩, by first | rfl | exact wd_merge _ _ _ _ _ | exact wd_mm⟩, ?_⟩
        refine loudU_done ?_
        go_wp2
        refine bodyPost_ret (v := .tuple #[.agg (stp s none 0 f9 d9), .int .i64 0]) (by first | (simp [results, Tryz.results8, go_sem]; done) | (simp [results, Tryz.results8, go_sem]; rfl)) rfl ?_
        exact rparse_yes HYES.out rfl (more_wd _ _ _) ⟨by rw [HRN.out]; exact RowAt.nil _, by first | exact ((rb_swap HR9.out (L' := [_, _, _]) (m := 0) (Nat.le_refl _) (by rfl)).over).rb | exact (rb_swap HR9.out (L' := [_, _, _, _]) (Nat.le_refl _) (by rfl)).rb⟩
      refine loudU_one [false, false, false, false, false, false, false, false, true] rfl ?_
      simp only [sel_t, sel_f, sel_n]
      go_wp2
      refine ⟨⟨⟨_, _⟩, by first | rfl | exact wd_merge _ _ _ _ _ | exact wd_mm⟩, ?_⟩
      refine loudU_one [false, false, false, false, false, false, false, true] rfl ?_
      simp only [sel_t, sel_f, sel_n]
      go_wp2
      refine ⟨⟨⟨_, _⟩, by first | rfl | exact wd_merge _ _ _ _ _ | exact wd_mm⟩, ?_⟩
      refine loudU_one [false, false, false, false, false, false, false, false, false, false, true] rfl ?_
      simp only [sel_t, sel_f, sel_n]
      go_wp2
      refine ⟨⟨⟨_, _⟩, by first | rfl | exact wd_merge _ _ _ _ _ | exact wd_mm⟩, ?_⟩
      refine loudU_one [false, false, false, false, false, false, false, false, false, false, false, true] rfl ?_
      simp only [sel_t, sel_f, sel_n]
      go_wp2
      refine ⟨⟨⟨_, _⟩, by first | rfl | exact wd_merge _ _ _ _ _ | exact wd_mm⟩, ?_⟩
      refine loudU_done ?_
      go_wp2
      refine bodyPost_ret (v := .tuple #[.agg (stp s none 0 f9 d9), .int .i64 0]) (by first | (simp [results, Tryz.results8, go_sem]; done) | (simp [results, Tryz.results8, go_sem]; rfl)) rfl ?_
      exact rparse_yes HYES.out rfl (more_wd _ _ _) ⟨by rw [HRN.out]; exact RowAt.nil _, by first | exact ((rb_swap HR9.out (L' := [_, _, _]) (m := 0) (Nat.le_refl _) (by rfl)).over).rb | exact (rb_swap HR9.out (L' := [_, _, _, _]) (Nat.le_refl _) (by rfl)).rb⟩
    refine loudU_one [false, false, false, false, false, false, false, false, false, true] rfl ?_
    simp only [sel_t, sel_f, sel_n]
    go_wp2
    refine ⟨⟨⟨_, _⟩, by first | rfl | exact wd_merge _ _ _ _ _ | exact wd_mm⟩, ?_⟩
    refine loudU_one [false, false, false, false, false, false, true] rfl ?_
    simp only [sel_t, sel_f, sel_n]
    go_wp2
    refine ⟨⟨⟨_, _⟩, by first | rfl | exact wd_merge _ _ _ _ _ | exact wd_mm⟩, ?_⟩
    refine loudU_alt ?_ ?_
    focus
      refine loudU_one [false, false, false, false, false, false, false, true] rfl ?_
      simp only [sel_t, sel_f, sel_n]
      go_wp2
      refine ⟨⟨⟨_, _⟩, by first | rfl | exact wd_merge _ _ _ _ _ | exact wd_mm⟩, ?_⟩
      refine loudU_alt ?_ ?_
      focus
        refine loudU_one [false, false, false, false, false, false, false, false, true] rfl ?_
        simp only [sel_t, sel_f, sel_n]
        go_wp2
        refine ⟨⟨⟨_, _⟩, by first | rfl | exact wd_merge _ _ _ _ _ | exact wd_mm⟩, ?_⟩
        refine loudU_one [false, false, false, false, false, false, false, false, false, false, true] rfl ?_
        simp only [sel_t, sel_f, sel_n]
        go_wp2
        refine ⟨⟨⟨_, _⟩, by first | rfl | exact wd_merge _ _ _ _ _ | exact wd_mm⟩, ?_⟩
        refine loudU_one [false, false, false, false, false, false, false, false, false, false, false, true] rfl ?_
        simp only [sel_t, sel_f, sel_n]
        go_wp2
        refine ⟨⟨⟨_, _⟩, by first | rfl | exact wd_merge _ _ _ _ _ | exact wd_mm⟩, ?_⟩
        refine loudU_done ?_
        go_wp2
        refine bodyPost_ret (v := .tuple #[.agg (stp s none 0 f9 d9), .int .i64 0]) (by first | (simp [results, Tryz.results8, go_sem]; done) | (simp [results, Tryz.results8, go_sem]; rfl)) rfl ?_
        exact rparse_yes HYES.out rfl (more_wd _ _ _) ⟨by rw [HRN.out]; exact RowAt.nil _, by first | exact ((rb_swap HR9.out (L' := [_, _, _]) (m := 0) (Nat.le_refl _) (by rfl)).over).rb | exact (rb_swap HR9.out (L' := [_, _, _, _]) (Nat.le_refl _) (by rfl)).rb⟩
      refine loudU_one [false, false, false, false, false, false, false, false, false, false, true] rfl ?_
      simp only [sel_t, sel_f, sel_n]
      go_wp2
      refine ⟨⟨⟨_, _⟩, by first | rfl | exact wd_merge _ _ _ _ _ | exact wd_mm⟩, ?_⟩
      refine loudU_one [false, false, false, false, false, false, false, false, true] rfl ?_
      simp only [sel_t, sel_f, sel_n]
      go_wp2
      refine ⟨⟨⟨_, _⟩, by first | rfl | exact wd_merge _ _ _ _ _ | exact wd_mm⟩, ?_⟩
      refine loudU_one [false, false, false, false, false, false, false, false, false, false, false, true] rfl ?_
      simp only [sel_t, sel_f, sel_n]
      go_wp2
      refine ⟨⟨⟨_, _⟩, by first | rfl | exact wd_merge _ _ _ _ _ | exact wd_mm⟩, ?_⟩
      refine loudU_done ?_
      go_wp2
      refine bodyPost_ret (v := .tuple #[.agg (stp s none 0 f9 d9), .int .i64 0]) (by first | (simp [results, Tryz.results8, go_sem]; done) | (simp [results, Tryz.results8, go_sem]; rfl)) rfl ?_
      exact rparse_yes HYES.out rfl (more_wd _ _ _) ⟨by rw [HRN.out]; exact RowAt.nil _, by first | exact ((rb_swap HR9.out (L' := [_, _, _]) (m := 0) (Nat.le_refl _) (by rfl)).over).rb | exact (rb_swap HR9.out (L' := [_, _, _, _]) (Nat.le_refl _) (by rfl)).rb⟩
    refine loudU_one [false, false, false, false, false, false, false, false, true] rfl ?_
    simp only [sel_t, sel_f, sel_n]
    go_wp2
    refine ⟨⟨⟨_, _⟩, by first | rfl | exact wd_merge _ _ _ _ _ | exact wd_mm⟩, ?_⟩
    refine loudU_one [false, false, false, false, false, false, false, true] rfl ?_
    simp only [sel_t, sel_f, sel_n]
    go_wp2
    refine ⟨⟨⟨_, _⟩, by first | rfl | exact wd_merge _ _ _ _ _ | exact wd_mm⟩, ?_⟩
    refine loudU_one [false, false, false, false, false, false, false, false, false, false, true] rfl ?_
    simp only [sel_t, sel_f, sel_n]
    go_wp2
    refine ⟨⟨⟨_, _⟩, by first | rfl | exact wd_merge _ _ _ _ _ | exact wd_mm⟩, ?_⟩
    refine loudU_one [false, false, false, false, false, false, false, false, false, false, false, true] rfl ?_
    simp only [sel_t, sel_f, sel_n]
    go_wp2
    refine ⟨⟨⟨_, _⟩, by first | rfl | exact wd_merge _ _ _ _ _ | exact wd_mm⟩, ?_⟩
    refine loudU_done ?_
    go_wp2
    refine bodyPost_ret (v := .tuple #[.agg (stp s none 0 f9 d9), .int .i64 0]) (by first | (simp [results, Tryz.results8, go_sem]; done) | (simp [results, Tryz.results8, go_sem]; rfl)) rfl ?_
    exact rparse_yes HYES.out rfl (more_wd _ _ _) ⟨by rw [HRN.out]; exact RowAt.nil _, by first | exact ((rb_swap HR9.out (L' := [_, _, _]) (m := 0) (Nat.le_refl _) (by rfl)).over).rb | exact (rb_swap HR9.out (L' := [_, _, _, _]) (Nat.le_refl _) (by rfl)).rb⟩
  refine loudU_one [false, false, false, false, false, false, false, false, false, true] rfl ?_
  simp only [sel_t, sel_f, sel_n]
  go_wp2
  refine ⟨⟨⟨_, _⟩, by first | rfl | exact wd_merge _ _ _ _ _ | exact wd_mm⟩, ?_⟩
  refine loudU_one [false, false, false, false, false, true] rfl ?_
  simp only [sel_t, sel_f, sel_n]
  go_wp2_with (first | (go_at_call 31; refine (HO.out _ _ (HSR.out _ (by first | exact more_cons (more_same _ _ _ _) | exact more_cons (more_cons (more_same _ _ _ _))))).mono ?_; rintro e9 w9 hs; have hs2 := hs.out; rw [HQ.out] at hs2; obtain ⟨f9, d9, x9, n9, rfl, rfl, hr9⟩ := hs2; have HR9 := Lib.hid hr9; clear hs hr9))
  refine ⟨⟨⟨_, _⟩, by first | rfl | exact wd_merge _ _ _ _ _ | exact wd_mm⟩, ?_⟩
  refine loudU_one [false, false, false, false, false, false, true] rfl ?_
  simp only [sel_t, sel_f, sel_n]
  go_wp2
  refine ⟨⟨⟨_, _⟩, by first | rfl | exact wd_merge _ _ _ _ _ | exact wd_mm⟩, ?_⟩
  refine loudU_alt ?_ ?_
  focus
    refine loudU_one [false, false, false, false, false, false, false, true] rfl ?_
    simp only [sel_t, sel_f, sel_n]
    go_wp2
    refine ⟨⟨⟨_, _⟩, by first | rfl | exact wd_merge _ _ _ _ _ | exact wd_mm⟩, ?_⟩
    refine loudU_alt ?_ ?_
    focus
      refine loudU_one [false, false, false, false, false, false, false, false, true] rfl ?_
      simp only [sel_t, sel_f, sel_n]
      go_wp2
      refine ⟨⟨⟨_, _⟩, by first | rfl | exact wd_merge _ _ _ _ _ | exact wd_mm⟩, ?_⟩
      refine loudU_one [false, false, false, false, false, false, false, false, false, false, true] rfl ?_
      simp only [sel_t, sel_f, sel_n]
      go_wp2
      refine ⟨⟨⟨_, _⟩, by first | rfl | exact wd_merge _ _ _ _ _ | exact wd_mm⟩, ?_⟩
      refine loudU_one [false, false, false, false, false, false, false, false, false, false, false, true] rfl ?_
      simp only [sel_t, sel_f, sel_n]
      go_wp2
      refine ⟨⟨⟨_, _⟩, by first | rfl | exact wd_merge _ _ _ _ _ | exact wd_mm⟩, ?_⟩
      refine loudU_done ?_
      go_wp2
      refine bodyPost_ret (v := .tuple #[.agg (stp s none 0 f9 d9), .int .i64 0]) (by first | (simp [results, Tryz.results8, go_sem]; done) | (simp [results, Tryz.results8, go_sem]; rfl)) rfl ?_
      exact rparse_yes HYES.out rfl (more_wd _ _ _) ⟨by rw [HRN.out]; exact RowAt.nil _, by first | exact ((rb_swap HR9.out (L' := [_, _, _]) (m := 0) (Nat.le_refl _) (by rfl)).over).rb | exact (rb_swap HR9.out (L' := [_, _, _, _]) (Nat.le_refl _) (by rfl)).rb⟩
    refine loudU_one [false, false, false, false, false, false, false, false, false, false, true] rfl ?_
    simp only [sel_t, sel_f, sel_n]
    go_wp2
    refine ⟨⟨⟨_, _⟩, by first | rfl | exact wd_merge _ _ _ _ _ | exact wd_mm⟩, ?_⟩
    refine loudU_one [false, false, false, false, false, false, false, false, true] rfl ?_
    simp only [sel_t, sel_f, sel_n]
    go_wp2
    refine ⟨⟨⟨_, _⟩, by first | rfl | exact wd_merge _ _ _ _ _ | exact wd_mm⟩, ?_⟩
    refine loudU_one [false, false, false, false, false, false, false, false, false, false, false, true] rfl ?_
    simp only [sel_t, sel_f, sel_n]
    go_wp2
    refine ⟨⟨⟨_, _⟩, by first | rfl | exact wd_merge _ _ _ _ _ | exact wd_mm⟩, ?_⟩
    refine loudU_done ?_
    go_wp2
    refine bodyPost_ret (v := .tuple #[.agg (stp s none 0 f9 d9), .int .i64 0]) (by first | (simp [results, Tryz.results8, go_sem]; done) | (simp [results, Tryz.results8, go_sem]; rfl)) rfl ?_
    exact rparse_yes HYES.out rfl (more_wd _ _ _) ⟨by rw [HRN.out]; exact RowAt.nil _, by first | exact ((rb_swap HR9.out (L' := [_, _, _]) (m := 0) (Nat.le_refl _) (by rfl)).over).rb | exact (rb_swap HR9.out (L' := [_, _, _, _]) (Nat.le_refl _) (by rfl)).rb⟩
  refine loudU_one [false, false, false, false, false, false, false, false, true] rfl ?_
  simp only [sel_t, sel_f, sel_n]
  go_wp2
  refine ⟨⟨⟨_, _⟩, by first | rfl | exact wd_merge _ _ _ _ _ | exact wd_mm⟩, ?_⟩
  refine loudU_one [false, false, false, false, false, false, false, true] rfl ?_
  simp only [sel_t, sel_f, sel_n]
  go_wp2
  refine ⟨⟨⟨_, _⟩, by first | rfl | exact wd_merge _ _ _ _ _ | exact wd_mm⟩, ?_⟩
  refine loudU_one [false, false, false, false, false, false, false, false, false, false, true] rfl ?_
  simp only [sel_t, sel_f, sel_n]
  go_wp2
  refine ⟨⟨⟨_, _⟩, by first | rfl | exact wd_merge _ _ _ _ _ | exact wd_mm⟩, ?_⟩
  refine loudU_one [false, false, false, false, false, false, false, false, false, false, false, true] rfl ?_
  simp only [sel_t, sel_f, sel_n]
  go_wp2
  refine ⟨⟨⟨_, _⟩, by first | rfl | exact wd_merge _ _ _ _ _ | exact wd_mm⟩, ?_⟩
  refine loudU_done ?_
  go_wp2
  refine bodyPost_ret (v := .tuple #[.agg (stp s none 0 f9 d9), .int .i64 0]) (by first | (simp [results, Tryz.results8, go_sem]; done) | (simp [results, Tryz.results8, go_sem]; rfl)) rfl ?_
  exact rparse_yes HYES.out rfl (more_wd _ _ _) ⟨by rw [HRN.out]; exact RowAt.nil _, by first | exact ((rb_swap HR9.out (L' := [_, _, _]) (m := 0) (Nat.le_refl _) (by rfl)).over).rb | exact (rb_swap HR9.out (L' := [_, _, _, _]) (Nat.le_refl _) (by rfl)).rb⟩
theorem rparse_any (line : List UInt8) (w : World) (hl : line.length ≤ 1000) : Calls Tryz.prog 8 #[.string (str line)] w fun e w' => RParse w w' e line := by
  cases hws : splitC 32 line with
  | nil => exact absurd hws (splitC_ne _ _)
  | cons t r =>
    by_cases hp : t = w_produce
    · subst hp; exact rparse_prod line r w hl hws
    · cases hsh : reqSh t with
      | some p => obtain ⟨k, sh⟩ := p; exact rparse_req line t r k sh w hl hws hsh hp
      | none =>
        cases hq : otherR t r with
        | none => exact rparse_ono line t r w hl hws hsh hp hq
        | some s => exact rparse_oyes line t r w hl hws hsh hp s hq
end Go.Proofs.YtifoekadjnlhcaaGreatDoor
