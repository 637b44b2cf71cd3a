/- console: step, all kinds but crash (printed by gen/cpo.py). -/
import Derived.Test.YtifoekadjnlhcaaGreatDoorMQ
import Derived.Test.YtifoekadjnlhcaaGreatDoorMH
import Derived.Test.YtifoekadjnlhcaaGreatDoorMA
namespace Go.Proofs.YtifoekadjnlhcaaGreatDoor
open Go.ChangeShapes Go.WideShapes Go.ChangeAt Go.RowKit
set_option linter.unusedVariables false
set_option linter.unusedSimpArgs false
structure RBNew (S : Nat) (w : World) (f : Option Addr) (fc : Nat) (l : List UInt8) : Prop where
  len : l.length ≤ fc
  max : fc ≤ maxLen
  out : l ≠ [] → ∃ b off, f = some ⟨b, off, none⟩ ∧ S ≤ b ∧ b < w.heap.size ∧ ∀ i, i < l.length → w.cell? ⟨b, off + i, none⟩ = (Lib.byteCells l)[i]?
theorem RBNew.nil (S : Nat) (w : World) : RBNew S w none 0 [] := ⟨Nat.le_refl _, Nat.zero_le _, fun h => absurd rfl h⟩
theorem RBNew.rb {S : Nat} {w : World} {f : Option Addr} {fc : Nat} {l : List UInt8} (h : RBNew S w f fc l) : RB w (.slice f l.length fc) l := ⟨f, fc, rfl, h.len, h.max, fun hne => by
  obtain ⟨b, off, h1, h2, h3, h4⟩ := h.out hne
  exact ⟨b, off, h1, h3, h4⟩⟩
theorem RBNew.keep {S S' : Nat} {w w' : World} {f : Option Addr} {fc : Nat} {l : List UInt8} (h : RBNew S w f fc l) (hS : S' ≤ S) (hk : ∀ b, S ≤ b → b < w.heap.size → w'.heap[b]? = w.heap[b]?) : RBNew S' w' f fc l := ⟨h.len, h.max, fun hne => by
  obtain ⟨b, off, h1, h2, h3, h4⟩ := h.out hne
  have hb := hk b h2 h3
  have hlt : b < w'.heap.size := by
    rw [Array.getElem?_eq_getElem h3] at hb
    exact (Array.getElem?_eq_some_iff.1 hb).1
  exact ⟨b, off, h1, Nat.le_trans hS h2, hlt, fun i hi => by rw [← h4 i hi]; simp only [World.cell?, hb]⟩⟩
@[go_sem] theorem stpk_1 (s : Stp) (a : Option Addr) (cap : Nat) (f : Option Addr) (fc : Nat) : (stp s a cap f fc).setIfInBounds 0 (.int .u8 1) = stp { s with kind := 1 } a cap f fc := stp_set0 s a cap f fc 1
@[go_sem] theorem stpk_2 (s : Stp) (a : Option Addr) (cap : Nat) (f : Option Addr) (fc : Nat) : (stp s a cap f fc).setIfInBounds 0 (.int .u8 2) = stp { s with kind := 2 } a cap f fc := stp_set0 s a cap f fc 2
@[go_sem] theorem stpk_3 (s : Stp) (a : Option Addr) (cap : Nat) (f : Option Addr) (fc : Nat) : (stp s a cap f fc).setIfInBounds 0 (.int .u8 3) = stp { s with kind := 3 } a cap f fc := stp_set0 s a cap f fc 3
@[go_sem] theorem stpk_4 (s : Stp) (a : Option Addr) (cap : Nat) (f : Option Addr) (fc : Nat) : (stp s a cap f fc).setIfInBounds 0 (.int .u8 4) = stp { s with kind := 4 } a cap f fc := stp_set0 s a cap f fc 4
@[go_sem] theorem stpk_5 (s : Stp) (a : Option Addr) (cap : Nat) (f : Option Addr) (fc : Nat) : (stp s a cap f fc).setIfInBounds 0 (.int .u8 5) = stp { s with kind := 5 } a cap f fc := stp_set0 s a cap f fc 5
def stepWW : List Word → Option (Stp × List Word)
  | [] => none
  | t :: r => stepW t r
structure StepRet (w w' : World) (e : Ending) (p : Nat) (v : Value) (ws : List Word) : Prop where
  out : match stepWW ws with
    | none => CNo w w' e p
    | some (s, r) => ∃ a cap f fc, e = .returned (.agg (stp s a cap f fc)) ∧ CTk w w' p v ws r ∧ RecsNew w.heap.size w' a cap s.q.batch.recs ∧ RBNew w.heap.size w' f fc s.fate ∧ (s.kind ≠ 4 → f = none ∧ fc = 0)
section
variable {w w' : World} {e : Ending} {p : Nat} {v : Value} {ws r : List Word} {s : Stp} {a f : Option Addr} {cap fc : Nat}
theorem stepret_no (h : stepWW ws = none) (hc : CNo w w' e p) : StepRet w w' e p v ws := ⟨by rw [h]; exact hc⟩
theorem stepret_yes (h : stepWW ws = some (s, r)) (he : e = .returned (.agg (stp s a cap f fc))) (hc : CTk w w' p v ws r) (hr : RecsNew w.heap.size w' a cap s.q.batch.recs) (hf : RBNew w.heap.size w' f fc s.fate) (hk : s.kind ≠ 4 → f = none ∧ fc = 0) : StepRet w w' e p v ws := ⟨by rw [h]; exact ⟨a, cap, f, fc, he, hc, hr, hf, hk⟩⟩
theorem stepret_plain (h : stepWW ws = some (s, r)) (he : e = .returned (.agg (stp s none 0 none 0))) (hq : s.q.batch.recs = []) (hf : s.fate = []) (hc : CTk w w' p v ws r) : StepRet w w' e p v ws := stepret_yes h he hc (by rw [hq]; exact RecsNew.zero _ _) (by rw [hf]; exact RBNew.nil _ _) (fun _ => ⟨rfl, rfl⟩)
end
theorem RecsNew.wd2 {w : World} {L L' : List (Array Obj)} {n k m p : Nat} {v0 v : Value} {x : Array Obj} {a : Option Addr} {cap : Nat} {l : List Rec} (h : RecsNew (Go.Proofs.YtifoekadjnlhcaaGreatDoor.wd (cset w p v0) L n).heap.size (plus (cset (Go.Proofs.YtifoekadjnlhcaaGreatDoor.wd (cset w p v0) L n) p v) x k) a cap l) (hp : p < w.heap.size) (hL : shape L' = shape L) :
    RecsNew w.heap.size (Go.Proofs.YtifoekadjnlhcaaGreatDoor.wd (cset w p v) (x :: L') m) a cap l := by
  have h2 := RecsNew.wd (w := cset w p v0) (L' := L') (m := m) h (by rw [cset_size]; exact hp) hL
  rwa [cset_cset, cset_size] at h2
theorem cs_le {w : World} {p : Nat} {v : Value} {ws : List Word} (h : CS w p v ws) : p < w.heap.size := h.rd.lt
set_option maxRecDepth 100000 in
set_option maxHeartbeats 3200000 in
theorem step_nil (p : Nat) (v : Value) (w : World) (h0 : CS w p v []) : Calls Tryz.prog 25 #[.pointer (some ⟨p, 0, none⟩)] w fun e w' => StepRet w w' e p v [] := by
  have hlt := cs_le h0
  have H0 := Lib.hid h0
  clear h0
  refine calls_wd ?_
  go_enter Tryz.func25, Tryz.ntmps25
  go_wp2_with (first
    | (go_at_call 48; refine (t_none H0.out (fun W0 h => h) (first_more H0.out (more_wd _ _ _))).mono ?_; rintro e w1 hs; obtain ⟨v9, x9, k9, rfl, rfl⟩ := hs.out; clear hs))
  exact ⟨rfl, stepret_no rfl (cno_of _ _ _ _)⟩
set_option maxRecDepth 100000 in
set_option maxHeartbeats 3200000 in
theorem step_reqno (p : Nat) (v : Value) (t : Word) (r : List Word) (w : World) (h0 : CS w p v (t :: r)) (hq : requestW t r = none) : Calls Tryz.prog 25 #[.pointer (some ⟨p, 0, none⟩)] w fun e w' => StepRet w w' e p v (t :: r) := by
  have hlt := cs_le h0
  have H0 := Lib.hid h0
  have HRQ := Lib.hid hq
  have HT : Hid (stepWW (t :: r) = none) := Lib.hid (by show stepW t r = _; unfold stepW; rw [hq])
  clear h0 hq
  refine calls_wd ?_
  go_enter Tryz.func25, Tryz.ntmps25
  go_wp2_with (first
    | (go_at_call 48; refine (t_step H0.out (fun W0 h => h) (first_more H0.out (more_wd _ _ _))).mono ?_; rintro e w1 ⟨rfl, v0, x0, k0, hk, rfl⟩; have HK0 := Lib.hid hk; clear hk)
    | (go_at_call 49; refine (request_any p v0 _ r _ (cs_at H0.out HK0.out (more_wd _ _ _))).mono ?_; rintro e w1 hs; have hs2 := hs.out; rw [HRQ.out] at hs2; obtain ⟨v9, x9, k9, rfl, rfl⟩ := hs2.out; clear hs hs2))
  exact ⟨rfl, stepret_no HT.out (cno_of _ _ _ _)⟩
set_option maxRecDepth 100000 in
set_option maxHeartbeats 3200000 in
theorem step_tick (p : Nat) (v : Value) (r : List Word) (n : Nat) (r0 : List Word) (hq0 : tkN r = some (n, r0)) (w : World) (h0 : CS w p v (w_tick :: r)) : Calls Tryz.prog 25 #[.pointer (some ⟨p, 0, none⟩)] w fun e w' => StepRet w w' e p v (w_tick :: r) := by
  have q0 : ((str w_tick).toList == [116, 105, 99, 107]) = true := by rw [str_toList]; decide
  have hst : ∀ r, stepW w_tick r = (match tkN r with | none => none | some (n, r) => some ({ stpBlank 1 with n := n }, r)) := fun r => rfl
  have HT : Hid (stepWW (w_tick :: r) = some ({ stpBlank 1 with n := n }, r0)) := Lib.hid (by show stepW w_tick r = _; rw [hst]; simp only [hq0])
  have HRQ : Hid (requestW w_tick r = some (none, r)) := Lib.hid rfl
  have hlt := cs_le h0
  have H0 := Lib.hid h0
  have HQ0 := Lib.hid hq0
  clear h0 hst hq0
  obtain ⟨tw, htw⟩ : ∃ tw, w_tick = tw := ⟨_, rfl⟩
  rw [htw] at HT HRQ H0 q0 ⊢
  clear htw
  refine calls_wd ?_
  go_enter Tryz.func25, Tryz.ntmps25
  go_wp2_with (first
    | (go_at_call 48; refine (t_step H0.out (fun W0 h => h) (first_more H0.out (more_wd _ _ _))).mono ?_; rintro e w1 ⟨rfl, v0, x0, k0, hk, rfl⟩; have HK0 := Lib.hid hk; clear hk)
    | (go_at_call 49; refine (request_any p v0 _ r _ (cs_at H0.out HK0.out (more_wd _ _ _))).mono ?_; rintro e w1 hs; have hs2 := hs.out; rw [HRQ.out] at hs2; obtain ⟨rfl, hk⟩ := hs2; obtain ⟨v2, x2, k2, hk2, rfl⟩ := hk.out; have HK1 := Lib.hid (fun W0 h => hk2 W0 (HK0.out W0 h)); clear hs hk hk2)
    | (go_at_call 50; refine (n_step H0.out HQ0.out HK1.out (more_wd _ _ _)).mono ?_; rintro e w1 ⟨rfl, v3, x3, k3, hk, rfl⟩; have HK2 := Lib.hid hk; clear hk))
  refine bodyPost_ret (v := .agg (stp ({ stpBlank 1 with n := n }) none 0 none 0)) (by first | (simp [results, Tryz.results25, go_sem]; done) | (simp [results, Tryz.results25, go_sem]; rfl)) rfl ?_
  exact stepret_plain HT.out rfl rfl rfl (ctk_of _ _ HK2.out)
set_option maxRecDepth 100000 in
set_option maxHeartbeats 3200000 in
theorem step_tick_no0 (p : Nat) (v : Value) (r : List Word) (hq0 : tkN r = none) (w : World) (h0 : CS w p v (w_tick :: r)) : Calls Tryz.prog 25 #[.pointer (some ⟨p, 0, none⟩)] w fun e w' => StepRet w w' e p v (w_tick :: r) := by
  have q0 : ((str w_tick).toList == [116, 105, 99, 107]) = true := by rw [str_toList]; decide
  have hst : ∀ r, stepW w_tick r = (match tkN r with | none => none | some (n, r) => some ({ stpBlank 1 with n := n }, r)) := fun r => rfl
  have HT : Hid (stepWW (w_tick :: r) = none) := Lib.hid (by show stepW w_tick r = _; rw [hst]; simp only [hq0])
  have HRQ : Hid (requestW w_tick r = some (none, r)) := Lib.hid rfl
  have hlt := cs_le h0
  have H0 := Lib.hid h0
  have HQ0 := Lib.hid hq0
  clear h0 hst hq0
  obtain ⟨tw, htw⟩ : ∃ tw, w_tick = tw := ⟨_, rfl⟩
  rw [htw] at HT HRQ H0 q0 ⊢
  clear htw
  refine calls_wd ?_
  go_enter Tryz.func25, Tryz.ntmps25
  go_wp2_with (first
    | (go_at_call 48; refine (t_step H0.out (fun W0 h => h) (first_more H0.out (more_wd _ _ _))).mono ?_; rintro e w1 ⟨rfl, v0, x0, k0, hk, rfl⟩; have HK0 := Lib.hid hk; clear hk)
    | (go_at_call 49; refine (request_any p v0 _ r _ (cs_at H0.out HK0.out (more_wd _ _ _))).mono ?_; rintro e w1 hs; have hs2 := hs.out; rw [HRQ.out] at hs2; obtain ⟨rfl, hk⟩ := hs2; obtain ⟨v2, x2, k2, hk2, rfl⟩ := hk.out; have HK1 := Lib.hid (fun W0 h => hk2 W0 (HK0.out W0 h)); clear hs hk hk2)
    | (go_at_call 50; refine (n_none H0.out HQ0.out HK1.out (more_wd _ _ _)).mono ?_; rintro e w1 hs; obtain ⟨v9, x9, k9, rfl, rfl⟩ := hs.out; clear hs))
  exact ⟨rfl, stepret_no HT.out (cno_of _ _ _ _)⟩
set_option maxRecDepth 100000 in
set_option maxHeartbeats 3200000 in
theorem step_work (p : Nat) (v : Value) (r : List Word) (n : Nat) (r0 : List Word) (hq0 : tkN r = some (n, r0)) (w : World) (h0 : CS w p v (w_work :: r)) : Calls Tryz.prog 25 #[.pointer (some ⟨p, 0, none⟩)] w fun e w' => StepRet w w' e p v (w_work :: r) := by
  have q0 : ((str w_work).toList == [116, 105, 99, 107]) = false := by rw [str_toList]; decide
  have q1 : ((str w_work).toList == [119, 111, 114, 107]) = true := by rw [str_toList]; decide
  have hst : ∀ r, stepW w_work r = (match tkN r with | none => none | some (n, r) => some ({ stpBlank 2 with n := n }, r)) := fun r => rfl
  have HT : Hid (stepWW (w_work :: r) = some ({ stpBlank 2 with n := n }, r0)) := Lib.hid (by show stepW w_work r = _; rw [hst]; simp only [hq0])
  have HRQ : Hid (requestW w_work r = some (none, r)) := Lib.hid rfl
  have hlt := cs_le h0
  have H0 := Lib.hid h0
  have HQ0 := Lib.hid hq0
  clear h0 hst hq0
  obtain ⟨tw, htw⟩ : ∃ tw, w_work = tw := ⟨_, rfl⟩
  rw [htw] at HT HRQ H0 q0 q1 ⊢
  clear htw
  refine calls_wd ?_
  go_enter Tryz.func25, Tryz.ntmps25
  go_wp2_with (first
    | (go_at_call 48; refine (t_step H0.out (fun W0 h => h) (first_more H0.out (more_wd _ _ _))).mono ?_; rintro e w1 ⟨rfl, v0, x0, k0, hk, rfl⟩; have HK0 := Lib.hid hk; clear hk)
    | (go_at_call 49; refine (request_any p v0 _ r _ (cs_at H0.out HK0.out (more_wd _ _ _))).mono ?_; rintro e w1 hs; have hs2 := hs.out; rw [HRQ.out] at hs2; obtain ⟨rfl, hk⟩ := hs2; obtain ⟨v2, x2, k2, hk2, rfl⟩ := hk.out; have HK1 := Lib.hid (fun W0 h => hk2 W0 (HK0.out W0 h)); clear hs hk hk2)
    | (go_at_call 50; refine (n_step H0.out HQ0.out HK1.out (more_wd _ _ _)).mono ?_; rintro e w1 ⟨rfl, v3, x3, k3, hk, rfl⟩; have HK2 := Lib.hid hk; clear hk))
  refine bodyPost_ret (v := .agg (stp ({ stpBlank 2 with n := n }) none 0 none 0)) (by first | (simp [results, Tryz.results25, go_sem]; done) | (simp [results, Tryz.results25, go_sem]; rfl)) rfl ?_
  exact stepret_plain HT.out rfl rfl rfl (ctk_of _ _ HK2.out)
set_option maxRecDepth 100000 in
set_option maxHeartbeats 3200000 in
theorem step_work_no0 (p : Nat) (v : Value) (r : List Word) (hq0 : tkN r = none) (w : World) (h0 : CS w p v (w_work :: r)) : Calls Tryz.prog 25 #[.pointer (some ⟨p, 0, none⟩)] w fun e w' => StepRet w w' e p v (w_work :: r) := by
  have q0 : ((str w_work).toList == [116, 105, 99, 107]) = false := by rw [str_toList]; decide
  have q1 : ((str w_work).toList == [119, 111, 114, 107]) = true := by rw [str_toList]; decide
  have hst : ∀ r, stepW w_work r = (match tkN r with | none => none | some (n, r) => some ({ stpBlank 2 with n := n }, r)) := fun r => rfl
  have HT : Hid (stepWW (w_work :: r) = none) := Lib.hid (by show stepW w_work r = _; rw [hst]; simp only [hq0])
  have HRQ : Hid (requestW w_work r = some (none, r)) := Lib.hid rfl
  have hlt := cs_le h0
  have H0 := Lib.hid h0
  have HQ0 := Lib.hid hq0
  clear h0 hst hq0
  obtain ⟨tw, htw⟩ : ∃ tw, w_work = tw := ⟨_, rfl⟩
  rw [htw] at HT HRQ H0 q0 q1 ⊢
  clear htw
  refine calls_wd ?_
  go_enter Tryz.func25, Tryz.ntmps25
  go_wp2_with (first
    | (go_at_call 48; refine (t_step H0.out (fun W0 h => h) (first_more H0.out (more_wd _ _ _))).mono ?_; rintro e w1 ⟨rfl, v0, x0, k0, hk, rfl⟩; have HK0 := Lib.hid hk; clear hk)
    | (go_at_call 49; refine (request_any p v0 _ r _ (cs_at H0.out HK0.out (more_wd _ _ _))).mono ?_; rintro e w1 hs; have hs2 := hs.out; rw [HRQ.out] at hs2; obtain ⟨rfl, hk⟩ := hs2; obtain ⟨v2, x2, k2, hk2, rfl⟩ := hk.out; have HK1 := Lib.hid (fun W0 h => hk2 W0 (HK0.out W0 h)); clear hs hk hk2)
    | (go_at_call 50; refine (n_none H0.out HQ0.out HK1.out (more_wd _ _ _)).mono ?_; rintro e w1 hs; obtain ⟨v9, x9, k9, rfl, rfl⟩ := hs.out; clear hs))
  exact ⟨rfl, stepret_no HT.out (cno_of _ _ _ _)⟩
set_option maxRecDepth 100000 in
set_option maxHeartbeats 3200000 in
theorem step_fail (p : Nat) (v : Value) (r : List Word) (n : Nat) (r0 : List Word) (hq0 : tkN r = some (n, r0)) (y : Bool) (r1 : List Word) (hq1 : tkY r0 = some (y, r1)) (w : World) (h0 : CS w p v (w_fail :: r)) : Calls Tryz.prog 25 #[.pointer (some ⟨p, 0, none⟩)] w fun e w' => StepRet w w' e p v (w_fail :: r) := by
  have q0 : ((str w_fail).toList == [116, 105, 99, 107]) = false := by rw [str_toList]; decide
  have q1 : ((str w_fail).toList == [119, 111, 114, 107]) = false := by rw [str_toList]; decide
  have q2 : ((str w_fail).toList == [102, 97, 105, 108]) = true := by rw [str_toList]; decide
  have hst : ∀ r, stepW w_fail r = (match tkN r with | none => none | some (n, r) => match tkY r with | none => none | some (y, r) => some ({ stpBlank 3 with n := n, done := y }, r)) := fun r => rfl
  have HT : Hid (stepWW (w_fail :: r) = some ({ stpBlank 3 with n := n, done := y }, r1)) := Lib.hid (by show stepW w_fail r = _; rw [hst]; simp only [hq0, hq1])
  have HRQ : Hid (requestW w_fail r = some (none, r)) := Lib.hid rfl
  have hlt := cs_le h0
  have H0 := Lib.hid h0
  have HQ0 := Lib.hid hq0
  have HQ1 := Lib.hid hq1
  clear h0 hst hq0 hq1
  obtain ⟨tw, htw⟩ : ∃ tw, w_fail = tw := ⟨_, rfl⟩
  rw [htw] at HT HRQ H0 q0 q1 q2 ⊢
  clear htw
  refine calls_wd ?_
  go_enter Tryz.func25, Tryz.ntmps25
  go_wp2_with (first
    | (go_at_call 48; refine (t_step H0.out (fun W0 h => h) (first_more H0.out (more_wd _ _ _))).mono ?_; rintro e w1 ⟨rfl, v0, x0, k0, hk, rfl⟩; have HK0 := Lib.hid hk; clear hk)
    | (go_at_call 49; refine (request_any p v0 _ r _ (cs_at H0.out HK0.out (more_wd _ _ _))).mono ?_; rintro e w1 hs; have hs2 := hs.out; rw [HRQ.out] at hs2; obtain ⟨rfl, hk⟩ := hs2; obtain ⟨v2, x2, k2, hk2, rfl⟩ := hk.out; have HK1 := Lib.hid (fun W0 h => hk2 W0 (HK0.out W0 h)); clear hs hk hk2)
    | (go_at_call 50; refine (n_step H0.out HQ0.out HK1.out (more_wd _ _ _)).mono ?_; rintro e w1 ⟨rfl, v3, x3, k3, hk, rfl⟩; have HK2 := Lib.hid hk; clear hk)
    | (go_at_call 51; refine (y_step H0.out HQ1.out HK2.out (more_wd _ _ _)).mono ?_; rintro e w1 ⟨rfl, v4, x4, k4, hk, rfl⟩; have HK3 := Lib.hid hk; clear hk))
  refine bodyPost_ret (v := .agg (stp ({ stpBlank 3 with n := n, done := y }) none 0 none 0)) (by first | (simp [results, Tryz.results25, go_sem]; done) | (simp [results, Tryz.results25, go_sem]; rfl)) rfl ?_
  exact stepret_plain HT.out rfl rfl rfl (ctk_of _ _ HK3.out)
set_option maxRecDepth 100000 in
set_option maxHeartbeats 3200000 in
theorem step_fail_no0 (p : Nat) (v : Value) (r : List Word) (hq0 : tkN r = none) (w : World) (h0 : CS w p v (w_fail :: r)) : Calls Tryz.prog 25 #[.pointer (some ⟨p, 0, none⟩)] w fun e w' => StepRet w w' e p v (w_fail :: r) := by
  have q0 : ((str w_fail).toList == [116, 105, 99, 107]) = false := by rw [str_toList]; decide
  have q1 : ((str w_fail).toList == [119, 111, 114, 107]) = false := by rw [str_toList]; decide
  have q2 : ((str w_fail).toList == [102, 97, 105, 108]) = true := by rw [str_toList]; decide
  have hst : ∀ r, stepW w_fail r = (match tkN r with | none => none | some (n, r) => match tkY r with | none => none | some (y, r) => some ({ stpBlank 3 with n := n, done := y }, r)) := fun r => rfl
  have HT : Hid (stepWW (w_fail :: r) = none) := Lib.hid (by show stepW w_fail r = _; rw [hst]; simp only [hq0])
  have HRQ : Hid (requestW w_fail r = some (none, r)) := Lib.hid rfl
  have hlt := cs_le h0
  have H0 := Lib.hid h0
  have HQ0 := Lib.hid hq0
  clear h0 hst hq0
  obtain ⟨tw, htw⟩ : ∃ tw, w_fail = tw := ⟨_, rfl⟩
  rw [htw] at HT HRQ H0 q0 q1 q2 ⊢
  clear htw
  refine calls_wd ?_
  go_enter Tryz.func25, Tryz.ntmps25
  go_wp2_with (first
    | (go_at_call 48; refine (t_step H0.out (fun W0 h => h) (first_more H0.out (more_wd _ _ _))).mono ?_; rintro e w1 ⟨rfl, v0, x0, k0, hk, rfl⟩; have HK0 := Lib.hid hk; clear hk)
    | (go_at_call 49; refine (request_any p v0 _ r _ (cs_at H0.out HK0.out (more_wd _ _ _))).mono ?_; rintro e w1 hs; have hs2 := hs.out; rw [HRQ.out] at hs2; obtain ⟨rfl, hk⟩ := hs2; obtain ⟨v2, x2, k2, hk2, rfl⟩ := hk.out; have HK1 := Lib.hid (fun W0 h => hk2 W0 (HK0.out W0 h)); clear hs hk hk2)
    | (go_at_call 50; refine (n_none H0.out HQ0.out HK1.out (more_wd _ _ _)).mono ?_; rintro e w1 hs; obtain ⟨v9, x9, k9, rfl, rfl⟩ := hs.out; clear hs))
  exact ⟨rfl, stepret_no HT.out (cno_of _ _ _ _)⟩
set_option maxRecDepth 100000 in
set_option maxHeartbeats 3200000 in
theorem step_fail_no1 (p : Nat) (v : Value) (r : List Word) (n : Nat) (r0 : List Word) (hq0 : tkN r = some (n, r0)) (hq1 : tkY r0 = none) (w : World) (h0 : CS w p v (w_fail :: r)) : Calls Tryz.prog 25 #[.pointer (some ⟨p, 0, none⟩)] w fun e w' => StepRet w w' e p v (w_fail :: r) := by
  have q0 : ((str w_fail).toList == [116, 105, 99, 107]) = false := by rw [str_toList]; decide
  have q1 : ((str w_fail).toList == [119, 111, 114, 107]) = false := by rw [str_toList]; decide
  have q2 : ((str w_fail).toList == [102, 97, 105, 108]) = true := by rw [str_toList]; decide
  have hst : ∀ r, stepW w_fail r = (match tkN r with | none => none | some (n, r) => match tkY r with | none => none | some (y, r) => some ({ stpBlank 3 with n := n, done := y }, r)) := fun r => rfl
  have HT : Hid (stepWW (w_fail :: r) = none) := Lib.hid (by show stepW w_fail r = _; rw [hst]; simp only [hq0, hq1])
  have HRQ : Hid (requestW w_fail r = some (none, r)) := Lib.hid rfl
  have hlt := cs_le h0
  have H0 := Lib.hid h0
  have HQ0 := Lib.hid hq0
  have HQ1 := Lib.hid hq1
  clear h0 hst hq0 hq1
  obtain ⟨tw, htw⟩ : ∃ tw, w_fail = tw := ⟨_, rfl⟩
  rw [htw] at HT HRQ H0 q0 q1 q2 ⊢
  clear htw
  refine calls_wd ?_
  go_enter Tryz.func25, Tryz.ntmps25
  go_wp2_with (first
    | (go_at_call 48; refine (t_step H0.out (fun W0 h => h) (first_more H0.out (more_wd _ _ _))).mono ?_; rintro e w1 ⟨rfl, v0, x0, k0, hk, rfl⟩; have HK0 := Lib.hid hk; clear hk)
    | (go_at_call 49; refine (request_any p v0 _ r _ (cs_at H0.out HK0.out (more_wd _ _ _))).mono ?_; rintro e w1 hs; have hs2 := hs.out; rw [HRQ.out] at hs2; obtain ⟨rfl, hk⟩ := hs2; obtain ⟨v2, x2, k2, hk2, rfl⟩ := hk.out; have HK1 := Lib.hid (fun W0 h => hk2 W0 (HK0.out W0 h)); clear hs hk hk2)
    | (go_at_call 50; refine (n_step H0.out HQ0.out HK1.out (more_wd _ _ _)).mono ?_; rintro e w1 ⟨rfl, v3, x3, k3, hk, rfl⟩; have HK2 := Lib.hid hk; clear hk)
    | (go_at_call 51; refine (y_none H0.out HQ1.out HK2.out (more_wd _ _ _)).mono ?_; rintro e w1 hs; obtain ⟨v9, x9, k9, rfl, rfl⟩ := hs.out; clear hs))
  exact ⟨rfl, stepret_no HT.out (cno_of _ _ _ _)⟩
set_option maxRecDepth 100000 in
set_option maxHeartbeats 3200000 in
theorem step_open (p : Nat) (v : Value) (r : List Word)  (w : World) (h0 : CS w p v (w_open :: r)) : Calls Tryz.prog 25 #[.pointer (some ⟨p, 0, none⟩)] w fun e w' => StepRet w w' e p v (w_open :: r) := by
  have q0 : ((str w_open).toList == [116, 105, 99, 107]) = false := by rw [str_toList]; decide
  have q1 : ((str w_open).toList == [119, 111, 114, 107]) = false := by rw [str_toList]; decide
  have q2 : ((str w_open).toList == [102, 97, 105, 108]) = false := by rw [str_toList]; decide
  have q3 : ((str w_open).toList == [99, 114, 97, 115, 104]) = false := by rw [str_toList]; decide
  have q4 : ((str w_open).toList == [111, 112, 101, 110]) = true := by rw [str_toList]; decide
  have hst : ∀ r, stepW w_open r = some (stpBlank 5, r) := fun r => rfl
  have HT : Hid (stepWW (w_open :: r) = some (stpBlank 5, r)) := Lib.hid (by show stepW w_open r = _; rw [hst])
  have HRQ : Hid (requestW w_open r = some (none, r)) := Lib.hid rfl
  have hlt := cs_le h0
  have H0 := Lib.hid h0
  clear h0 hst 
  obtain ⟨tw, htw⟩ : ∃ tw, w_open = tw := ⟨_, rfl⟩
  rw [htw] at HT HRQ H0 q0 q1 q2 q3 q4 ⊢
  clear htw
  refine calls_wd ?_
  go_enter Tryz.func25, Tryz.ntmps25
  go_wp2_with (first
    | (go_at_call 48; refine (t_step H0.out (fun W0 h => h) (first_more H0.out (more_wd _ _ _))).mono ?_; rintro e w1 ⟨rfl, v0, x0, k0, hk, rfl⟩; have HK0 := Lib.hid hk; clear hk)
    | (go_at_call 49; refine (request_any p v0 _ r _ (cs_at H0.out HK0.out (more_wd _ _ _))).mono ?_; rintro e w1 hs; have hs2 := hs.out; rw [HRQ.out] at hs2; obtain ⟨rfl, hk⟩ := hs2; obtain ⟨v2, x2, k2, hk2, rfl⟩ := hk.out; have HK1 := Lib.hid (fun W0 h => hk2 W0 (HK0.out W0 h)); clear hs hk hk2))
  refine bodyPost_ret (v := .agg (stp (stpBlank 5) none 0 none 0)) (by first | (simp [results, Tryz.results25, go_sem]; done) | (simp [results, Tryz.results25, go_sem]; rfl)) rfl ?_
  exact stepret_plain HT.out rfl rfl rfl (ctk_of _ _ HK1.out)
set_option maxRecDepth 100000 in
set_option maxHeartbeats 3200000 in
theorem step_other (p : Nat) (v : Value) (t : Word) (r r2 : List Word) (w : World) (h0 : CS w p v (t :: r)) (hq : requestW t r = some (none, r2)) (h1 : t ≠ w_tick) (h2 : t ≠ w_work) (h3 : t ≠ w_fail) (h4 : t ≠ w_crash) (h5 : t ≠ w_open) : Calls Tryz.prog 25 #[.pointer (some ⟨p, 0, none⟩)] w fun e w' => StepRet w w' e p v (t :: r) := by
  have hlt := cs_le h0
  have H0 := Lib.hid h0
  have HRQ := Lib.hid hq
  have HT : Hid (stepWW (t :: r) = none) := Lib.hid (by show stepW t r = _; unfold stepW; rw [hq]; simp only [h1, h2, h3, h4, h5, if_false])
  have hne : ∀ l, t ≠ l → ((str t).toList == l) = false := fun l h => by rw [str_toList]; exact beq_false_of_ne h
  have q0 := hne w_tick h1
  have q1 := hne w_work h2
  have q2 := hne w_fail h3
  have q3 := hne w_crash h4
  have q4 := hne w_open h5
  clear h0 hq h1 h2 h3 h4 h5 hne
  unfold w_tick at q0
  unfold w_work at q1
  unfold w_fail at q2
  unfold w_crash at q3
  unfold w_open at q4
  refine calls_wd ?_
  go_enter Tryz.func25, Tryz.ntmps25
  go_wp2_with (first
    | (go_at_call 48; refine (t_step H0.out (fun W0 h => h) (first_more H0.out (more_wd _ _ _))).mono ?_; rintro e w1 ⟨rfl, v0, x0, k0, hk, rfl⟩; have HK0 := Lib.hid hk; clear hk)
    | (go_at_call 49; refine (request_any p v0 _ r _ (cs_at H0.out HK0.out (more_wd _ _ _))).mono ?_; rintro e w1 hs; have hs2 := hs.out; rw [HRQ.out] at hs2; obtain ⟨rfl, hk⟩ := hs2; obtain ⟨v2, x2, k2, hk2, rfl⟩ := hk.out; have HK1 := Lib.hid (fun W0 h => hk2 W0 (HK0.out W0 h)); clear hs hk hk2)
    | (go_at_call 26; ((with_reducible refine (need_no _).mono ?_); rintro e w1 ⟨rfl, x1, n1, rfl⟩)))
  exact ⟨rfl, stepret_no HT.out (cno_of _ _ _ _)⟩
end Go.Proofs.YtifoekadjnlhcaaGreatDoor
namespace Go.Proofs.YtifoekadjnlhcaaGreatDoor
open Go.ChangeShapes Go.WideShapes Go.ChangeAt Go.RowKit
set_option linter.unusedVariables false
set_option linter.unusedSimpArgs false
set_option maxRecDepth 100000 in
@[go_sem] theorem fold_stp (s : Stp) (q : Req) (a a0 : Option Addr) (cap c0 : Nat) (f : Option Addr) (fc : Nat) : Array.foldl (fun cs x => cs.setIfInBounds (1 + x.snd) x.fst) (stp s a0 c0 f fc) (rq q a cap).zipIdx 0 18 = stp { s with q := q } a cap f fc := by
  obtain ⟨q0,q1,q2,q3,q4,q5,q6,q7,q8,q9,q10,q11,⟨b0,b1,b2,b3,b4,b5⟩⟩ := q
  unfold rq reqCells
  simp [stp, stpCells, reqCells]
set_option maxRecDepth 100000 in
set_option maxHeartbeats 3200000 in
theorem step_req (p : Nat) (v : Value) (t : Word) (r : List Word) (q : Req) (r2 : List Word) (w : World) (h0 : CS w p v (t :: r)) (hq : requestW t r = some (some q, r2)) : Calls Tryz.prog 25 #[.pointer (some ⟨p, 0, none⟩)] w fun e w' => StepRet w w' e p v (t :: r) := by
  have hlt := cs_le h0
  have HLT := Lib.hid hlt
  have H0 := Lib.hid h0
  have HRQ := Lib.hid hq
  have HT : Hid (stepWW (t :: r) = some ({ stpBlank 0 with q := q }, r2)) := Lib.hid (by show stepW t r = _; unfold stepW; rw [hq])
  clear h0 hq
  refine calls_wd ?_
  go_enter Tryz.func25, Tryz.ntmps25
  go_wp2_with (first
    | (go_at_call 48; refine (t_step H0.out (fun W0 h => h) (first_more H0.out (more_wd _ _ _))).mono ?_; rintro e w1 ⟨rfl, v0, x0, k0, hk, rfl⟩; have HK0 := Lib.hid hk; clear hk)
    | (go_at_call 49; refine (request_any p v0 _ r _ (cs_at H0.out HK0.out (more_wd _ _ _))).mono ?_; rintro e w1 hs; have hs2 := hs.out; rw [HRQ.out] at hs2; obtain ⟨a, cap, rfl, hk, hr⟩ := hs2; obtain ⟨v2, x2, k2, hk2, rfl⟩ := hk.out; have HR := Lib.hid hr; have HK1 := Lib.hid (fun W0 h => hk2 W0 (HK0.out W0 h)); clear hs hk hr hk2))
  refine bodyPost_ret (v := .agg (stp { stpBlank 0 with q := q } a cap none 0)) (by first | (simp [results, Tryz.results25, go_sem]; done) | (simp [results, Tryz.results25, go_sem]; rfl)) rfl ?_
  exact stepret_yes HT.out rfl (ctk_of _ _ HK1.out) ((RecsNew.wd2 (L' := [x0, #[.cells (stp { stpBlank 0 with q := q } a cap none 0) 30]]) (m := 0) HR.out HLT.out rfl).over) (RBNew.nil _ _) (fun _ => ⟨rfl, rfl⟩)
end Go.Proofs.YtifoekadjnlhcaaGreatDoor
