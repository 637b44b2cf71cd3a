/- console: Parse, whatever the line. -/
import Derived.Test.YtifoekadjnlhcaaGreatDoorMU
import Derived.Test.YtifoekadjnlhcaaGreatDoorMV
namespace Go.Proofs.YtifoekadjnlhcaaGreatDoor
open Go.ChangeShapes Go.WideShapes Go.ChangeAt Go.RowKit
set_option linter.unusedVariables false
set_option linter.unusedSimpArgs false
theorem plus_top (C : World) (x : Array Obj) (k b S : Nat) (hS : C.heap.size = S) (hb : S ≤ b) : (plus C x k).heap[b]? = x[b - S]? := by
  show (C.heap ++ x)[b]? = _
  rw [Array.getElem?_append_right (by rw [hS]; exact hb), hS]
theorem top_keep {w : World} {L L' : List (Array Obj)} {n k m p : Nat} {v : Value} {x : Array Obj} (hL : shape L' = shape L) (b : Nat) (hb : (wd w L n).heap.size ≤ b) : (wd w (x :: L') m).heap[b]? = (plus (cset (wd w L n) p v) x k).heap[b]? := by
  rw [plus_top _ x k b _ (cset_size _ _ _) hb]
  rw [wd_size] at hb ⊢
  rw [hp_at _ _ _ _ _ (by rw [hL]; exact hb), hL]
theorem parseW_ww (line : List UInt8) : parseW line = match stepWW (splitC 32 line) with
    | some (s, []) => some s
    | _ => none := by
  unfold parseW
  cases splitC 32 line with
  | nil => rfl
  | cons t r => rfl
structure ParseRet (w w' : World) (e : Ending) (line : List UInt8) : Prop where
  out : match parseW line with
    | none => e = .returned (.tuple #[.agg (stp (stpBlank 0) none 0 none 0), .int .i64 60]) ∧ More w w'
    | some s => ∃ a cap f fc, e = .returned (.tuple #[.agg (stp s a cap f fc), .int .i64 0]) ∧ More w w' ∧ StpAt w' s a f fc ∧ RecsNew w.heap.size w' a cap s.q.batch.recs ∧ (s.kind ≠ 4 → f = none ∧ fc = 0)
theorem parseret_no {w w' : World} {e : Ending} {line : List UInt8} (h : parseW line = none) (he : e = .returned (.tuple #[.agg (stp (stpBlank 0) none 0 none 0), .int .i64 60])) (hm : More w w') : ParseRet w w' e line := ⟨by rw [h]; exact ⟨he, hm⟩⟩
theorem parseret_yes {w w' : World} {e : Ending} {line : List UInt8} {s : Stp} {a f : Option Addr} {cap fc : Nat} (h : parseW line = some s) (he : e = .returned (.tuple #[.agg (stp s a cap f fc), .int .i64 0])) (hm : More w w') (hs : StpAt w' s a f fc) (hr : RecsNew w.heap.size w' a cap s.q.batch.recs) (hk : s.kind ≠ 4 → f = none ∧ fc = 0) : ParseRet w w' e line := ⟨by rw [h]; exact ⟨a, cap, f, fc, he, hm, hs, hr, hk⟩⟩
theorem cs_new {w : World} {L : List (Array Obj)} {n n2 : Nat} {x : Array Obj} {v : Value} {ws : List Word} (h : SRd (plus (wd w L n) x n2) v ws) (m : Nat) : CS (wd w (#[.cells #[v] 67] :: x :: L) m) (sz w.heap.size (shape (x :: L))) v ws := ⟨⟨wd_at w (x :: L) m _ _ _ rfl rfl⟩, h.more ⟨_, _, rfl⟩⟩
set_option maxRecDepth 100000 in
set_option maxHeartbeats 3200000 in
theorem parse_none (line : List UInt8) (w : World) (hl : line.length < 4294967281) (hq : stepWW (splitC 32 line) = none) : Calls Tryz.prog 7 #[.string (str line)] w fun e w' => ParseRet w w' e line := by
  have hmf : ∀ (fn : Fn) (first cap : Array Value) (w : World), (Instr.makeFunc fn first cap).run Tryz.prog w = .ok (.func fn first cap) w := fun _ _ _ _ => rfl
  have HNO : Hid (parseW line = none) := Lib.hid (by rw [parseW_ww, hq])
  have HQ := Lib.hid hq
  have HL := Lib.hid hl
  clear hq hl
  refine calls_wd ?_
  go_enter_defers Tryz.func7, Tryz.ntmps7
  go_wp2_with (first
    | (go_at_call 11; refine (cwords_any line _ HL.out).mono ?_; rintro e w1 hs; obtain ⟨vW, xW, nW, rfl, rfl, hsr⟩ := hs.out; have HSR := Lib.hid hsr; obtain ⟨aW, cW, hvW, hcW⟩ := hsr.slice; subst hvW; clear hs hsr)
    | (go_at_call 25; refine (step_any _ _ _ _ (cs_new HSR.out _)).mono ?_; rintro e w1 hs; have hs2 := hs.out; rw [HQ.out] at hs2; obtain ⟨v9, x9, k9, rfl, rfl⟩ := hs2.out; clear hs hs2))
  refine leaves_cons (f := 24) (args := #[.pointer (some ⟨sz w.heap.size [], 0, none⟩), .pointer (some ⟨sz w.heap.size [1], 0, none⟩)]) (by simp) (by simp [go_sem]) ?_
  rw [wd_merge, wd_merge]
  refine (catch_pan w _ _ _ _ _ _ _).mono ?_
  rintro e u' w'' ⟨rfl, rfl, Y, m, rfl⟩
  refine ⟨.tuple #[.agg (stp (stpBlank 0) none 0 none 0), .int .i64 60], ?_, ?_⟩
  · first | (simp [results, Tryz.results7, go_sem]; done) | (simp [results, Tryz.results7, go_sem]; rfl)
  · exact parseret_no HNO.out rfl (more_wd _ _ _)
set_option maxRecDepth 100000 in
set_option maxHeartbeats 3200000 in
theorem parse_rest (line : List UInt8) (s : Stp) (y : Word) (r : List Word) (w : World) (hl : line.length < 4294967281) (hq : stepWW (splitC 32 line) = some (s, y :: r)) : Calls Tryz.prog 7 #[.string (str line)] w fun e w' => ParseRet w w' e line := by
  have hmf : ∀ (fn : Fn) (first cap : Array Value) (w : World), (Instr.makeFunc fn first cap).run Tryz.prog w = .ok (.func fn first cap) w := fun _ _ _ _ => rfl
  have HNO : Hid (parseW line = none) := Lib.hid (by rw [parseW_ww, hq])
  have HQ := Lib.hid hq
  have HL := Lib.hid hl
  obtain ⟨M, hM⟩ : ∃ M, (y :: r).length = M := ⟨_, rfl⟩
  have hM0 : 0 < M := by rw [← hM]; simp
  have HM := Lib.hid hM
  clear hq hl hM
  refine calls_wd ?_
  go_enter_defers Tryz.func7, Tryz.ntmps7
  go_wp2_with (first
    | (go_at_call 11; refine (cwords_any line _ HL.out).mono ?_; rintro e w1 hs; obtain ⟨vW, xW, nW, rfl, rfl, hsr⟩ := hs.out; have HSR := Lib.hid hsr; obtain ⟨aW, cW, hvW, hcW⟩ := hsr.slice; subst hvW; clear hs hsr)
    | (go_at_call 25; refine (step_any _ _ _ _ (cs_new HSR.out _)).mono ?_; rintro e w1 hs; have hs2 := hs.out; rw [HQ.out] at hs2; obtain ⟨a, cap, f, fc, rfl, hk, hr, hf, -⟩ := hs2; obtain ⟨v2, x2, k2, hk2, rfl⟩ := hk.out; obtain ⟨a2, c2, hv2, hc2⟩ := (hk2 _ HSR.out).slice; rw [HM.out] at hv2 hc2; subst hv2; clear hs hk hk2 hr hf)
    | (go_at_call 26; ((with_reducible refine (need_noB _ (by first | rfl | exact decide_eq_false (by omega) | (simp; omega))).mono ?_); rintro e w1 ⟨rfl, x1, n1, rfl⟩)))
  refine leaves_cons (f := 24) (args := #[.pointer (some ⟨sz w.heap.size [], 0, none⟩), .pointer (some ⟨sz w.heap.size [1], 0, none⟩)]) (by simp) (by simp [go_sem]) ?_
  rw [wd_merge, wd_merge, wd_merge]
  refine (catch_pan w _ _ _ _ _ _ _).mono ?_
  rintro e u' w'' ⟨rfl, rfl, Y, m, rfl⟩
  refine ⟨.tuple #[.agg (stp (stpBlank 0) none 0 none 0), .int .i64 60], ?_, ?_⟩
  · first | (simp [results, Tryz.results7, go_sem]; done) | (simp [results, Tryz.results7, go_sem]; rfl)
  · exact parseret_no HNO.out rfl (more_wd _ _ _)
set_option maxRecDepth 100000 in
set_option maxHeartbeats 1600000 in
theorem parse_yes (line : List UInt8) (s : Stp) (w : World) (hl : line.length < 4294967281) (hq : stepWW (splitC 32 line) = some (s, [])) : Calls Tryz.prog 7 #[.string (str line)] w fun e w' => ParseRet w w' e line := by
  have hmf : ∀ (fn : Fn) (first cap : Array Value) (w : World), (Instr.makeFunc fn first cap).run Tryz.prog w = .ok (.func fn first cap) w := fun _ _ _ _ => rfl
  have HYES : Hid (parseW line = some s) := Lib.hid (by rw [parseW_ww, hq])
  have HQ := Lib.hid hq
  have HL := Lib.hid hl
  clear hq hl
  refine calls_wd ?_
  go_enter_defers Tryz.func7, Tryz.ntmps7
  go_wp2_with (first
    | (go_at_call 11; refine (cwords_any line _ HL.out).mono ?_; rintro e w1 hs; obtain ⟨vW, xW, nW, rfl, rfl, hsr⟩ := hs.out; have HSR := Lib.hid hsr; obtain ⟨aW, cW, hvW, hcW⟩ := hsr.slice; subst hvW; clear hs hsr)
    | (go_at_call 25; refine (step_any _ _ _ _ (cs_new HSR.out _)).mono ?_; rintro e w1 hs; have hs2 := hs.out; rw [HQ.out] at hs2; obtain ⟨a, cap, f, fc, rfl, hk, hr, hf, h4⟩ := hs2; obtain ⟨v2, x2, k2, hk2, rfl⟩ := hk.out; obtain ⟨a2, c2, hv2, hc2⟩ := (hk2 _ HSR.out).slice; simp only [List.length_nil] at hv2 hc2; subst hv2; have HR := Lib.hid hr; have HF := Lib.hid hf; have HK4 := Lib.hid h4; clear hs hk hk2 hr hf h4)
    | (go_at_call 26; ((with_reducible refine (need_yesB _ (by first | rfl | exact decide_eq_true (by omega))).mono ?_); rintro e w1 ⟨rfl, x1, n1, rfl⟩)))
  have HRN : Hid (∀ m, RecsNew w.heap.size (wd w [x1, x2, #[.cells #[.slice a2 0 c2] 67], xW, #[.cells #[.int .i64 0] 31], #[.cells (stp s a cap f fc) 30]] m) a cap s.q.batch.recs) := Lib.hid (fun m =>
    (HR.out.keep (by rw [wd_size]; exact sz_le _ _) (fun b hb _ => top_keep (L' := [#[.cells #[.slice a2 0 c2] 67], xW, #[.cells #[.int .i64 0] 31], #[.cells (stp s a cap f fc) 30]]) (m := 0) (by rfl) b hb)).over)
  have HST : Hid (∀ m, StpAt (wd w [x1, x2, #[.cells #[.slice a2 0 c2] 67], xW, #[.cells #[.int .i64 0] 31], #[.cells (stp s a cap f fc) 30]] m) s a f fc) := Lib.hid (fun m =>
    ⟨(HRN.out m).at,
     ((HF.out.keep (Nat.le_refl _) (fun b hb _ => top_keep (L' := [#[.cells #[.slice a2 0 c2] 67], xW, #[.cells #[.int .i64 0] 31], #[.cells (stp s a cap f fc) 30]]) (m := 0) (by rfl) b hb)).over).rb⟩)
  refine leaves_cons (f := 24) (args := #[.pointer (some ⟨sz w.heap.size [], 0, none⟩), .pointer (some ⟨sz w.heap.size [1], 0, none⟩)]) (by simp) (by simp [go_sem]) ?_
  rw [wd_merge, wd_merge, wd_merge]
  refine (catch_idle _ _ _).mono ?_
  rintro e u' w'' ⟨rfl, rfl, rfl⟩
  refine ⟨.tuple #[.agg (stp s a cap f fc), .int .i64 0], ?_, ?_⟩
  · first | (simp [results, Tryz.results7, go_sem]; done) | (simp [results, Tryz.results7, go_sem]; rfl)
  · exact parseret_yes HYES.out rfl (more_wd _ _ _) (by have := HST.out n1; rw [wd_merge, wd_merge, wd_merge] at this; exact this) (by have := HRN.out n1; rw [wd_merge, wd_merge, wd_merge] at this; exact this) HK4.out
theorem parse_any (line : List UInt8) (w : World) (hl : line.length < 4294967281) : Calls Tryz.prog 7 #[.string (str line)] w fun e w' => ParseRet w w' e line := by
  cases hq : stepWW (splitC 32 line) with
  | none => exact parse_none line w hl hq
  | some z =>
    obtain ⟨s, r⟩ := z
    cases r with
    | nil => exact parse_yes line s w hl hq
    | cons y r => exact parse_rest line s y r w hl hq
end Go.Proofs.YtifoekadjnlhcaaGreatDoor
