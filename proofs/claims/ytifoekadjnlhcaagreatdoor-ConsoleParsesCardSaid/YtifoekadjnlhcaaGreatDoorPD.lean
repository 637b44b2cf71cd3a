/- the document's console: other (printed by gen/crf.py). -/
import Derived.Test.YtifoekadjnlhcaaGreatDoorPC
import Derived.Test.YtifoekadjnlhcaaGreatDoorMS
import Derived.Test.YtifoekadjnlhcaaGreatDoorMU
namespace Go.Proofs.YtifoekadjnlhcaaGreatDoor
open Go.ChangeShapes Go.WideShapes Go.ChangeAt Go.RowKit
set_option linter.unusedVariables false
set_option linter.unusedSimpArgs false
theorem takeN1_some {ws s : List Word} {n : List Nat} (h : takeR [110] ws = some (s, n)) : ∃ k, n = [k] := by
  rw [takeN1] at h
  split at h
  · cases h; exact ⟨_, rfl⟩
  · cases h
theorem takeNY_some {ws s : List Word} {n : List Nat} (h : takeR [110, 121] ws = some (s, n)) : ∃ k y, n = [k, y] := by
  rw [takeNY] at h
  split at h
  · cases h
  · split at h
    · cases h; exact ⟨_, _, rfl⟩
    · cases h
structure ROther (w w' : World) (e : Ending) (t : Word) (ws : List Word) : Prop where
  out : match otherR t ws with
    | none => ∃ s0 a cap f fc, e = .returned (.tuple #[.agg (stp s0 a cap f fc), .bool false]) ∧ More w w'
    | some s => ∃ f fc x k, e = .returned (.tuple #[.agg (stp s none 0 f fc), .bool true]) ∧ w' = plus w x k ∧ RBNew w.heap.size w' f fc s.fate
theorem rother_no {w w' : World} {e : Ending} {t : Word} {ws : List Word} {s0 : Stp} {a f : Option Addr} {cap fc : Nat} (h : otherR t ws = none) (he : e = .returned (.tuple #[.agg (stp s0 a cap f fc), .bool false])) (hm : More w w') : ROther w w' e t ws := ⟨by rw [h]; exact ⟨_, _, _, _, _, he, hm⟩⟩
theorem rother_yes {w w' : World} {e : Ending} {t : Word} {ws : List Word} {s : Stp} {f : Option Addr} {fc : Nat} (h : otherR t ws = some s) (he : e = .returned (.tuple #[.agg (stp s none 0 f fc), .bool true])) (hm : More w w') (hr : RBNew w.heap.size w' f fc s.fate) : ROther w w' e t ws := ⟨by
  rw [h]
  obtain ⟨x, k, hx⟩ := hm
  exact ⟨f, fc, x, k, he, hx, hr⟩⟩
theorem cell_over {w : World} {L : List (Array Obj)} {n b o : Nat} {v : Value} (m : Array Obj) (k : Nat) (hb : b < (wd w L n).heap.size) (hc : (wd w L n).cell? ⟨b, o, none⟩ = some v) : (wd w (m :: L) k).cell? ⟨b, o, none⟩ = some v := by
  have hm : More (wd w L n) (wd w (m :: L) k) := ⟨m, k, rfl⟩
  rw [hm.below.cell hb]; exact hc
theorem ird_one {w : World} {v : Value} {k : Nat} (h : IRd w v [k]) : ∃ b o c, v = .slice (some ⟨b, o, none⟩) 1 c ∧ b < w.heap.size ∧ w.cell? ⟨b, o, none⟩ = some (.int .i64 (k : Nat)) := by
  obtain ⟨a, c, hv, _, _, hc⟩ := h.out
  obtain ⟨b, o, rfl, hb, hc⟩ := hc (by simp)
  exact ⟨b, o, c, hv, hb, by simpa using hc 0 _ rfl⟩
theorem ird_two {w : World} {v : Value} {k y : Nat} (h : IRd w v [k, y]) : ∃ b o c, v = .slice (some ⟨b, o, none⟩) 2 c ∧ b < w.heap.size ∧ w.cell? ⟨b, o, none⟩ = some (.int .i64 (k : Nat)) ∧ w.cell? ⟨b, o + 1, none⟩ = some (.int .i64 (y : Nat)) := by
  obtain ⟨a, c, hv, _, _, hc⟩ := h.out
  obtain ⟨b, o, rfl, hb, hc⟩ := hc (by simp)
  exact ⟨b, o, c, hv, hb, by simpa using hc 0 _ rfl, by simpa using hc 1 _ rfl⟩
set_option maxRecDepth 100000 in
set_option maxHeartbeats 3200000 in
theorem roth_tick (v : Value) (ws : List Word) (w : World) (hv : SRd w v ws) : Calls Tryz.prog 31 #[.string (str w_tick), v] w fun e w' => ROther w w' e w_tick ws := by
  have q0 : ((str w_tick).toList == [116, 105, 99, 107]) = true := by rw [str_toList]; decide
  have HE : Hid (otherR w_tick ws = match takeR [110] ws with | none => none | some (_, n) => some ({ stpBlank 1 with n := (n.headD 0 : Nat) } : Stp)) := Lib.hid rfl
  have HT := Lib.hid (fun W hm => rtake_any [110] ws v W (hv.more hm) (by decide))
  clear hv
  obtain ⟨tw, htw⟩ : ∃ tw, w_tick = tw := ⟨_, rfl⟩
  rw [htw] at HE q0 ⊢
  clear htw
  cases hq : takeR [110] ws with
  | none =>
    have HNO : Hid (otherR tw ws = none) := Lib.hid (by rw [HE.out, hq])
    have HQ := Lib.hid hq
    clear hq HE
    refine calls_wd ?_
    go_enter Tryz.func31, Tryz.ntmps31
    go_wp2_with (first | (go_at_call 29; refine (HT.out _ (more_wd _ _ _)).mono ?_; rintro e w1 hs; have hs2 := hs.out; rw [HQ.out] at hs2; obtain ⟨rfl, x1, n1, rfl⟩ := hs2; clear hs))
    refine bodyPost_ret (v := .tuple #[.agg (stp (stpBlank 0) none 0 none 0), .bool false]) (by first | (simp [results, Tryz.results31, go_sem]; done) | (simp [results, Tryz.results31, go_sem]; rfl)) rfl ?_
    exact rother_no HNO.out rfl (more_wd _ _ _)
  | some p =>
    obtain ⟨s, n⟩ := p
    obtain ⟨k, rfl⟩ := takeN1_some hq
    have HYES : Hid (otherR tw ws = some ({ stpBlank 1 with n := (k : Nat) } : Stp)) := Lib.hid (by rw [HE.out, hq]; rfl)
    have HQ := Lib.hid hq
    clear hq HE
    refine calls_wd ?_
    go_enter Tryz.func31, Tryz.ntmps31
    go_wp2_with (first | (go_at_call 29; refine (HT.out _ (more_wd _ _ _)).mono ?_; rintro e w1 hs; have hs2 := hs.out; rw [HQ.out] at hs2; obtain ⟨vs, vn, x1, n1, rfl, rfl, -, hi9⟩ := hs2; rw [wd_plus] at hi9; obtain ⟨b9, o9, c9, rfl, hb9, hc9⟩ := ird_one hi9; clear hs hi9))
    refine bodyPost_ret (v := .tuple #[.agg (stp ({ stpBlank 1 with n := (k : Nat) } : Stp) none 0 none 0), .bool true]) (by first | (simp [results, Tryz.results31, go_sem]; done) | (simp [results, Tryz.results31, go_sem]; rfl)) rfl ?_
    exact rother_yes HYES.out rfl (more_wd _ _ _) (RBNew.nil _ _)
set_option maxRecDepth 100000 in
set_option maxHeartbeats 3200000 in
theorem roth_work (v : Value) (ws : List Word) (w : World) (hv : SRd w v ws) : Calls Tryz.prog 31 #[.string (str w_work), v] w fun e w' => ROther w w' e w_work ws := by
  have q0 : ((str w_work).toList == [116, 105, 99, 107]) = false := by rw [str_toList]; decide
  have q1 : ((str w_work).toList == [119, 111, 114, 107]) = true := by rw [str_toList]; decide
  have HE : Hid (otherR w_work ws = match takeR [110] ws with | none => none | some (_, n) => some ({ stpBlank 2 with n := (n.headD 0 : Nat) } : Stp)) := Lib.hid rfl
  have HT := Lib.hid (fun W hm => rtake_any [110] ws v W (hv.more hm) (by decide))
  clear hv
  obtain ⟨tw, htw⟩ : ∃ tw, w_work = tw := ⟨_, rfl⟩
  rw [htw] at HE q0 q1 ⊢
  clear htw
  cases hq : takeR [110] ws with
  | none =>
    have HNO : Hid (otherR tw ws = none) := Lib.hid (by rw [HE.out, hq])
    have HQ := Lib.hid hq
    clear hq HE
    refine calls_wd ?_
    go_enter Tryz.func31, Tryz.ntmps31
    go_wp2_with (first | (go_at_call 29; refine (HT.out _ (more_wd _ _ _)).mono ?_; rintro e w1 hs; have hs2 := hs.out; rw [HQ.out] at hs2; obtain ⟨rfl, x1, n1, rfl⟩ := hs2; clear hs))
    refine bodyPost_ret (v := .tuple #[.agg (stp (stpBlank 0) none 0 none 0), .bool false]) (by first | (simp [results, Tryz.results31, go_sem]; done) | (simp [results, Tryz.results31, go_sem]; rfl)) rfl ?_
    exact rother_no HNO.out rfl (more_wd _ _ _)
  | some p =>
    obtain ⟨s, n⟩ := p
    obtain ⟨k, rfl⟩ := takeN1_some hq
    have HYES : Hid (otherR tw ws = some ({ stpBlank 2 with n := (k : Nat) } : Stp)) := Lib.hid (by rw [HE.out, hq]; rfl)
    have HQ := Lib.hid hq
    clear hq HE
    refine calls_wd ?_
    go_enter Tryz.func31, Tryz.ntmps31
    go_wp2_with (first | (go_at_call 29; refine (HT.out _ (more_wd _ _ _)).mono ?_; rintro e w1 hs; have hs2 := hs.out; rw [HQ.out] at hs2; obtain ⟨vs, vn, x1, n1, rfl, rfl, -, hi9⟩ := hs2; rw [wd_plus] at hi9; obtain ⟨b9, o9, c9, rfl, hb9, hc9⟩ := ird_one hi9; clear hs hi9))
    refine bodyPost_ret (v := .tuple #[.agg (stp ({ stpBlank 2 with n := (k : Nat) } : Stp) none 0 none 0), .bool true]) (by first | (simp [results, Tryz.results31, go_sem]; done) | (simp [results, Tryz.results31, go_sem]; rfl)) rfl ?_
    exact rother_yes HYES.out rfl (more_wd _ _ _) (RBNew.nil _ _)
set_option maxRecDepth 100000 in
set_option maxHeartbeats 3200000 in
theorem roth_fail (v : Value) (ws : List Word) (w : World) (hv : SRd w v ws) : Calls Tryz.prog 31 #[.string (str w_fail), v] w fun e w' => ROther w w' e w_fail ws := by
  have q0 : ((str w_fail).toList == [116, 105, 99, 107]) = false := by rw [str_toList]; decide
  have q1 : ((str w_fail).toList == [119, 111, 114, 107]) = false := by rw [str_toList]; decide
  have q2 : ((str w_fail).toList == [102, 97, 105, 108]) = true := by rw [str_toList]; decide
  have HE : Hid (otherR w_fail ws = match takeR [110, 121] ws with | none => none | some (_, n) => some ({ stpBlank 3 with n := (n.headD 0 : Nat), done := decide (n.getD 1 0 = 1) } : Stp)) := Lib.hid rfl
  have HT := Lib.hid (fun W hm => rtake_any [110, 121] ws v W (hv.more hm) (by decide))
  clear hv
  obtain ⟨tw, htw⟩ : ∃ tw, w_fail = tw := ⟨_, rfl⟩
  rw [htw] at HE q0 q1 q2 ⊢
  clear htw
  cases hq : takeR [110, 121] ws with
  | none =>
    have HNO : Hid (otherR tw ws = none) := Lib.hid (by rw [HE.out, hq])
    have HQ := Lib.hid hq
    clear hq HE
    refine calls_wd ?_
    go_enter Tryz.func31, Tryz.ntmps31
    go_wp2_with (first | (go_at_call 29; refine (HT.out _ (more_wd _ _ _)).mono ?_; rintro e w1 hs; have hs2 := hs.out; rw [HQ.out] at hs2; obtain ⟨rfl, x1, n1, rfl⟩ := hs2; clear hs))
    refine bodyPost_ret (v := .tuple #[.agg (stp (stpBlank 0) none 0 none 0), .bool false]) (by first | (simp [results, Tryz.results31, go_sem]; done) | (simp [results, Tryz.results31, go_sem]; rfl)) rfl ?_
    exact rother_no HNO.out rfl (more_wd _ _ _)
  | some p =>
    obtain ⟨s, n⟩ := p
    obtain ⟨k, y, rfl⟩ := takeNY_some hq
    have hy : ((y : Int) == 1) = decide (y = 1) := by rw [Bool.eq_iff_iff]; simp; omega
    obtain ⟨B, hB⟩ : ∃ B, decide (y = 1) = B := ⟨_, rfl⟩
    rw [hB] at hy
    have HYES : Hid (otherR tw ws = some ({ stpBlank 3 with n := (k : Nat), done := B } : Stp)) := Lib.hid (by rw [HE.out, hq, ← hB]; rfl)
    clear hB
    have HQ := Lib.hid hq
    clear hq HE
    refine calls_wd ?_
    go_enter Tryz.func31, Tryz.ntmps31
    go_wp2_with (first | (go_at_call 29; refine (HT.out _ (more_wd _ _ _)).mono ?_; rintro e w1 hs; have hs2 := hs.out; rw [HQ.out] at hs2; obtain ⟨vs, vn, x1, n1, rfl, rfl, -, hi9⟩ := hs2; rw [wd_plus] at hi9; obtain ⟨b9, o9, c9, rfl, hb9, hc9, hd9⟩ := ird_two hi9; have hcF := fun (m : Array Obj) (k : Nat) => cell_over m k hb9 hc9; have hdF := fun (m : Array Obj) (k : Nat) => cell_over m k hb9 hd9; clear hs hi9))
    refine wp_region_tail [0, 1, 2, 3, 4, 5, 6] [7, 8, 9] [true, true, true, true, true, true, true] [false, false, false, false, false, false, false, true, true, true] ⟨rfl, rfl⟩ (by kernel_rfl) (by kernel_rfl) (fun _ _ d _ _ h => by cases d <;> exact h) ?_
    apply Exists.intro
    refine ⟨?_, ?_⟩
    · simp only [sel_t, sel_f, sel_n]
      repeat (go_big_quiet_step ((fail)))
      exact wpQuiet_nil rfl
    intro m0
    simp only [sel_t, sel_f, sel_n]
    go_wp2
    refine bodyPost_ret (v := .tuple #[.agg (stp ({ stpBlank 3 with n := (k : Nat), done := B } : Stp) none 0 none 0), .bool true]) (by first | (simp [results, Tryz.results31, go_sem]; done) | (simp [results, Tryz.results31, go_sem]; rfl)) rfl ?_
    exact rother_yes HYES.out rfl (more_wd _ _ _) (RBNew.nil _ _)
set_option maxRecDepth 100000 in
set_option maxHeartbeats 3200000 in
theorem roth_open (v : Value) (ws : List Word) (w : World) (hv : SRd w v ws) : Calls Tryz.prog 31 #[.string (str w_open), v] w fun e w' => ROther w w' e w_open ws := by
  have q0 : ((str w_open).toList == [116, 105, 99, 107]) = false := by rw [str_toList]; decide
  have q1 : ((str w_open).toList == [119, 111, 114, 107]) = false := by rw [str_toList]; decide
  have q2 : ((str w_open).toList == [102, 97, 105, 108]) = false := by rw [str_toList]; decide
  have q3 : ((str w_open).toList == [99, 114, 97, 115, 104]) = false := by rw [str_toList]; decide
  have q4 : ((str w_open).toList == [111, 112, 101, 110]) = true := by rw [str_toList]; decide
  have HE : Hid (otherR w_open ws = if ws = [] then some (stpBlank 5) else none) := Lib.hid rfl
  obtain ⟨a, cap, rfl, hcap, hmx, hcc⟩ := hv.out
  obtain ⟨N, hN⟩ : ∃ N, ws.length = N := ⟨_, rfl⟩
  rw [hN] at hcap ⊢
  clear hcc hv
  obtain ⟨tw, htw⟩ : ∃ tw, w_open = tw := ⟨_, rfl⟩
  rw [htw] at HE q0 q1 q2 q3 q4 ⊢
  clear htw
  by_cases h0 : N = 0
  · subst h0
    have HYES : Hid (otherR tw ws = some (stpBlank 5)) := Lib.hid (by rw [HE.out, if_pos (List.eq_nil_of_length_eq_zero hN)])
    clear hN HE
    refine calls_wd ?_
    go_enter Tryz.func31, Tryz.ntmps31
    go_wp2
    refine bodyPost_ret (v := .tuple #[.agg (stp (stpBlank 5) none 0 none 0), .bool true]) (by first | (simp [results, Tryz.results31, go_sem]; done) | (simp [results, Tryz.results31, go_sem]; rfl)) rfl ?_
    exact rother_yes HYES.out rfl (more_wd _ _ _) (RBNew.nil _ _)
  · have HNO : Hid (otherR tw ws = none) := Lib.hid (by rw [HE.out, if_neg (fun h => h0 (by rw [← hN, h]; rfl))])
    have hb0 : ((N : Int) == 0) = false := by rw [beq_eq_false_iff_ne]; omega
    clear hN HE
    refine calls_wd ?_
    go_enter Tryz.func31, Tryz.ntmps31
    go_wp2
    refine bodyPost_ret (v := .tuple #[.agg (stp (stpBlank 5) none 0 none 0), .bool false]) (by first | (simp [results, Tryz.results31, go_sem]; done) | (simp [results, Tryz.results31, go_sem]; rfl)) rfl ?_
    exact rother_no HNO.out rfl (more_wd _ _ _)
set_option maxRecDepth 100000 in
set_option maxHeartbeats 3200000 in
theorem roth_none (t : Word) (h1 : t ≠ w_tick) (h2 : t ≠ w_work) (h3 : t ≠ w_fail) (h4 : t ≠ w_crash) (h5 : t ≠ w_open) (v : Value) (ws : List Word) (w : World) : Calls Tryz.prog 31 #[.string (str t), v] w fun e w' => ROther w w' e t ws := by
  have HNO : Hid (otherR t ws = none) := Lib.hid (by unfold otherR; rw [if_neg h1, if_neg h2, if_neg h3, if_neg h4, if_neg h5])
  have hne : ∀ l, t ≠ l → ((str t).toList == l) = false := fun l h => by rw [str_toList]; exact beq_false_of_ne h
  have q0 := hne w_tick h1
  have q1 := hne w_work h2
  have q2 := hne w_fail h3
  have q3 := hne w_crash h4
  have q4 := hne w_open h5
  clear hne h1 h2 h3 h4 h5
  unfold w_tick at q0
  unfold w_work at q1
  unfold w_fail at q2
  unfold w_crash at q3
  unfold w_open at q4
  refine calls_wd ?_
  go_enter Tryz.func31, Tryz.ntmps31
  go_wp2
  refine bodyPost_ret (v := .tuple #[.agg (stp (stpBlank 0) none 0 none 0), .bool false]) (by first | (simp [results, Tryz.results31, go_sem]; done) | (simp [results, Tryz.results31, go_sem]; rfl)) rfl ?_
  exact rother_no HNO.out rfl (more_wd _ _ _)
structure FatJ (ws : List Word) (k : Nat) (F : List UInt8) : Prop where
  fate : fateW ws = match fateW (ws.drop k) with
    | none => none
    | some f => some (F ++ f)
  len : F.length = k
theorem FatJ.start (ws : List Word) : FatJ ws 0 [] := ⟨by rw [List.drop_zero]; cases fateW ws <;> rfl, rfl⟩
section
variable {ws : List Word} {k n : Nat} {F : List UInt8} {x : Word}
theorem wdrop_at (hx : ws[k]? = some x) : ws.drop k = x :: ws.drop (k + 1) := by
  obtain ⟨l1, e1⟩ := List.getElem?_eq_some_iff.1 hx
  rw [List.drop_eq_getElem_cons l1, e1]
theorem FatJ.step (h : FatJ ws k F) (hx : ws[k]? = some x) (hn : numW x = some n) (hl : n ≤ 255) : FatJ ws (k + 1) (F ++ [UInt8.ofNat n]) := by
  refine ⟨?_, by rw [List.length_append, h.len]; rfl⟩
  rw [h.fate, wdrop_at hx, fateW, hn]
  dsimp only
  rw [if_pos hl]
  cases fateW (ws.drop (k + 1)) with
  | none => rfl
  | some f => simp
theorem FatJ.no (h : FatJ ws k F) (hx : ws[k]? = some x) (hn : numW x = none) : fateW ws = none := by rw [h.fate, wdrop_at hx, fateW, hn]
theorem FatJ.big (h : FatJ ws k F) (hx : ws[k]? = some x) (hn : numW x = some n) (hl : ¬ n ≤ 255) : fateW ws = none := by
  rw [h.fate, wdrop_at hx, fateW, hn]
  dsimp only
  rw [if_neg hl]
theorem FatJ.done (h : FatJ ws k F) (hw : ws.length = k) : fateW ws = some F := by
  rw [h.fate, List.drop_of_length_le (by omega)]
  simp [fateW]
end
set_option maxRecDepth 100000 in
set_option maxHeartbeats 3200000 in
theorem roth_crash (v : Value) (ws : List Word) (w : World) (hv : SRd w v ws) : Calls Tryz.prog 31 #[.string (str w_crash), v] w fun e w' => ROther w w' e w_crash ws := by
  have q0 : ((str w_crash).toList == [116, 105, 99, 107]) = false := by rw [str_toList]; decide
  have q1 : ((str w_crash).toList == [119, 111, 114, 107]) = false := by rw [str_toList]; decide
  have q2 : ((str w_crash).toList == [102, 97, 105, 108]) = false := by rw [str_toList]; decide
  have q3 : ((str w_crash).toList == [99, 114, 97, 115, 104]) = true := by rw [str_toList]; decide
  have HE : Hid (otherR w_crash ws = if ws.length ≤ 64 then match fateW ws with
      | none => none
      | some f => some { stpBlank 4 with fate := f }
    else none) := Lib.hid rfl
  have HSM := Lib.hid hv.small
  obtain ⟨a9, c9, rfl, hcap, hmx, hcc⟩ := hv.out
  have HCC := Lib.hid hcc
  obtain ⟨N, hN⟩ : ∃ N, ws.length = N := ⟨_, rfl⟩
  rw [hN] at hcap HE ⊢
  have HN := Lib.hid hN
  clear hcc hv hN
  obtain ⟨tw, htw⟩ : ∃ tw, w_crash = tw := ⟨_, rfl⟩
  rw [htw] at HE q0 q1 q2 q3 ⊢
  clear htw
  have HU : Hid (64 < N ∨ fateW ws = none → otherR tw ws = none) := Lib.hid (fun h => by
    rw [HE.out]
    rcases h with h | h
    · rw [if_neg (by omega)]
    · rw [h]; split <;> rfl)
  have HT : Hid (∀ f, N ≤ 64 → fateW ws = some f → otherR tw ws = some { stpBlank 4 with fate := f }) := Lib.hid (fun f h1 h2 => by rw [HE.out, if_pos h1, h2])
  obtain ⟨i0, hi, hz0, hz1, hz2⟩ := info_parts info_u8
  refine calls_wd ?_
  go_enter Tryz.func31, Tryz.ntmps31
  go_wp2
  go_loopw [13] (fun s13 wr => ∃ (k : Nat) (F : List UInt8) (m : Ext) (a : Option Addr) (c : Nat), k ≤ N ∧ (64 < N → k = 0) ∧ s13 = .int .i64 k ∧ wr = wd w [m.e, #[.cells (stp { stpBlank 4 with fate := F } none 0 a c) 34], #[.cells (stp (stpBlank 0) none 0 none 0) 34]] m.n ∧
    Hid (FatJ ws k F) ∧ Hid (rowIn w.heap.size (shape [#[.cells (stp { stpBlank 4 with fate := F } none 0 a c) 34], #[.cells (stp (stpBlank 0) none 0 none 0) 34]]) m.e 5 1 (.slice a F.length c) F.length (Lib.byteCells F))) (fun s13 _ => N - (intOf s13).toNat)
  case atStart => exact ⟨0, [], ⟨#[], _⟩, none, 0, Nat.zero_le _, fun _ => rfl, rfl, by rw [wd_empty]; rfl, Lib.hid (FatJ.start ws), Lib.hid (rowIn_nil _ _ _ _ _)⟩
  case round =>
    obtain ⟨k, F, m, a, c, hkN, hk0, rfl, rfl, HF, HROW⟩ := hrel
    by_cases hk : k < N
    · obtain ⟨x, hx⟩ : ∃ x, ws[k]? = some x := ⟨_, List.getElem?_eq_getElem (by rw [HN.out]; exact hk)⟩
      have HX := Lib.hid hx
      have hxl := HSM.out x (List.mem_of_getElem? hx)
      have HNUM := Lib.hid (fun W => rnumber_any x W hxl)
      obtain ⟨b9, o9, rfl, hb9, hc9⟩ := HCC.out (fun h => by rw [h] at hx; cases hx)
      have hcell := hc9 k x hx
      clear hc9 hx hxl
      rcases numR_val (x := x) with ⟨hq, hR⟩ | ⟨q, hq, hR⟩
      · have HR := Lib.hid hR
        have HNO := Lib.hid (HU.out (.inr (HF.out.no HX.out hq)))
        clear hR hq hk0
        go_wp2_with (first
          | (go_at_call 53; refine (HNUM.out _).mono ?_; rintro e w1 hs; have hs2 := hs.out; rw [HR.out] at hs2; obtain ⟨rfl, x1, n1, rfl⟩ := hs2; clear hs))
        refine bodyPost_ret (v := .tuple #[.agg (stp (stpBlank 0) none 0 none 0), .bool false]) (by first | (simp [results, Tryz.results31, go_sem]; done) | (simp [results, Tryz.results31, go_sem]; rfl)) rfl ?_
        exact rother_no HNO.out rfl (more_wd _ _ _)
      · have HR := Lib.hid hR
        clear hR
        by_cases hq2 : q ≤ 255
        · by_cases hN64 : N ≤ 64
          · have HST := Lib.hid (HF.out.step HX.out hq hq2)
            have hFK : F.length = k := HF.out.len
            have HKF := Lib.hid hFK
            have HROW2 := HROW
            rw [hFK] at HROW2
            have hset : ∀ x a0 c0 f0 d0 a c, (stp x a0 c0 f0 d0).setIfInBounds 21 (.slice a (k + 1) c) = stp { x with fate := F ++ [UInt8.ofNat q] } a0 c0 a c := fun x a0 c0 f0 d0 a c => by
              have := stp_set21 x a0 c0 f0 d0 (F ++ [UInt8.ofNat q]) a c
              rwa [show (F ++ [UInt8.ofNat q]).length = k + 1 by rw [List.length_append, HKF.out]; rfl] at this
            clear hq hk0
            go_wp2_with (first
              | (go_at_call 53; refine (HNUM.out _).mono ?_; rintro e w1 hs; have hs2 := hs.out; rw [HR.out] at hs2; obtain ⟨rfl, x1, n1, rfl⟩ := hs2; clear hs)
              | (at_builtin; refine wp_append_rowC w.heap.size [_] rfl _ _ _ rfl 5 i0 _ 1 1 Tryz.underlying28 hi hz0 hz1 hz2 rfl (by decide) rfl (L := [#[.cells (stp { stpBlank 4 with fate := F } none 0 a c) 34], #[.cells (stp (stpBlank 0) none 0 none 0) 34]]) (.slice a k c) k _ rfl HROW2.out _ _ 1 1 rfl rfl (by simp [Value.oneCell']) (by unfold maxLen; omega) (by omega) ?_; intro v8 m8 hr8; obtain ⟨a8, c8, rfl⟩ := rowIn_slice hr8; have HR8 := Lib.hid hr8; clear hr8))
            go_roundw
            case rel => exact ⟨k + 1, F ++ [UInt8.ofNat q], m8, a8, c8, by omega, fun h => absurd h (by omega), by go_num, rfl, HST, Lib.hid (by have e8 := snoc_byte F (UInt8.ofNat q) q (ofNat_toNat hq2).symm; rw [List.length_append, HKF.out, ← e8]; exact HR8.out)⟩
            case measure => simp [intOf]; omega
          · have HNO := Lib.hid (HU.out (.inl (by omega)))
            have hN65 : 64 < N := by omega
            clear hq hN64 hk0
            go_wp2_with (first
              | (go_at_call 53; refine (HNUM.out _).mono ?_; rintro e w1 hs; have hs2 := hs.out; rw [HR.out] at hs2; obtain ⟨rfl, x1, n1, rfl⟩ := hs2; clear hs))
            refine bodyPost_ret (v := .tuple #[.agg (stp (stpBlank 0) none 0 none 0), .bool false]) (by first | (simp [results, Tryz.results31, go_sem]; done) | (simp [results, Tryz.results31, go_sem]; rfl)) rfl ?_
            exact rother_no HNO.out rfl (more_wd _ _ _)
        · have HNO := Lib.hid (HU.out (.inr (HF.out.big HX.out hq hq2)))
          have hq3 : 255 < q := by omega
          clear hq hq2 hk0
          go_wp2_with (first
            | (go_at_call 53; refine (HNUM.out _).mono ?_; rintro e w1 hs; have hs2 := hs.out; rw [HR.out] at hs2; obtain ⟨rfl, x1, n1, rfl⟩ := hs2; clear hs))
          refine bodyPost_ret (v := .tuple #[.agg (stp (stpBlank 0) none 0 none 0), .bool false]) (by first | (simp [results, Tryz.results31, go_sem]; done) | (simp [results, Tryz.results31, go_sem]; rfl)) rfl ?_
          exact rother_no HNO.out rfl (more_wd _ _ _)
    · obtain rfl : k = N := by omega
      have hN64 : k ≤ 64 := by
        rcases Nat.lt_or_ge 64 k with h | h
        · have := hk0 h; omega
        · exact h
      have HYES := Lib.hid (HT.out F hN64 (HF.out.done HN.out))
      go_wp2
      refine bodyPost_ret (v := .tuple #[.agg (stp { stpBlank 4 with fate := F } none 0 a c), .bool true]) (by first | (simp [results, Tryz.results31, go_sem]; done) | (simp [results, Tryz.results31, go_sem]; rfl)) rfl ?_
      exact rother_yes HYES.out rfl (more_wd _ _ _) ((rbnew_of_row (w := w) (L := [#[.cells (stp { stpBlank 4 with fate := F } none 0 a c) 34], #[.cells (stp { stpBlank 4 with fate := F } none 0 a c) 34]]) (by exact HROW.out)).keep (sz_le _ _) (fun _ _ _ => rfl))
theorem rother_any (t : Word) (v : Value) (ws : List Word) (w : World) (hv : SRd w v ws) : Calls Tryz.prog 31 #[.string (str t), v] w fun e w' => ROther w w' e t ws := by
  by_cases h1 : t = w_tick
  · subst h1; exact roth_tick v ws w hv
  by_cases h2 : t = w_work
  · subst h2; exact roth_work v ws w hv
  by_cases h3 : t = w_fail
  · subst h3; exact roth_fail v ws w hv
  by_cases h4 : t = w_crash
  · subst h4; exact roth_crash v ws w hv
  by_cases h5 : t = w_open
  · subst h5; exact roth_open v ws w hv
  exact roth_none t h1 h2 h3 h4 h5 v ws w
end Go.Proofs.YtifoekadjnlhcaaGreatDoor
namespace Go.Proofs.YtifoekadjnlhcaaGreatDoor
open Go.ChangeShapes Go.WideShapes Go.ChangeAt Go.RowKit
set_option linter.unusedVariables false
set_option linter.unusedSimpArgs false
theorem splitC_sep (c : UInt8) : ∀ t : List UInt8, splitC c (t ++ [c]) = splitC c t ++ [[]]
  | [] => by simp [splitC]
  | x :: r => by
    simp only [List.cons_append, splitC]
    rw [splitC_sep c r]
    split
    · rfl
    · cases h : splitC c r with
      | nil => exact absurd h (splitC_ne c r)
      | cons w ws => rfl
theorem splitC_put {c x : UInt8} (hx : x ≠ c) : ∀ (t : List UInt8) (l : List Word) (w : Word), splitC c t = l ++ [w] → splitC c (t ++ [x]) = l ++ [w ++ [x]]
  | [], l, w, h => by
    have h : [[]] = l ++ [w] := h
    cases l with
    | nil => simp at h; subst h; simp [splitC, hx]
    | cons a l => simp at h
  | y :: r, l, w, h => by
    have ih := splitC_put hx r
    simp only [List.cons_append, splitC] at h ⊢
    by_cases hy : y = c
    · rw [if_pos hy] at h ⊢
      cases l with
      | nil =>
        simp at h
        exact absurd h.2 (splitC_ne c r)
      | cons a l =>
        simp only [List.cons_append, List.cons.injEq] at h
        rw [ih l w h.2, ← h.1]
        rfl
    · rw [if_neg hy] at h ⊢
      cases hs : splitC c r with
      | nil => exact absurd hs (splitC_ne c r)
      | cons v vs =>
        rw [hs] at h
        dsimp only at h
        cases l with
        | nil =>
          simp at h
          obtain ⟨h1, h2⟩ := h
          subst h2
          rw [ih [] v hs, ← h1]
          rfl
        | cons a l =>
          simp only [List.cons_append, List.cons.injEq] at h
          rw [ih (v :: l) w (by rw [hs, h.2]; rfl), ← h.1]
          rfl
section
variable {P : Program} {W : World} {B n cap g : Nat} {E : TypeId} {xs : List Value}
theorem wp_store_one {ops : Array Oper} {rest : List Oper} {o : Oper} {a : Act} {Q : Exit → Act → World → Prop} (hg : o.guard = none) (p v : Operand) (t : TypeId) (hop : o.op = Op.store t p v) (zE : ∀ w, (Go.sizeOf t).run P w = .ok 1 w)
    (h : W.ownsRow B E 1 (.slice (some ⟨g, 0, none⟩) n cap) n xs) (k : Nat) (hk : k < n) (s : ByteArray) (hp : a.eval p = .pointer (some ⟨g, k, none⟩)) (hv : a.eval v = .string s)
    (hK : ∀ W', W'.ownsRow B E 1 (.slice (some ⟨g, 0, none⟩) n cap) n (putL xs k [.string s]) → W.grownBy W' (some g) → W'.heap.size = W.heap.size → wpList P ops Q rest (a.put o.dst undef) W') : wpList P ops Q (o :: rest) a W := by
  refine wpList_plain hg fun K' hK' => ?_
  have hrun := owns_run P h k [Value.string s] (by show k + 1 ≤ n * 1; omega) (by simp [Value.oneCell'])
  obtain ⟨g1, g2⟩ := setCells_grown g [Value.string s] k W
  unfold Oper.wp
  simp [execOp, hop, hp, hv, Instr.storeAt, Instr.sureAddr, storeVar, zE, Value.cells, hrun, Result.andThen]
  exact hK' _ _ (hK _ (owns_put h _ _) g1 g2)
end
theorem putL_last {α : Type} (l : List α) (a b : α) : putL (l ++ [a]) l.length [b] = l ++ [b] := by
  show (l ++ [a]).set l.length b = _
  simp
structure WrdI (w u : World) (line : List UInt8) (k : Nat) (l : List Word) (x : Word) (v : Value) : Prop where
  eq : splitC 32 (line.take k) = l ++ [x]
  more : More w u
  row : u.ownsRow w.heap.size 9 1 v (l.length + 1) ((l ++ [x]).map sCell)
  ln : l.length ≤ k
  xn : x.length ≤ k
theorem srd_wrd {w u : World} {line : List UInt8} {l : List Word} {x : Word} {v : Value} {k : Nat} (h : WrdI w u line k l x v) (hk : line.length = k) (hl : line.length ≤ 1099511627776) : SRd u v (splitC 32 line) := by
  have e : splitC 32 line = l ++ [x] := by rw [← h.eq, List.take_of_length_le (by omega)]
  rw [e]
  refine srd_own (by rw [List.length_append]; exact h.row) (fun s hs => ?_)
  rw [← e] at hs
  have := splitC_each 32 line s hs
  omega
theorem sz_strW : ∀ w, (Go.sizeOf 9).run Tryz.prog w = .ok 1 w := fun w => Tryz.sizeOf9 w
set_option maxRecDepth 100000 in
set_option maxHeartbeats 3200000 in
theorem rwords_any (line : List UInt8) (w : World) (hl : line.length ≤ 1000) : Calls Tryz.prog 12 #[.string (str line)] w fun e w' => WordsRet w w' e line := by
  have hsz := str_size line
  obtain ⟨N, hN⟩ : ∃ N, line.length = N := ⟨_, rfl⟩
  have HLINE := Lib.hid (show line.length ≤ 1099511627776 by omega)
  rw [hN] at hsz hl
  have HN := Lib.hid hN
  clear hN
  obtain ⟨i0, hi, hz0, hz1, hz2⟩ := info_parts info_str3
  refine calls_wd ?_
  go_enter Tryz.func12, Tryz.ntmps12
  go_wp2
  go_loopw [3, 4] (fun s3 s4 wr => ∃ (k : Nat) (l : List Word) (x : Word) (v : Value), k ≤ N ∧ s4 = .int .i64 k ∧ v = s3 ∧ Hid (WrdI w wr line k l x v)) (fun _ s4 _ => N - (intOf s4).toNat)
  case atStart => exact ⟨0, [], [], _, Nat.zero_le _, rfl, rfl, Lib.hid ⟨rfl, more_wd _ _ _, ⟨rfl, .inr ⟨_, 1, _, rfl, Nat.le_refl _, wd_at w [] _ _ _ _ rfl rfl, Nat.le_refl _, by decide, rfl, rfl⟩⟩, Nat.le_refl _, Nat.le_refl _⟩⟩
  case round =>
    obtain ⟨k, l, x, v, hkN, rfl, rfl, HI⟩ := hrel
    have hln := HI.out.ln
    have hxn := HI.out.xn
    by_cases hk : k < N
    · obtain ⟨c, hc⟩ : ∃ c, line[k]? = some c := ⟨_, List.getElem?_eq_getElem (by rw [HN.out]; exact hk)⟩
      have HC := Lib.hid hc
      have hik : ∀ W, (Instr.index 9 (.string (str line)) (.int .i64 (k : Nat))).run Tryz.prog W = .ok (.int .u8 c.toNat) W := fun W => sindex (P := Tryz.prog) 9 Tryz.underlying9 line k c hc W
      have hcl := c.toNat_lt
      rcases own_shape HI.out.row with ⟨_, h0⟩ | ⟨g, cap, rfl, hcap, hmx⟩
      · omega
      have HROW := Lib.hid HI.out.row
      obtain ⟨M, hM⟩ : ∃ M, l.length = M := ⟨_, rfl⟩
      have HM := Lib.hid hM
      rw [hM] at HROW hln hcap ⊢
      by_cases h32 : c = 32
      · subst h32
        have HNX : Hid (splitC 32 (line.take (k + 1)) = (l ++ [x]) ++ [[]]) := Lib.hid (by rw [take_snoc' hc, splitC_sep, HI.out.eq])
        clear hc hM
        rw [← wd_nil wr]
        go_wp2_with (first
          | (at_builtin; refine wp_append_base (L := []) rfl _ _ 39 rfl w.heap.size 9 i0 _ 1 16 Tryz.underlying39 hi hz0 hz1 hz2 rfl (by decide) _ (M + 1) _ rfl HROW.out #[.string { data := #[] }] 9 1 1 rfl rfl (by simp [Value.oneCell']) (by unfold maxLen; omega) (by omega) HI.out.more.below.size ?_; intro v7 u7 ho7 hg7; have HO7 := Lib.hid ho7; have HG7 := Lib.hid hg7; clear ho7 hg7))
        go_roundw
        case rel => exact ⟨k + 1, l ++ [x], [], v7, by omega, by go_num, rfl, Lib.hid ⟨HNX.out, more_grown (B := 0) HI.out.more HROW.out HG7.out, by rw [List.length_append, HM.out, List.map_append]; exact HO7.out, by rw [List.length_append, HM.out]; simp; omega, Nat.zero_le _⟩⟩
        case measure => simp [intOf]; omega
      · have hcb : ((c.toNat : Int) == 32) = false := by
          rw [beq_eq_false_iff_ne]
          intro h
          exact h32 (UInt8.toNat_inj.1 (by show c.toNat = 32; omega))
        have HNX : Hid (splitC 32 (line.take (k + 1)) = l ++ [x ++ [c]]) := Lib.hid (by rw [take_snoc' hc]; exact splitC_put h32 _ _ _ HI.out.eq)
        have hcell : wr.cell? ⟨g, M, none⟩ = some (.string (str x)) := own_get HROW.out M _ (by rw [List.getElem?_map, List.getElem?_append_right (by omega), HM.out]; simp [sCell])
        have hgl := owns_lt HROW.out
        have hsl : ∀ W, (Instr.slice 9 (.string (str line)) (some (.int .i64 (k : Nat))) (some (.int .i64 ((k : Int) + 1))) none).run Tryz.prog W = .ok (.string (str [c])) W := fun W => by
          have h1 := sslice (P := Tryz.prog) 9 Tryz.underlying9 line .i64 .i64 k (k + 1) (by omega) (by rw [HN.out]; omega) W
          rw [show ((k + 1 : Nat) : Int) = (k : Int) + 1 by omega] at h1
          rw [h1]
          congr 3
          exact take_drop_one line k c hc
        have HP9 : Hid (putL ((l ++ [x]).map sCell) M [sCell (x ++ [c])] = (l ++ [x ++ [c]]).map sCell) := Lib.hid (by
          rw [List.map_append, List.map_append, show M = (l.map sCell).length by rw [List.length_map, HM.out]]
          exact putL_last _ _ _)
        have ha := sadd (P := Tryz.prog) x [c] (by simp; omega)
        clear hc hM
        rw [← wd_nil wr]
        go_wp2
        refine wp_region_tail [0, 1, 2, 3, 4, 5, 6, 7, 8, 9, 10, 11] [12, 13] [true, true, true, true, true, true, true, true, true, true, true, true] [false, false, false, false, false, false, false, false, false, false, false, false, true, true] ⟨rfl, rfl⟩ (by kernel_rfl) (by kernel_rfl) (fun _ _ d _ _ h => by cases d <;> exact h) ?_
        apply Exists.intro
        refine ⟨?_, ?_⟩
        · simp only [sel_t, sel_f, sel_n]
          repeat (go_big_quiet_step ((fail)))
          exact wpQuiet_nil rfl
        intro m0
        simp only [sel_t, sel_f, sel_n]
        go_wp2_with (refine wp_store_one rfl _ _ 9 rfl sz_strW (owns_more HROW.out (more_wd _ _ _)) M (by omega) _ rfl rfl ?_; intro W9 ho9 hg9 hs9; have HO9 := Lib.hid ho9; have HG9 := Lib.hid hg9; clear ho9 hg9 hs9)
        go_roundw
        case rel => exact ⟨k + 1, l, x ++ [c], _, by omega, by go_num, rfl, Lib.hid ⟨HNX.out, more_grown (B := 0) HI.out.more HROW.out (grown_trans (grown_more (more_wd _ _ _) _) HG9.out), by rw [← HP9.out, HM.out]; exact HO9.out, by rw [HM.out]; omega, by simp; omega⟩⟩
        case measure => simp [intOf]; omega
    · obtain rfl : k = N := by omega
      rw [← wd_nil wr]
      go_wp2
      go_ret
      obtain ⟨y, m, hy⟩ := HI.out.more
      exact ⟨_, y, m, rfl, hy, srd_wrd HI.out HN.out HLINE.out⟩
end Go.Proofs.YtifoekadjnlhcaaGreatDoor
