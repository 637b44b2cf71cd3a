/- console: step, crash. -/
import Derived.Test.YtifoekadjnlhcaaGreatDoorMR
import Derived.Test.YtifoekadjnlhcaaGreatDoorMC
namespace Go.Proofs.YtifoekadjnlhcaaGreatDoor
open Go.ChangeShapes Go.WideShapes Go.ChangeAt Go.RowKit
set_option linter.unusedVariables false
set_option linter.unusedSimpArgs false
section
variable {ws rem r2 : List Word} {F : List UInt8} {n : Nat}
theorem fateW_step (hF : fateW ws = (fateW rem).map (F ++ ·)) (h : tkN rem = some (n, r2)) (hn : n ≤ 255) : fateW ws = (fateW r2).map ((F ++ [UInt8.ofNat n]) ++ ·) := by
  cases rem with
  | nil => cases h
  | cons s r =>
    simp only [tkN] at h
    cases hq : numW s with
    | none => rw [hq] at h; cases h
    | some k =>
      rw [hq] at h; cases h; rw [hF]
      simp only [fateW, hq, if_pos hn]
      cases fateW r2 <;> simp
theorem fateW_no (hF : fateW ws = (fateW rem).map (F ++ ·)) (hne : rem ≠ []) (h : tkN rem = none) : fateW ws = none := by
  cases rem with
  | nil => exact absurd rfl hne
  | cons s r =>
    simp only [tkN] at h
    cases hq : numW s with
    | none => rw [hF]; simp only [fateW, hq]; rfl
    | some k => rw [hq] at h; cases h
theorem fateW_big (hF : fateW ws = (fateW rem).map (F ++ ·)) (h : tkN rem = some (n, r2)) (hn : ¬ n ≤ 255) : fateW ws = none := by
  cases rem with
  | nil => cases h
  | cons s r =>
    simp only [tkN] at h
    cases hq : numW s with
    | none => rw [hq] at h; cases h
    | some k => rw [hq] at h; cases h; rw [hF]; simp only [fateW, hq, if_neg hn]; rfl
theorem tkN_len (h : tkN rem = some (n, r2)) : rem.length = r2.length + 1 := by
  cases rem with
  | nil => cases h
  | cons s r =>
    simp only [tkN] at h
    cases hq : numW s with
    | none => rw [hq] at h; cases h
    | some k => rw [hq] at h; cases h; rfl
end
theorem crash_eq (ws : List Word) : stepWW (w_crash :: ws) = if ws.length ≤ 64 then match fateW ws with
    | none => none
    | some f => some ({ stpBlank 4 with fate := f }, [])
  else none := rfl
structure FatI (v : Value) (ws0 r rem : List Word) (F : List UInt8) (v3 : Value) : Prop where
  rd : ∀ W0, SRd W0 v ws0 → SRd W0 v3 rem
  fate : fateW r = (fateW rem).map (F ++ ·)
  len : F.length + rem.length = r.length
def lenAt (w : World) (p : Nat) : Nat := match w.cell? ⟨p, 0, none⟩ with
  | some (.slice _ n _) => n
  | _ => 0
theorem lenAt_wd {w : World} {p : Nat} {v : Value} {ws : List Word} (h : CS (cset w p v) p v ws) (L : List (Array Obj)) (n : Nat) : lenAt (wd (cset w p v) L n) p = ws.length := by
  obtain ⟨a, c, hv, _⟩ := h.words.slice
  have := (h.rd.more (more_wd _ L n)).c0
  unfold lenAt
  rw [this, hv]
theorem rbnew_of_row {w : World} {L : List (Array Obj)} {n : Nat} {e : Array Obj} {E : TypeId} {a : Option Addr} {c : Nat} {l : List UInt8} (h : rowIn w.heap.size (shape L) e E 1 (.slice a l.length c) l.length (Lib.byteCells l)) : RBNew (sz w.heap.size (shape L)) (wd w (e :: L) n) a c l := by
  rcases rowIn_look h with ⟨h0, h1, _⟩ | ⟨j, cap, h0, hn, hm, hj, hc⟩
  · injection h0 with e1 e2 e3
    subst e3
    exact ⟨by omega, Nat.zero_le _, fun hne => absurd (List.eq_nil_of_length_eq_zero h1) hne⟩
  · injection h0 with e1 e2 e3
    subst e1; subst e3
    refine ⟨hn, hm, fun hne => ⟨_, 0, rfl, Nat.le_add_right _ _, ?_, fun i hi => ?_⟩⟩
    · rw [wd_size, shape_cons]; simp only [at', sz]; omega
    · rw [Nat.zero_add, wd_cell_in w L n _ j i _ e rfl rfl]
      exact hc i (by omega)
theorem RBNew.over {S : Nat} {w : World} {L : List (Array Obj)} {n m : Nat} {y : Array Obj} {f : Option Addr} {fc : Nat} {l : List UInt8} (h : RBNew S (wd w L n) f fc l) : RBNew S (wd w (y :: L) m) f fc l := h.keep (Nat.le_refl _) (fun b _ hb => plus_block _ _ _ _ hb)
theorem ofNat_toNat {n : Nat} (hn : n ≤ 255) : ((UInt8.ofNat n).toNat : Int) = n := by rw [UInt8.toNat_ofNat']; omega
set_option maxRecDepth 100000 in
set_option maxHeartbeats 6400000 in
theorem step_crash (p : Nat) (v : Value) (r : List Word) (w : World) (h0 : CS w p v (w_crash :: r)) : Calls Tryz.prog 25 #[.pointer (some ⟨p, 0, none⟩)] w fun e w' => StepRet w w' e p v (w_crash :: r) := by
  have q0 : ((str w_crash).toList == [116, 105, 99, 107]) = false := by rw [str_toList]; decide
  have q1 : ((str w_crash).toList == [119, 111, 114, 107]) = false := by rw [str_toList]; decide
  have q2 : ((str w_crash).toList == [102, 97, 105, 108]) = false := by rw [str_toList]; decide
  have q3 : ((str w_crash).toList == [99, 114, 97, 115, 104]) = true := by rw [str_toList]; decide
  have HRQ : Hid (requestW w_crash r = some (none, r)) := Lib.hid rfl
  have HE := Lib.hid (crash_eq r)
  have hlt := cs_le h0
  have HLT := Lib.hid hlt
  have H0 := Lib.hid h0
  clear h0
  obtain ⟨tw, htw⟩ : ∃ tw, w_crash = tw := ⟨_, rfl⟩
  rw [htw] at HE HRQ H0 q0 q1 q2 q3 ⊢
  clear htw
  obtain ⟨N, hN⟩ : ∃ N, r.length = N := ⟨_, rfl⟩
  have HN := Lib.hid hN
  by_cases hl : N ≤ 64
  · have HT : Hid (∀ f, fateW r = some f → stepWW (tw :: r) = some ({ stpBlank 4 with fate := f }, [])) := Lib.hid (fun f hf => by rw [HE.out, if_pos (by omega), hf])
    have HU : Hid (fateW r = none → stepWW (tw :: r) = none) := Lib.hid (fun hf => by rw [HE.out, if_pos (by omega), hf])
    clear hN
    refine calls_wd ?_
    go_enter Tryz.func25, Tryz.ntmps25
    go_wp2_with (first
      | (go_at_call 48; refine (t_step H0.out (fun W0 h => h) (first_more H0.out (more_wd _ _ _))).mono ?_; rintro e w1 ⟨rfl, v0, x0, k0, hk, rfl⟩; have HK0 := Lib.hid hk; clear hk)
      | (go_at_call 49; refine (request_any p v0 _ r _ (cs_at H0.out HK0.out (more_wd _ _ _))).mono ?_; rintro e w1 hs; have hs2 := hs.out; rw [HRQ.out] at hs2; obtain ⟨rfl, hk⟩ := hs2; obtain ⟨v2, x2, k2, hk2, rfl⟩ := hk.out; have HK1 := Lib.hid (fun W0 h => hk2 W0 (HK0.out W0 h)); clear hs hk hk2; have HS6 := Lib.hid (H0.out.step HK1.out); obtain ⟨a6, c6, hv6, hc6⟩ := HS6.out.words.slice; rw [HN.out] at hv6 hc6; subst hv6; have hcell6 := HS6.out.rd.c0; have hf6 := HS6.out.rd.f 0)
      | (go_at_call 26; ((with_reducible refine (need_yesB _ (by first | rfl | exact decide_eq_true (by omega))).mono ?_); rintro e w1 ⟨rfl, x1, n1, rfl⟩)))
    have HI0 : Hid (FatI v (tw :: r) r r [] (.slice a6 N c6)) := Lib.hid ⟨HK1.out, by cases fateW r <;> rfl, by simp⟩
    go_loopw [7] (fun s7 wr => ∃ (rem : List Word) (F : List UInt8) (v3 : Value) (m : Ext) (a : Option Addr) (c : Nat), wr = wd (cset w p v3) [m.e, #[.cells (stp { stpBlank 4 with fate := F } none 0 a c) 30], x1, #[.cells (rq (reqBlank 0) none 0) 27], x2, x0, #[.cells (stp (stpBlank 0) none 0 none 0) 30]] m.n ∧
      Hid (FatI v (tw :: r) r rem F v3) ∧ Hid (rowIn w.heap.size (shape [#[.cells (stp { stpBlank 4 with fate := F } none 0 a c) 30], x1, #[.cells (rq (reqBlank 0) none 0) 27], x2, x0, #[.cells (stp (stpBlank 0) none 0 none 0) 30]]) m.e 5 1 (.slice a F.length c) F.length (Lib.byteCells F))) (fun _ wr => lenAt wr p)
    case atStart => exact ⟨r, [], _, ⟨#[], _⟩, none, 0, by rw [wd_empty]; rfl, HI0, Lib.hid (rowIn_nil _ _ _ _ _)⟩
    case round =>
      obtain ⟨rem, F, v3, m, a, c, rfl, HI, HROW⟩ := hrel
      have HS3 := Lib.hid (H0.out.step HI.out.rd)
      obtain ⟨a3, c3, hv3, hc3⟩ := HS3.out.words.slice
      subst hv3
      have hcell3 := HS3.out.rd.c0
      have hf3 := HS3.out.rd.f 0
      cases rem with
      | nil =>
        have HF : Hid (fateW r = some F) := Lib.hid (by rw [HI.out.fate]; simp [fateW])
        simp only [List.length_nil] at hcell3 HS3 ⊢
        go_wp2
        refine bodyPost_ret (v := .agg (stp { stpBlank 4 with fate := F } none 0 a c)) (by first | (simp [results, Tryz.results25, go_sem]; done) | (simp [results, Tryz.results25, go_sem]; rfl)) rfl ?_
        exact stepret_yes (HT.out F HF.out) rfl (ctk_of _ _ HI.out.rd) (RecsNew.zero _ _) ((rbnew_of_row (w := cset w p (.slice a3 0 c3)) (by rw [cset_size]; exact HROW.out)).keep (by rw [cset_size]; exact sz_le _ _) (fun _ _ _ => rfl)) (fun h => absurd rfl h)
      | cons s1 rem1 =>
        cases hq : tkN (s1 :: rem1) with
        | none =>
          have HQ := Lib.hid hq
          have HNO : Hid (stepWW (tw :: r) = none) := Lib.hid (HU.out (fateW_no HI.out.fate (by simp) hq))
          obtain ⟨M, hM⟩ : ∃ M, (s1 :: rem1).length = M := ⟨_, rfl⟩
          have hM0 : 0 < M := by rw [← hM]; simp
          obtain ⟨RM, hRM⟩ : ∃ RM, s1 :: rem1 = RM := ⟨_, rfl⟩
          rw [hRM] at HQ HI hM hcell3 HS3 ⊢
          rw [hM] at hcell3 HS3 HI ⊢
          clear hq hM hRM
          go_wp2_with (first | (go_at_call 50; refine (n_none H0.out HQ.out HI.out.rd (more_wd _ _ _)).mono ?_; rintro e w1 hs; obtain ⟨v9, x9, k9, rfl, rfl⟩ := hs.out; clear hs))
          exact ⟨rfl, stepret_no HNO.out (cno_of _ _ _ _)⟩
        | some y =>
          obtain ⟨n, r2⟩ := y
          have HQ := Lib.hid hq
          have HLN := Lib.hid (tkN_len hq)
          obtain ⟨M, hM⟩ : ∃ M, (s1 :: rem1).length = M := ⟨_, rfl⟩
          have hM0 : 0 < M := by rw [← hM]; simp
          obtain ⟨RM, hRM⟩ : ∃ RM, s1 :: rem1 = RM := ⟨_, rfl⟩
          rw [hRM] at HQ HI hM hcell3 HS3 hq HLN ⊢
          have HMM := Lib.hid hM
          rw [hM] at hcell3 HS3 HI ⊢
          by_cases hn : n ≤ 255
          · have HST := Lib.hid (fateW_step HI.out.fate hq hn)
            obtain ⟨K, hK⟩ : ∃ K, F.length = K := ⟨_, rfl⟩
            have HKF := Lib.hid hK
            have HROW2 := HROW
            rw [hK] at HROW2
            have hKN : K < 64 := by have := HI.out.len; have := HMM.out; have := HN.out; omega
            obtain ⟨i0, hi, hz0, hz1, hz2⟩ := info_parts info_u8
            have hset : ∀ x a0 c0 f0 d0 a c, (stp x a0 c0 f0 d0).setIfInBounds 21 (.slice a (K + 1) c) = stp { x with fate := F ++ [UInt8.ofNat n] } a0 c0 a c := fun x a0 c0 f0 d0 a c => by
              have := stp_set21 x a0 c0 f0 d0 (F ++ [UInt8.ofNat n]) a c
              rwa [show (F ++ [UInt8.ofNat n]).length = K + 1 by rw [List.length_append, HKF.out]; rfl] at this
            have hFK : F.length = K := hK
            clear hq hM hRM hK
            go_wp2_with (first
              | (go_at_call 50; refine (n_step H0.out HQ.out HI.out.rd (more_wd _ _ _)).mono ?_; rintro e w1 ⟨rfl, v4, x4, k4, hk, rfl⟩; have HK4 := Lib.hid hk; clear hk)
              | (go_at_call 26; ((with_reducible refine (need_yesB _ (by first | rfl | exact decide_eq_true (by omega))).mono ?_); rintro e w1 ⟨rfl, x1, n1, rfl⟩))
              | (at_builtin; refine wp_append_rowC w.heap.size [_, _] rfl _ _ _ rfl 5 i0 _ 1 1 Tryz.underlying28 hi hz0 hz1 hz2 rfl (by decide) (cset_size _ _ _) (L := [#[.cells (stp { stpBlank 4 with fate := F } none 0 a c) 30], _, #[.cells (rq (reqBlank 0) none 0) 27], x2, x0, #[.cells (stp (stpBlank 0) none 0 none 0) 30]]) (.slice a K c) K _ rfl HROW2.out _ _ 1 1 rfl rfl (by simp [Value.oneCell']) (by unfold maxLen; omega) (by omega) ?_; intro v8 m8 hr8; obtain ⟨a8, c8, rfl⟩ := rowIn_slice hr8; have HR8 := Lib.hid hr8; clear hr8))
            go_roundw
            case rel => exact ⟨r2, F ++ [UInt8.ofNat n], v4, m8, a8, c8, rfl, Lib.hid ⟨HK4.out, HST.out, by have := HI.out.len; have := HLN.out; have := HMM.out; rw [List.length_append]; simp; omega⟩, Lib.hid (by have e8 := snoc_byte F (UInt8.ofNat n) n (ofNat_toNat hn).symm; rw [List.length_append, HKF.out, ← e8]; exact HR8.out)⟩
            case measure =>
              rw [lenAt_wd (H0.out.step HK4.out), lenAt_wd HS3.out]
              have := HLN.out; omega
          · have HNO : Hid (stepWW (tw :: r) = none) := Lib.hid (HU.out (fateW_big HI.out.fate hq hn))
            have hn2 : 255 < n := by omega
            clear hq hM hRM hn
            go_wp2_with (first
              | (go_at_call 50; refine (n_step H0.out HQ.out HI.out.rd (more_wd _ _ _)).mono ?_; rintro e w1 ⟨rfl, v4, x4, k4, hk, rfl⟩; have HK4 := Lib.hid hk; clear hk)
              | (go_at_call 26; ((with_reducible refine (need_noB _ (by first | rfl | exact decide_eq_false (by omega))).mono ?_); rintro e w1 ⟨rfl, x9, n9, rfl⟩)))
            exact ⟨rfl, stepret_no HNO.out (cno_of _ _ _ _)⟩
  · have HT : Hid (stepWW (tw :: r) = none) := Lib.hid (by rw [HE.out, if_neg (by omega)])
    have hl2 : 64 < N := by omega
    clear hN hl
    refine calls_wd ?_
    go_enter Tryz.func25, Tryz.ntmps25
    go_wp2_with (first
      | (go_at_call 48; refine (t_step H0.out (fun W0 h => h) (first_more H0.out (more_wd _ _ _))).mono ?_; rintro e w1 ⟨rfl, v0, x0, k0, hk, rfl⟩; have HK0 := Lib.hid hk; clear hk)
      | (go_at_call 49; refine (request_any p v0 _ r _ (cs_at H0.out HK0.out (more_wd _ _ _))).mono ?_; rintro e w1 hs; have hs2 := hs.out; rw [HRQ.out] at hs2; obtain ⟨rfl, hk⟩ := hs2; obtain ⟨v2, x2, k2, hk2, rfl⟩ := hk.out; have HK1 := Lib.hid (fun W0 h => hk2 W0 (HK0.out W0 h)); clear hs hk hk2; have HS6 := Lib.hid (H0.out.step HK1.out); obtain ⟨a6, c6, hv6, hc6⟩ := HS6.out.words.slice; rw [HN.out] at hv6 hc6; subst hv6; have hcell6 := HS6.out.rd.c0; have hf6 := HS6.out.rd.f 0)
      | (go_at_call 26; ((with_reducible refine (need_noB _ (by first | rfl | exact decide_eq_false (by omega))).mono ?_); rintro e w1 ⟨rfl, x1, n1, rfl⟩)))
    exact ⟨rfl, stepret_no HT.out (cno_of _ _ _ _)⟩
end Go.Proofs.YtifoekadjnlhcaaGreatDoor
