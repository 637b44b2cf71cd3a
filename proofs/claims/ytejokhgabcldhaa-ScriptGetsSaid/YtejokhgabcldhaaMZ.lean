/- law 27: awake. -/
import Derived.Test.YtejokhgabcldhaaMY
import Derived.Test.YtejokhgabcldhaaMX
namespace Go.Proofs.Ytejokhgabcldhaa
open Go.ChangeShapes Go.WideShapes Go.ChangeAt Go.RowKit
set_option linter.unusedVariables false
set_option linter.unusedSimpArgs false

theorem put_small (n : Nat) (h : n < 64) : put n = [UInt8.ofNat (2 * n)] := by
  unfold put zig
  rw [if_pos (by omega), show ((2 * (n : Int))).toNat = 2 * n by omega, layN_small (by omega)]
abbrev sA : Stp := ⟨3, (stpBlank 3).q, 3, true, (stpBlank 3).fate⟩
abbrev sB : Stp := stpBlank 5
abbrev sC : Stp := ⟨1, (stpBlank 1).q, 5, (stpBlank 1).done, (stpBlank 1).fate⟩
theorem blank_fit (k : Nat) (h : k < 256) (n : Int) (hn : I64 n) (d : Bool) : StpFit ⟨k, reqBlank 0, n, d, []⟩ := fit_of h ⟨reqBlank_ok 0, by show (0 : Nat) < 256; decide⟩ hn
theorem fitA : StpFit sA := blank_fit 3 (by decide) 3 ⟨by decide, by decide⟩ true
theorem fitB : StpFit sB := blank_fit 5 (by decide) 0 ⟨by decide, by decide⟩ false
theorem fitC : StpFit sC := blank_fit 1 (by decide) 5 ⟨by decide, by decide⟩ false
theorem putA : stpPut sA = ([3, 6, 1], 0) := by
  rw [stpPut_go (by decide) (by rw [stp_eq]; exact ⟨rfl, rfl, rfl, rfl, rfl⟩) (by decide) (by decide)]
  show (UInt8.ofNat 3 :: (put 3 ++ [1]), (0 : Int)) = _
  rw [show put 3 = [UInt8.ofNat 6] from put_small 3 (by decide)]; rfl
theorem putB : stpPut sB = ([5], 0) := by
  rw [stpPut_go (by decide) (by rw [stp_eq]; exact ⟨rfl, rfl, rfl, rfl, rfl⟩) (by decide) (by decide)]
  rfl
theorem putC : stpPut sC = ([1, 10], 0) := by
  rw [stpPut_go (by decide) (by rw [stp_eq]; exact ⟨rfl, rfl, rfl, rfl, rfl⟩) (by decide) (by decide)]
  show (UInt8.ofNat 1 :: put 5, (0 : Int)) = _
  rw [show put 5 = [UInt8.ofNat 10] from put_small 5 (by decide)]; rfl
theorem layBC : stpsLay [sB, sC] = [2, 5, 4, 1, 10] := by
  rw [stpsLay_cons, stpsLay_cons, putB, putC]
  show (put 1 ++ [5]) ++ ((put 2 ++ [1, 10]) ++ []) = _
  rw [show put 1 = [UInt8.ofNat 2] from put_small 1 (by decide), show put 2 = [UInt8.ofNat 4] from put_small 2 (by decide)]; rfl
theorem putBC : stpsPut [sB, sC] = ([2, 5, 4, 1, 10], 0) := by
  rw [stpsPut_fine (by decide) (by intro x hx; simp only [List.mem_cons, List.not_mem_nil, or_false] at hx; rcases hx with rfl | rfl <;> simp only [putB, putC]) (by rw [layBC]; decide), layBC]
theorem getA : stpGet [3, 6, 1] = (sA, 0) := stpGet_put fitA.wf fitA.n putA
theorem getBC : stpsGet [2, 5, 4, 1, 10] = ([sB, sC], 0) := stpsGet_put (by intro x hx; simp at hx; rcases hx with rfl | rfl; exact fitB; exact fitC) putBC
section
variable (s : Stp) (a : Option Addr) (cap : Nat) (f : Option Addr) (fc : Nat)
theorem stp_set0_3 : (stp s a cap f fc).setIfInBounds 0 (.int .u8 3) = stp { s with kind := 3 } a cap f fc := stp_set0 s a cap f fc 3
theorem stp_set0_5 : (stp s a cap f fc).setIfInBounds 0 (.int .u8 5) = stp { s with kind := 5 } a cap f fc := stp_set0 s a cap f fc 5
theorem stp_set0_1 : (stp s a cap f fc).setIfInBounds 0 (.int .u8 1) = stp { s with kind := 1 } a cap f fc := stp_set0 s a cap f fc 1
end
attribute [local go_sem] stp_set0_3 stp_set0_5 stp_set0_1
/-- Two steps, in a block of their own. -/
theorem stms_two {w : World} {b : Nat} {x y : Stm} {t : TypeId} (hb : w.heap[b]? = some (.cells (stp x.s x.a x.cap x.f x.fc ++ stp y.s y.a y.cap y.f y.fc) t)) (hx : StpAt w x.s x.a x.f x.fc) (hy : StpAt w y.s y.a y.f y.fc) : StmsAt w (some ⟨b, 0, none⟩) [x, y] := by
  refine ⟨⟨fun _ => ⟨b, 0, rfl, (Array.getElem?_eq_some_iff.1 hb).1, fun i hi => ?_⟩⟩, fun z hz => ?_⟩
  · simp only [World.cell?, hb, Nat.zero_add]
    rw [← Array.getElem?_toList, Array.toList_append, stm_toList, stm_toList]
    simp
  · simp at hz; rcases hz with rfl | rfl
    · exact hx
    · exact hy
abbrev mB : Stm := ⟨sB, none, 0, none, 0⟩
abbrev mC : Stm := ⟨sC, none, 0, none, 0⟩
theorem put_two (b : Nat) (w : World) (h : StmsAt w (some ⟨b, 0, none⟩) [mB, mC]) : Calls Try.prog 16 #[.slice (some ⟨b, 0, none⟩) 2 2] w fun x w' => BRet w w' x [2, 5, 4, 1, 10] 0 := by
  have h1 := putstms_any (some ⟨b, 0, none⟩) 2 [mB, mC] w h (by intro x hx; simp at hx; rcases hx with rfl | rfl; exact fitB; exact fitC) (by decide)
  rw [show [mB, mC].map Stm.s = [sB, sC] from rfl, putBC] at h1
  exact h1
theorem two_of {α : Type} {l : List α} (h : l.length = 2) : ∃ y z, l = [y, z] := by
  match l, h with
  | [y, z], _ => exact ⟨y, z, rfl⟩
/-- Two steps, got. -/
structure TwoRet (w w' : World) (x : Ending) : Prop where
  out : ∃ (b off cap : Nat) (y z : Stm), x = .returned (.tuple #[.slice (some ⟨b, off, none⟩) 2 cap, .int .i64 0]) ∧ y.s = sB ∧ z.s = sC ∧ StmsAt w' (some ⟨b, off, none⟩) [y, z] ∧ More w w'
theorem get_two (v : Value) (w : World) (hv : RB w v [2, 5, 4, 1, 10]) : Calls Try.prog 21 #[v] w fun x w' => TwoRet w w' x := by
  refine (getstms_any v _ w hv (by decide)).mono fun x w' h => ?_
  obtain ⟨a, cap, l, hx, hl, hs, hm⟩ := h.out
  rw [getBC] at hx hl
  obtain ⟨y, z, rfl⟩ := two_of (l := l) (by simpa using congrArg List.length hl)
  simp only [List.map_cons, List.map_nil, List.cons.injEq, and_true] at hl
  obtain ⟨b, off, rfl, _⟩ := hs.row.out (by simp)
  exact ⟨b, off, cap, y, z, hx, hl.1, hl.2, hs, hm⟩
set_option maxRecDepth 100000 in
set_option maxHeartbeats 3200000 in
theorem awake27 (w : World) : Calls Try.prog 11 #[] w fun x w' => x = .returned (.bool true) ∧ More w w' := by
  have HP1 := Lib.hid (fun W h => putA ▸ pst_any sA none 0 none 0 W fitA h)
  have HAT1 := Lib.hid (fun W => (⟨RowAt.nil _, RB.nil _⟩ : StpAt W sA none none 0))
  have HATB := Lib.hid (fun W => (⟨RowAt.nil _, RB.nil _⟩ : StpAt W sB none none 0))
  have HATC := Lib.hid (fun W => (⟨RowAt.nil _, RB.nil _⟩ : StpAt W sC none none 0))
  have HG1 := Lib.hid (fun V W h => getA ▸ getstp_any V [3, 6, 1] W h (by decide))
  refine calls_wd ?_
  go_enter Try.func11, Try.ntmps11
  go_wp2_with (first
    | (go_at_call 12; ((with_reducible refine (HP1.out _ (HAT1.out _)).mono ?_); rintro e w2 ⟨u1, rfl, hm1⟩; obtain ⟨p1, rfl, hs1⟩ := hm1.wd; clear hm1; have HU1 := Lib.hid (RB.of_row (L := []) (k := 0) hs1 _ rfl); have HT2 := Lib.hid (fun n => (stms_two (x := mB) (y := mC) (own_top w [p1.e] n _) (HATB.out _) (HATC.out _) : StmsAt (wd w [#[.cells (stp sB none 0 none 0 ++ stp sC none 0 none 0) 36], p1.e] n) (some ⟨sz w.heap.size [p1.e.size], 0, none⟩) [mB, mC])); clear hs1))
    | (go_at_call 16; ((with_reducible refine (put_two _ _ (HT2.out _)).mono ?_); rintro e w2 ⟨u2, rfl, hm2⟩; obtain ⟨p2, rfl, hs2⟩ := hm2.wd; clear hm2; have HU2 := Lib.hid (fun n => RB.of_row (L := [#[.cells (stp sB none 0 none 0 ++ stp sC none 0 none 0) 36], p1.e]) (k := n) hs2 _ rfl); clear hs2))
    | (go_at_call 21; ((with_reducible refine (get_two _ _ (HU2.out _)).mono ?_); rintro e w2 hg; obtain ⟨gb, go, gc, gy, gz, rfl, hy, hz, hst, x3, n3, rfl⟩ := hg.out; have HY := Lib.hid hy; have HZ := Lib.hid hz; have HS3 : Hid (StmsAt (wd w [x3, p2.e, #[.cells (stp sB none 0 none 0 ++ stp sC none 0 none 0) 36], p1.e] n3) (some ⟨gb, go, none⟩) [gy, gz]) := Lib.hid hst; clear hy hz hst hg))
    | (go_at_call 19; ((with_reducible refine (HG1.out _ _ (HU1.out.more (more_cons (more_cons (more_cons (more_same _ _ _ _)))))).mono ?_); rintro x w2 hsr; obtain ⟨a4, c4, f4, d4, rfl, hat4, ⟨x4, n4, rfl⟩, hf1, hf2⟩ := hsr.out; have HAT4 : Hid (StpAt (wd w [x4, x3, p2.e, #[.cells (stp sB none 0 none 0 ++ stp sC none 0 none 0) 36], p1.e] n4) sA a4 f4 d4) := Lib.hid hat4; clear hat4 hf1 hf2 hsr)))
  have hca := fun (e : Array Obj) (n : Nat) => ((HU1.out.more (more_cons (more_cons (more_cons (more_cons (more_cons (more_cons (more_same _ _ _ _)))))))).run_str (P := Try.prog) 28 9 5 Try.underlying28 Try.underlying5 Try.underlying9 : (convert 28 9 u1).run Try.prog (wd w [e, sbk sA a4 c4 f4 d4 36, x4, x3, p2.e, #[.cells (stp sB none 0 none 0 ++ stp sC none 0 none 0) 36], p1.e] n) = .ok (.string ⟨#[3, 6, 1]⟩) _)
  have hcb := fun (e : Array Obj) (n : Nat) => (((HU2.out 0).more (more_cons (more_cons (more_cons (more_cons (more_same _ _ _ _)))))).run_str (P := Try.prog) 28 9 5 Try.underlying28 Try.underlying5 Try.underlying9 : (convert 28 9 u2).run Try.prog (wd w [e, sbk sA a4 c4 f4 d4 36, x4, x3, p2.e, #[.cells (stp sB none 0 none 0 ++ stp sC none 0 none 0) 36], p1.e] n) = .ok (.string ⟨#[2, 5, 4, 1, 10]⟩) _)
  have hq3 : ((str [3, 6, 1]).toList == [3, 6, 1]) = true := by rw [str_toList]; rfl
  have hq4 : ((str [2, 5, 4, 1, 10]).toList == [2, 5, 4, 1, 10]) = true := by rw [str_toList]; rfl
  have HL0 := Lib.hid (fun (e : Array Obj) (n : Nat) => load_more (P := Try.prog) (w' := wd w [e, sbk sA a4 c4 f4 d4 36, x4, x3, p2.e, #[.cells (stp sB none 0 none 0 ++ stp sC none 0 none 0) 36], p1.e] n) HS3.out.row 0 gy rfl (more_cons (more_cons (more_cons (more_same _ _ _ _)))))
  have HL1 := Lib.hid (fun (e : Array Obj) (n : Nat) => load_more (P := Try.prog) (w' := wd w [e, sbk sA a4 c4 f4 d4 36, x4, x3, p2.e, #[.cells (stp sB none 0 none 0 ++ stp sC none 0 none 0) 36], p1.e] n) HS3.out.row 1 gz rfl (more_cons (more_cons (more_cons (more_same _ _ _ _)))))
  have hl0 := fun (e : Array Obj) (n : Nat) => (HL0.out e n).1
  have hl1 := fun (e : Array Obj) (n : Nat) => (HL1.out e n).2
  rw [HY.out] at hl0
  rw [HZ.out] at hl1
  rw [show go + 0 * 22 = go by omega] at hl0
  rw [show go + 1 * 22 + 19 = go + 41 by omega] at hl1
  have hl1' := hl1
  rw [show go + 41 = go + 22 + 19 by omega] at hl1'
  have hy2 := (HS3.out.each gy (by simp))
  rw [HY.out] at hy2
  have HAY := Lib.hid hy2
  clear hy2
  have HS1 := Lib.hid (fun W g1 g2 => (show decide (sA = sA) = true from by decide) ▸ same_stp sA sA a4 a4 c4 c4 f4 f4 d4 d4 W g1 g2 (by decide) (by decide))
  have HS2 := Lib.hid (fun W g1 g2 => (show decide (sA = sB) = false from by decide) ▸ same_stp sA sB a4 gy.a c4 gy.cap f4 gy.f d4 gy.fc W g1 g2 (by decide) (by decide))
  refine wp_region_wd (by kernel_rfl) (by kernel_rfl) ?_
  repeat (go_big_quiet_step ((first | (go_at_call 14; with_reducible exact Calls.wd_of (HS1.out _ (HAT4.out.more (more_cons (more_cons (more_same _ _ _ _)))) (HAT4.out.more (more_cons (more_cons (more_same _ _ _ _)))))) | (go_at_call 14; with_reducible exact Calls.wd_of (HS2.out _ (HAT4.out.more (more_cons (more_cons (more_same _ _ _ _)))) (HAY.out.more (more_cons (more_cons (more_cons (more_same _ _ _ _))))))))))
  refine wpQuiet_nil ?_
  rintro _ ⟨mx, rfl⟩
  go_wp2
  go_ret
  exact ⟨rfl, more_wd _ _ _⟩
end Go.Proofs.Ytejokhgabcldhaa
/- ScriptPuts: any step, and any steps, have the bytes that the document says, or it is told why not; whether any two are one is told as it says. No condition. -/
namespace Go.Proofs.Ytejokhgabcldhaa
open Go.ChangeShapes Go.WideShapes Go.ChangeAt Go.RowKit
set_option linter.unusedVariables false
set_option linter.unusedSimpArgs false

set_option maxRecDepth 100000 in
set_option maxHeartbeats 6400000 in
theorem puts_walk (ad : Option Addr) (cap : Nat) (l : List Stm) (s : Stp) (a : Option Addr) (c : Nat) (f : Option Addr) (fc : Nat) (w : World) (h : StmsAt w ad l) (hx : StpAt w s a f fc) (hf : ∀ y ∈ l, StpFit y.s) (hfx : StpFit s) (hm : l.length ≤ maxLen) :
    Calls Try.prog 3 #[.slice ad l.length cap, .agg (stp s a c f fc)] w fun x w' => x = .returned (.bool true) ∧ More w w' := by
  have HA := Lib.hid h
  have HX := Lib.hid hx
  have HF := Lib.hid hf
  have HM := Lib.hid hm
  have HL1 := Lib.hid (fun W h => light_stms ad cap l 30 W h hf hm (by decide))
  have HL2 : Hid (∀ (b : Nat) W, StmsAt W (some ⟨b, 0, none⟩) [⟨s, a, c, f, fc⟩] → Calls Try.prog 10 #[.slice (some ⟨b, 0, none⟩) 1 1, .int .i64 1] W fun x w' => YesRet W w' x ((1 : Int) ≤ 1)) := Lib.hid (fun (b : Nat) W h => light_stms (some ⟨b, 0, none⟩) 1 [⟨s, a, c, f, fc⟩] 1 W h (by intro y hy; simp at hy; subst hy; exact hfx) (by show 1 ≤ maxLen; decide) (by decide))
  have hqr := hfx.r
  have HFX := Lib.hid hfx
  unfold maxLen at hm
  clear h hx hf hfx
  refine calls_wd ?_
  go_enter Try.func3, Try.ntmps3
  go_wp2_with (first
    | (go_at_call 10; ((with_reducible refine (HL1.out _ (HA.out.more (more_wd _ _ _))).mono ?_); rintro e w2 hy; obtain ⟨b1, rfl, ⟨x9, n9, rfl⟩, hb1⟩ := hy.out; have HB1 := Lib.hid hb1; have HX2 := Lib.hid (fun n => (stms_one (own_top w [x9, sbk s a c f fc 30] n _) (HX.out.more (more_wd _ _ _)) : StmsAt (wd w [sbk s a c f fc 30, x9, sbk s a c f fc 30] n) (some ⟨sz w.heap.size [x9.size, 1], 0, none⟩) [⟨s, a, c, f, fc⟩])); clear hb1 hy; cases b1))
    | (go_at_call 10; ((with_reducible refine (HL2.out _ _ (HX2.out _)).mono ?_); rintro e w2 hy; obtain ⟨b2, rfl, ⟨x8, n8, rfl⟩, -⟩ := hy.out; clear hy; cases b2))
    | (go_at_call 11; ((with_reducible refine (awake27 _).mono ?_); rintro e w1 ⟨rfl, x1, n1, rfl⟩)))
  all_goals try (go_ret; exact ⟨rfl, more_wd _ _ _⟩)
  have hl30 : (l.length : Int) ≤ 30 := HB1.out (by simp)
  have HFS : Hid (∀ z ∈ l.map Stm.s, StpFit z) := Lib.hid (by intro z hz; obtain ⟨y, hy, rfl⟩ := List.mem_map.1 hz; exact HF.out y hy)
  go_loopw [5] (fun i wr => ∃ (k : Nat) (m : Ext), k ≤ l.length ∧ i = .int .i64 k ∧ wr = wd w [m.e, sbk s a c f fc 30] m.n) (fun i _ => l.length - (intOf i).toNat)
  case atStart => exact ⟨0, ⟨_, n8⟩, Nat.zero_le _, rfl, by rw [wd_merge, wd_merge]⟩
  case round =>
    obtain ⟨k, m, hk, rfl, rfl⟩ := hrel
    by_cases hlt : k < l.length
    · obtain ⟨y, hy⟩ : ∃ y, l[k]? = some y := ⟨_, List.getElem?_eq_getElem hlt⟩
      obtain ⟨b, off, rfl, hb, hld⟩ := load_row (P := Try.prog) HA.out.row k y hy
      have hmem := List.mem_of_getElem? hy
      have HAT := Lib.hid (HA.out.each y hmem)
      have hfit := HF.out y hmem
      obtain ⟨P, hP⟩ : ∃ P, stpPut y.s = P := ⟨_, rfl⟩
      have HP := Lib.hid (fun W h => hP ▸ pst_any y.s y.a y.cap y.f y.fc W hfit h)
      have HR := Lib.hid (fun W h => hP ▸ rst_any y.s y.a y.cap y.f y.fc W hfit h)
      obtain ⟨D, hD⟩ : ∃ D, decide (y.s = s) = D := ⟨_, rfl⟩
      have HS := Lib.hid (fun W g1 g2 => hD ▸ same_stp y.s s y.a a y.cap c y.f f y.fc fc W g1 g2 hfit.r hqr)
      have HRS := Lib.hid (fun W g1 g2 => hD ▸ rsame_stp y.s s y.a a y.cap c y.f f y.fc fc W g1 g2 hfit.r hqr)
      clear hP hD hy hmem hfit
      obtain ⟨pl, pe⟩ := P
      dsimp only at HP HR
      go_wp2_with (first
        | (go_at_call 12; ((with_reducible refine (HP.out _ (HAT.out.more (more_wd _ _ _))).mono ?_); rintro e w2 ⟨u1, rfl, hm1⟩; obtain ⟨p1, rfl, hs1⟩ := hm1.wd; clear hm1; have HU1 := Lib.hid (RB.of_row (L := [m.e, sbk s a c f fc 30]) (k := p1.n) hs1 _ rfl); clear hs1))
        | (go_at_call 13; ((with_reducible refine (HR.out _ (HAT.out.more (more_wd _ _ _))).mono ?_); rintro e w2 ⟨u2, rfl, hm2⟩; obtain ⟨p2, rfl, hs2⟩ := hm2.wd; clear hm2; have HU2 := Lib.hid (RB.of_row (L := [p1.e, m.e, sbk s a c f fc 30]) (k := p2.n) hs2 _ rfl); clear hs2)))
      have hq1 := fun (e : Array Obj) (n : Nat) => (HU1.out.more (show More (wd w [p1.e, m.e, sbk s a c f fc 30] p1.n) (wd w [e, p2.e, p1.e, m.e, sbk s a c f fc 30] n) from more_cons (more_cons (more_same _ _ _ _)))).run_str (P := Try.prog) 28 9 5 Try.underlying28 Try.underlying5 Try.underlying9
      have hq2 := fun (e : Array Obj) (n : Nat) => (HU2.out.more (show More (wd w [p2.e, p1.e, m.e, sbk s a c f fc 30] p2.n) (wd w [e, p2.e, p1.e, m.e, sbk s a c f fc 30] n) from more_cons (more_same _ _ _ _))).run_str (P := Try.prog) 28 9 5 Try.underlying28 Try.underlying5 Try.underlying9
      refine wp_region_wd (by kernel_rfl) (by kernel_rfl) ?_
      repeat (go_big_quiet_step ((first | (go_at_call 14; with_reducible exact Calls.wd_of (HS.out _ (HAT.out.more (more_wd _ _ _)) (HX.out.more (more_wd _ _ _)))) | (go_at_call 15; with_reducible exact Calls.wd_of (HRS.out _ (HAT.out.more (more_wd _ _ _)) (HX.out.more (more_wd _ _ _)))))))
      refine wpQuiet_nil ?_
      rintro _ ⟨mx, rfl⟩
      go_wp2
      go_roundw
      case rel => exact ⟨k + 1, ⟨_, mx.n⟩, by omega, by go_num, by rw [wd_merge, wd_merge, wd_merge]⟩
      case measure => simp [intOf]; omega
    · have HOWN := Lib.hid (fun W h => own_any ad cap l W h (by omega))
      obtain ⟨P, hP⟩ : ∃ P, stpsPut (l.map Stm.s) = P := ⟨_, rfl⟩
      have HPP := Lib.hid (fun a' c' W h => hP ▸ putstms_any a' c' l W h HF.out HM.out)
      have HPR := Lib.hid (fun W h => hP ▸ rputstms_any ad cap l W h HF.out HM.out)
      clear hP
      obtain ⟨pl, pe⟩ := P
      dsimp only at HPP HPR
      go_wp2_with (first
        | (go_at_call 17; ((with_reducible refine (HOWN.out _ (HA.out.more (more_wd _ _ _))).mono ?_); rintro e w2 hr; obtain ⟨a3, c3, rfl, hs3, ⟨x3, n3, rfl⟩⟩ := hr.out; have HS3 : Hid (StmsAt (wd w [x3, m.e, sbk s a c f fc 30] n3) a3 l) := Lib.hid hs3; clear hs3 hr))
        | (go_at_call 16; ((with_reducible refine (HPP.out _ _ _ HS3.out).mono ?_); rintro e w2 ⟨u1, rfl, hm1⟩; obtain ⟨p1, rfl, hs1⟩ := hm1.wd; clear hm1; have HU1 := Lib.hid (RB.of_row (L := [x3, m.e, sbk s a c f fc 30]) (k := p1.n) hs1 _ rfl); clear hs1))
        | (go_at_call 18; ((with_reducible refine (HPR.out _ (HA.out.more (more_wd _ _ _))).mono ?_); rintro e w2 ⟨u2, rfl, hm2⟩; obtain ⟨p2, rfl, hs2⟩ := hm2.wd; clear hm2; have HU2 := Lib.hid (RB.of_row (L := [p1.e, x3, m.e, sbk s a c f fc 30]) (k := p2.n) hs2 _ rfl); clear hs2; have hq1 := fun (n : Nat) => (HU1.out.more (show More (wd w [p1.e, x3, m.e, sbk s a c f fc 30] p1.n) (wd w [p2.e, p1.e, x3, m.e, sbk s a c f fc 30] n) from more_cons (more_same _ _ _ _))).run_str (P := Try.prog) 28 9 5 Try.underlying28 Try.underlying5 Try.underlying9; have hq2 := fun (n : Nat) => (HU2.out.more (more_same w [p2.e, p1.e, x3, m.e, sbk s a c f fc 30] p2.n n)).run_str (P := Try.prog) 28 9 5 Try.underlying28 Try.underlying5 Try.underlying9))
        | (go_at_call 11; ((with_reducible refine (awake27 _).mono ?_); rintro e w1 ⟨rfl, x1, n1, rfl⟩)))
      go_ret
      exact ⟨rfl, more_wd _ _ _⟩
end Go.Proofs.Ytejokhgabcldhaa
