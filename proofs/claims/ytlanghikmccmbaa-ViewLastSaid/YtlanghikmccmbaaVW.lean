/- law 36, the program's Build: the walk. -/
import Derived.Test.YtlanghikmccmbaaVU
import Derived.Test.YtlanghikmccmbaaVP
namespace Go.Proofs.Ytlanghikmccmbaa
open Go.ChangeShapes Go.WideShapes Go.ChangeAt Go.RowKit
set_option linter.unusedVariables false
set_option linter.unusedSimpArgs false
theorem applyP_ok {v : Vw} {b : Bat} {g : Vw} (h : applyR v b = (g, 0)) : applyP v b = (g, 0) := by unfold applyP; rw [h, if_pos rfl]
theorem applyP_no {v : Vw} {b : Bat} {g : Vw} {e : Int} (h : applyR v b = (g, e)) (he : e ≠ 0) : applyP v b = (Vw.zero, e) := by unfold applyP; rw [h, if_neg he]
set_option maxRecDepth 100000 in
set_option maxHeartbeats 3200000 in
theorem pbuild_any (ad : Option Addr) (cap : Nat) (l : List Btm) (w : World) (h : BatsAt w ad l) (hf : ∀ x ∈ l, x.b.recs.length ≤ maxLen) (hm : l.length ≤ maxLen) :
    Calls Try.prog 28 #[.slice ad l.length cap] w fun x w' => VwRet w w' x (buildG Vw.zero (l.map Btm.b)) := by
  have HA := Lib.hid h
  have HF := Lib.hid hf
  have HS := Lib.hid small_apply
  unfold maxLen at hm
  clear h hf
  refine calls_wd ?_
  go_enter Try.func28, Try.ntmps28
  go_wp2
  go_loopw [11] (fun i wr => ∃ (k n : Nat) (m : Ext) (a : Option Addr) (c : Nat) (v : Vw), k ≤ l.length ∧ i = .int .i64 k ∧ wr = wd w [m.e, pblk v.next a n c, pblk 0 none 0 0] m.n ∧
    Hid (buildG v ((l.drop k).map Btm.b) = buildG Vw.zero (l.map Btm.b) ∧ v.rows.length = n ∧ Small v ∧ VRowsAt (wd w [m.e, pblk v.next a n c, pblk 0 none 0 0] m.n) a v.rows ∧ From (sz w.heap.size [1, 1]) a v.rows)) (fun i _ => l.length - (intOf i).toNat)
  case atStart => exact ⟨0, 0, ⟨#[], _⟩, none, 0, Vw.zero, Nat.zero_le _, rfl, by rw [wd_empty]; rfl, Lib.hid ⟨by simp, rfl, ⟨by simp [Vw.zero], by decide⟩, RowAt.nil _, From.nil _ _⟩⟩
  case round =>
    obtain ⟨k, n, m, a, c, v, hk, rfl, rfl, HI⟩ := hrel
    by_cases hlt : k < l.length
    · obtain ⟨x, hx⟩ : ∃ x, l[k]? = some x := ⟨_, List.getElem?_eq_getElem hlt⟩
      obtain ⟨bb, off, rfl, hb, c0, c1, c2, c3, c4, c5⟩ := bats_at HA.out k x hx
      have hmem := List.mem_of_getElem? hx
      have HAT := Lib.hid (HA.out.each x hmem)
      have HFX := Lib.hid (HF.out x hmem)
      have HAP := Lib.hid (fun (W : World) (hW : More (wd w [m.e, pblk v.next a n c, pblk 0 none 0 0] m.n) W) (hm : More w W) =>
        papply_any v a c x.b x.a x.cap W (HI.out.2.2.2.1.more hW) HI.out.2.2.1.1 HI.out.2.2.1.2 (HAT.out.more hm) HFX.out)
      rw [HI.out.2.1] at HAP
      have HD : Hid (buildG v ((l.drop k).map Btm.b) = if (applyR v x.b).2 ≠ 0 then (Vw.zero, (applyR v x.b).2) else buildG (applyR v x.b).1 ((l.drop (k + 1)).map Btm.b)) := Lib.hid (by rw [drop_at l k x hx]; rfl)
      obtain ⟨⟨g, ge⟩, hG⟩ : ∃ g, applyR v x.b = g := ⟨_, rfl⟩
      clear hx hmem
      by_cases hge : ge = 0
      · subst hge
        rw [applyP_ok hG] at HAP
        have HG := Lib.hid hG
        clear hG
        obtain ⟨⟨b0, b1, b2, b3, b4, rs⟩, xa, xc⟩ := x
        dsimp only at HAT HFX HAP c0 c1 c2 c3 c4 c5
        go_wp2_with (first | (go_at_call 29; ((with_reducible refine (HAP.out _ (more_top _ _ _ _ _) (more_wd _ _ _)).mono ?_); rintro e9 w9 hs; obtain ⟨a9, c9, rfl, hrows, ⟨x9, n9, rfl⟩, hfr⟩ := hs.out; rw [wd_plus] at hrows; have HRW := Lib.hid hrows; have HFR := Lib.hid hfr; clear hs hrows hfr)))
        go_roundw
        case rel =>
          have hF9 : From (sz w.heap.size [1, 1]) a9 g.rows := (HFR.out trivial).le (by rw [wd_size]; simp only [shape, sz]; first | (simp; done) | (simp; omega))
          have h1 := HRW.out.more (more_top w _ _ n9 (pblk g.next a9 g.rows.length c9))
          rw [wd_merge, wd_merge, wd_merge] at h1
          exact ⟨k + 1, g.rows.length, ⟨_, n9⟩, a9, c9, g, by omega, by go_num, by rw [wd_merge, wd_merge, wd_merge], Lib.hid ⟨by rw [← HI.out.1, HD.out, if_neg (by rw [HG.out]; simp), HG.out], rfl, by have := HS.out v ⟨b0, b1, b2, b3, b4, rs⟩ HI.out.2.2.1; rw [HG.out] at this; exact this, vrows_shift (by rfl) h1 hF9 rfl, hF9⟩⟩
        case measure => simp [intOf]; omega
      · rw [applyP_no hG hge] at HAP
        have HG := Lib.hid hG
        clear hG
        have hgb : (ge == 0) = false := by rw [beq_eq_false_iff_ne]; exact hge
        have hgb2 : (ge != 0) = true := by rw [bne_iff_ne]; exact hge
        obtain ⟨⟨b0, b1, b2, b3, b4, rs⟩, xa, xc⟩ := x
        dsimp only at HAT HFX HAP c0 c1 c2 c3 c4 c5
        have hz1 : Vw.zero.next = 0 := rfl
        have hz2 : Vw.zero.rows.length = 0 := rfl
        go_wp2_with (first | (go_at_call 29; ((with_reducible refine (HAP.out _ (more_top _ _ _ _ _) (more_wd _ _ _)).mono ?_); rintro e9 w9 hs; obtain ⟨a9, c9, rfl, hrows, ⟨x9, n9, rfl⟩, hfr⟩ := hs.out; clear hs hrows hfr)))
        refine bodyPost_ret (v := .tuple #[.agg #[.int .i64 0, .slice none 0 0], .int .i64 ge]) (by simp [results, Try.results28, go_sem]) rfl ?_
        rw [← HI.out.1, HD.out, if_pos (by rw [HG.out]; exact hge), HG.out]
        exact ⟨none, 0, rfl, RowAt.nil _, more_wd _ _ _, From.nil _ _⟩
    · obtain rfl : k = l.length := by omega
      obtain ⟨hG, hn, hsm, hra, hfr⟩ := HI.out
      rw [List.drop_of_length_le (Nat.le_refl _)] at hG
      have hG2 : (v, (0 : Int)) = buildG Vw.zero (l.map Btm.b) := hG
      have HG := Lib.hid hG2
      have HN := Lib.hid hn
      have HRA := Lib.hid hra
      have HRF := Lib.hid hfr
      clear hG hG2 hn hsm hra hfr HI
      go_wp2
      refine bodyPost_ret (v := .tuple #[.agg #[.int .i64 v.next, .slice a n c], .int .i64 0]) (by simp [results, Try.results28, go_sem]) rfl ?_
      rw [← HG.out]
      refine ⟨a, c, by rw [HN.out], ?_, more_wd _ _ _, HRF.out.le (sz_ge _ _)⟩
      refine vrows_shift (hS := ?_) HRA.out HRF.out (by simp [shape, sz])
      rfl
end Go.Proofs.Ytlanghikmccmbaa
