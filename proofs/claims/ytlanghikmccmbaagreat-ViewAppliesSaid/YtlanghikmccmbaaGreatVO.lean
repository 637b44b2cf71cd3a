/- law 36, the document's Apply: the walk. -/
import Derived.Test.YtlanghikmccmbaaGreatVN
import Derived.Test.YtlanghikmccmbaaGreatVD
import Derived.Test.YtlanghikmccmbaaGreatVL
import Derived.Test.YtlanghikmccmbaaGreatMH
import Derived.Test.YtlanghikmccmbaaGreatME
namespace Go.Proofs.YtlanghikmccmbaaGreat
open Go.ChangeShapes Go.WideShapes Go.ChangeAt Go.RowKit
set_option linter.unusedVariables false
set_option linter.unusedSimpArgs false
/-- What a batch makes of a view, by the document. -/
def applyR (v : Vw) (b : Bat) : Vw × Int :=
  if viewCheck v ≠ 0 then (v, viewCheck v) else if batCheck b ≠ 0 then (v, batCheck b) else if b.base < v.next then (v, 16)
  else if 4096 < (foldR b.base v.rows b.recs).length then (v, 9) else (⟨b.base + b.count, foldR b.base v.rows b.recs⟩, 0)
structure ApRet (w w' : World) (x : Ending) (g : Vw × Int) : Prop where
  out : ∃ a cap, x = .returned (.tuple #[.agg #[.int .i64 g.1.next, .slice a g.1.rows.length cap], .int .i64 g.2]) ∧ VRowsAt w' a g.1.rows ∧ More w w' ∧ (g.2 = 0 → From w.heap.size a g.1.rows)
theorem batCheck_ok {b : Bat} (h : batCheck b = 0) : batNum b = 0 ∧ chk (-1) b.count b.recs = 0 := by
  unfold batCheck at h
  split at h
  · next h1 => exact absurd h h1
  · next h1 =>
    split at h
    · next h2 => exact absurd h h2
    · next h2 => exact ⟨by omega, by omega⟩
theorem from_row2 {α : Type} {B : Nat} {S : List Nat} {e : Array Obj} {E : TypeId} {size : Nat} {a : Option Addr} {n cap : Nat} {xs : List Value} {l : List α} (h : rowIn B S e E size (.slice a n cap) n xs) (hl : l.length = n) : From (sz B S) a l := fun hne => by
  rcases rowIn_look h with ⟨h1, rfl, _⟩ | ⟨j, c, h1, _⟩
  · exact absurd (List.eq_nil_of_length_eq_zero hl) hne
  · cases h1; exact ⟨_, _, rfl, by unfold at'; omega⟩
theorem vrows_n {w : World} {L : List (Array Obj)} {n : Nat} {a : Option Addr} {l : List VRow} (h : VRowsAt (wd w L n) a l) (k : Nat) : VRowsAt (wd w L k) a l := ⟨h.out⟩
theorem rnext_any (b : Bat) (a : Option Addr) (n cap : Nat) (w : World) (h0 : 0 ≤ b.base) (h1 : b.base ≤ 4611686018427387903) (h2 : 1 ≤ b.count) (h3 : b.count ≤ 32) :
    Calls Tryz.prog 33 #[.agg #[.int .i64 b.base, .int .i64 b.count, .int .i64 b.producer, .int .i64 b.epoch, .int .i64 b.seq, .slice a n cap]] w fun x w' => x = .returned (.int .i64 (b.base + b.count)) ∧ More w w' := by
  obtain ⟨b0, b1, b2, b3, b4, recs⟩ := b
  dsimp only at *
  refine calls_wd ?_
  go_enter Tryz.func33, Tryz.ntmps33
  go_wp2
  go_ret
  exact ⟨by go_num, more_wd _ _ _⟩
abbrev vblk (nx : Int) (a : Option Addr) (n cap : Nat) : Array Obj := #[.cells #[.int .i64 nx, .slice a n cap] 24]
abbrev bblk (b0 b1 b2 b3 b4 : Int) (a : Option Addr) (n cap : Nat) : Array Obj := #[.cells #[.int .i64 b0, .int .i64 b1, .int .i64 b2, .int .i64 b3, .int .i64 b4, .slice a n cap] 27]
set_option maxRecDepth 100000 in
set_option maxHeartbeats 6400000 in
theorem rapply_any (v : Vw) (a : Option Addr) (cap : Nat) (b : Bat) (ba : Option Addr) (bc : Nat) (w : World) (hr : VRowsAt w a v.rows) (hf : ∀ x ∈ v.rows, x.key.length ≤ maxLen ∧ x.value.length ≤ maxLen) (hl : v.rows.length ≤ maxLen) (hb : RecsAt w ba b.recs) (hbl : b.recs.length ≤ maxLen) :
    Calls Tryz.prog 10 #[.agg #[.int .i64 v.next, .slice a v.rows.length cap], .agg #[.int .i64 b.base, .int .i64 b.count, .int .i64 b.producer, .int .i64 b.epoch, .int .i64 b.seq, .slice ba b.recs.length bc]] w fun x w' => ApRet w w' x (applyR v b) := by
  obtain ⟨i0, hi, hz0, hz1, hz2⟩ := info_parts info_rrow2
  have HVC := Lib.hid (fun W hm => rvcheck_any v a cap W (hr.more (w' := W) hm) hf hl)
  have HBC := Lib.hid (fun W hm => rcheck_bat b ba bc W (hb.more (w' := W) hm) hbl)
  have HR := Lib.hid hr
  have HB := Lib.hid hb
  have HAP : Hid (applyR v b = if viewCheck v ≠ 0 then (v, viewCheck v) else if batCheck b ≠ 0 then (v, batCheck b) else if b.base < v.next then (v, 16)
    else if 4096 < (foldR b.base v.rows b.recs).length then (v, 9) else (⟨b.base + b.count, foldR b.base v.rows b.recs⟩, 0)) := Lib.hid rfl
  have HVO := Lib.hid (fun h => viewCheck_ok (v := v) h)
  have HBO := Lib.hid (fun h => batCheck_ok (b := b) h)
  have HNX := Lib.hid (fun W h0 h1 h2 h3 => rnext_any b ba b.recs.length bc W h0 h1 h2 h3)
  have HNO := Lib.hid (fun h => batNum_ok (b := b) h)
  have HCA := Lib.hid (fun h => chk_all b.recs (-1) b.count h)
  clear hr hf hb
  obtain ⟨nx, rows⟩ := v
  obtain ⟨b0, b1, b2, b3, b4, recs⟩ := b
  dsimp only at *
  obtain ⟨N, hN⟩ : ∃ N, rows.length = N := ⟨_, rfl⟩
  obtain ⟨M, hM⟩ : ∃ M, recs.length = M := ⟨_, rfl⟩
  rw [hN] at hl HVC HVO ⊢
  rw [hM] at hbl HBC HNX HNO ⊢
  have HN := Lib.hid hN
  have HM := Lib.hid hM
  clear hN hM
  obtain ⟨E, hE⟩ : ∃ E, viewCheck ⟨nx, rows⟩ = E := ⟨_, rfl⟩
  obtain ⟨F, hF⟩ : ∃ F, batCheck ⟨b0, b1, b2, b3, b4, recs⟩ = F := ⟨_, rfl⟩
  rw [hE] at HVC HVO HAP
  rw [hF] at HBC HBO HAP
  obtain ⟨G, hG⟩ : ∃ G, applyR ⟨nx, rows⟩ ⟨b0, b1, b2, b3, b4, recs⟩ = G := ⟨_, rfl⟩
  rw [hG] at HAP ⊢
  clear hE hF hG
  refine calls_wd ?_
  go_enter Tryz.func10, Tryz.ntmps10
  by_cases he : E = 0
  · subst he
    by_cases hf : F = 0
    · subst hf
      by_cases hlt : b0 < nx
      · have HG : Hid (G = (⟨nx, rows⟩, 16)) := Lib.hid (by rw [HAP.out, if_neg (by simp), if_neg (by simp), if_pos hlt])
        go_wp2_with (first | (go_at_call 16; ((with_reducible refine (HVC.out _ (more_wd _ _ _)).mono ?_); rintro e w1 ⟨rfl, x1, n1, rfl⟩)) | (go_at_call 32; ((with_reducible refine (HBC.out _ (more_wd _ _ _)).mono ?_); rintro e w1 ⟨rfl, x2, n2, rfl⟩)))
        refine bodyPost_ret (v := .tuple #[.agg #[.int .i64 nx, .slice a N cap], .int .i64 16]) (by simp [results, Tryz.results10, go_sem]) rfl ⟨a, cap, by rw [HG.out, HN.out], by rw [HG.out]; exact HR.out.more (more_wd _ _ _), more_wd _ _ _, by rw [HG.out]; intro h; cases h⟩
      · have hq := HNO.out (HBO.out rfl).1
        have hv := HVO.out rfl
        obtain ⟨p1, p2, p3, p4, -, -, -, -, -, -, hM32⟩ := hq
        have hN4 : N ≤ 4096 := by have := hv.2.2.1; omega
        have HCK := Lib.hid (HCA.out (HBO.out rfl).2)
        have HRD : Hid (∀ W, More w W → RdRow W 4 (.slice a N cap) N (rows.flatMap vrCells)) := Lib.hid (fun W hm => by
          have := (HR.out.more hm).rd vrCells_len cap
          rwa [HN.out] at this)
        have HONEC : Hid (∀ (M : List VRow), ∀ u ∈ M.flatMap vrCells, u.oneCell' = true) := Lib.hid (fun M u hu => by
          obtain ⟨x, _, hx⟩ := List.mem_flatMap.1 hu
          simp only [vrCells, List.mem_cons, List.not_mem_nil, or_false] at hx
          rcases hx with rfl | rfl | rfl | rfl <;> rfl)
        have HG9 := Lib.hid (fun (h : 4096 < (foldR b0 rows recs).length) => show G = (⟨nx, rows⟩, 9) by rw [HAP.out, if_neg (by simp), if_neg (by simp), if_neg hlt, if_pos h])
        have HG0 := Lib.hid (fun (h : ¬ 4096 < (foldR b0 rows recs).length) => show G = (⟨b0 + b1, foldR b0 rows recs⟩, 0) by rw [HAP.out, if_neg (by simp), if_neg (by simp), if_neg hlt, if_neg h])
        clear HVO HBO HNO HCA HAP hv
        go_wp2_with (first
          | (go_at_call 16; ((with_reducible refine (HVC.out _ (more_wd _ _ _)).mono ?_); rintro e w1 ⟨rfl, x1, n1, rfl⟩))
          | (go_at_call 32; ((with_reducible refine (HBC.out _ (more_wd _ _ _)).mono ?_); rintro e w1 ⟨rfl, x2, n2, rfl⟩))
          | (go_at_call 33; ((with_reducible refine (HNX.out _ p3 p4 p1 p2).mono ?_); rintro e w1 ⟨rfl, x3, n3, rfl⟩))
          | (at_builtin; refine wp_append_src rfl _ _ _ rfl 50 i0 _ 4 48 Tryz.underlying22 hi hz0 hz1 hz2 rfl (by decide) (m := #[]) (wd_empty _ _ _).symm (.slice none 0 0) 0 [] rfl (rowIn_nil _ _ _ _ _) _ N _ rfl (HRD.out _ (more_wd _ _ _)) (HONEC.out _) (by unfold maxLen; omega) (by omega) ?_; intro v9 m9 hr9; obtain ⟨a9, c9, rfl⟩ := rowIn_slice hr9; simp only [Nat.zero_add, List.nil_append] at hr9; have HR9 := Lib.hid hr9; clear hr9))
        clear HVC HBC HNX HRD
        go_loopw [9] (fun i wr => ∃ (k n' : Nat) (m : Ext) (a' : Option Addr) (c' : Nat) (R : List VRow), k ≤ M ∧ n' ≤ N + k ∧ i = .int .i64 k ∧ wr = wd w [m.e, vblk (b0 + b1) a' n' c', x3, x2, x1, vblk 0 none 0 0, bblk b0 b1 b2 b3 b4 ba M bc, vblk nx a N cap] m.n ∧
          Hid (R = foldR b0 rows (recs.take k) ∧ R.length = n' ∧ (n' ≤ c' ∧ c' ≤ maxLen) ∧ VRowsAt (wd w [m.e, vblk (b0 + b1) a' n' c', x3, x2, x1, vblk 0 none 0 0, bblk b0 b1 b2 b3 b4 ba M bc, vblk nx a N cap] m.n) a' R ∧ From (sz w.heap.size [1, x3.size, x2.size, x1.size, 1, 1, 1]) a' R)) (fun i _ => M - (intOf i).toNat)
        case atStart => exact ⟨0, N, m9, a9, c9, rows, Nat.zero_le _, Nat.le_refl _, rfl, rfl, Lib.hid ⟨by simp [foldR], HN.out, row_cap HR9.out, by refine vrows_shift (hS := ?_) (vrows_of_row (L := [_, _, _, _, _, _, _]) HN.out HR9.out 0) (from_row2 HR9.out HN.out) (by simp [shape, sz]); rfl, from_row2 HR9.out HN.out⟩⟩
        case round =>
          obtain ⟨k, n', m, a', c', R, hkM, hn', rfl, rfl, HI⟩ := hrel
          by_cases hk : k < M
          · obtain ⟨x, hx⟩ : ∃ x, recs[k]? = some x := ⟨_, List.getElem?_eq_getElem (by rw [HM.out]; exact hk)⟩
            obtain ⟨bb, off, rfl, hbb, c0, c1, c2, c3, c4, c5⟩ := recs_at HB.out k x hx
            have hck := recCheck_ok (HCK.out x (List.mem_of_getElem? hx))
            obtain ⟨⟨d0, d1, _, _⟩, _⟩ := hck
            have HFS := Lib.hid (foldR_snoc b0 rows recs k x hx)
            have HLE := Lib.hid (oneR_len R x (b0 + x.delta))
            rw [← HI.out.1] at HFS
            clear hx
            obtain ⟨xd, xt, xk, xkey, xdead, xval⟩ := x
            simp only at c0 c1 c2 c3 c4 c5 d0 d1
            have HONE := Lib.hid (fun (W : World) (n : Nat) (hW : W = wd w [m.e, vblk (b0 + b1) a' n' c', x3, x2, x1, vblk 0 none 0 0, bblk b0 b1 b2 b3 b4 (some ⟨bb, off, none⟩) M bc, vblk nx a N cap] n) =>
              one_any R xd xt xk xdead xkey xval (b0 + xd) a' c' W (by rw [hW]; exact vrows_n HI.out.2.2.2.1 n) (by rw [HI.out.2.1]; omega) (by rw [HI.out.2.1]; exact HI.out.2.2.1.1) HI.out.2.2.1.2)
            rw [HI.out.2.1] at HONE
            obtain ⟨R2, hR2⟩ : ∃ R2, oneR R ⟨xd, xt, xk, xkey, xdead, xval⟩ (b0 + xd) = R2 := ⟨_, rfl⟩
            rw [hR2] at HFS HLE HONE
            have hle : R2.length ≤ n' + 1 := by have := HLE.out; rw [HI.out.2.1] at this; exact this
            clear hR2 HLE
            go_wp2
            refine wp_region_mixg (fun (s : Ext) => wd w [s.e, vblk (b0 + b1) a' n' c', x3, x2, x1, vblk 0 none 0 0, bblk b0 b1 b2 b3 b4 (some ⟨bb, off, none⟩) M bc, vblk nx a N cap] s.n) (⟨m.e, m.n + 1⟩) [0, 1, 2, 3, 4, 5, 6, 7, 8, 9, 10, 11, 12, 13, 14, 15] [16, 17] 18 _ [true, true, true, true, true, true, true, true, true, true, true, true, true, true, true, true] [false, false, false, false, false, false, false, false, false, false, false, false, false, false, false, false, true, true] rfl rfl ⟨rfl, rfl⟩ (by kernel_rfl) (by kernel_rfl) (fun _ _ d _ _ h => by cases d <;> exact h) ?_
            apply Exists.intro
            refine ⟨?_, ?_⟩
            · intro E
              simp only [sel_t, sel_f, sel_n]
              repeat (go_big_quiet_step ((fail)))
              exact wpQuiet_nil rfl
            simp only [sel_t, sel_f, sel_n, loudR_cons, loudR_nil]
            go_wp2_with (first | (go_at_call 34; ((with_reducible refine (HONE.out _ _ rfl).mono ?_); rintro e w2 hs; obtain ⟨a8, c8, rfl, hrows, ⟨x8, n8, rfl⟩, hcaps, hfr⟩ := hs.out; rw [wd_plus, wd_merge] at hrows; have HRW := Lib.hid hrows; have HCP := Lib.hid hcaps; have HFR := Lib.hid hfr; clear hs hrows hcaps hfr)))
            refine ⟨⟨⟨m.e ++ x8, n8⟩, by rw [wd_merge]⟩, ?_⟩
            rw [loudR_cons]
            go_wp2
            refine ⟨⟨⟨m.e ++ x8, n8⟩, by rw [wd_merge]⟩, ?_⟩
            rw [loudR_nil]
            go_wp2
            refine ⟨trivial, ?_⟩
            go_wp2
            go_roundw
            case rel =>
              refine ⟨k + 1, R2.length, ⟨m.e ++ x8, n8⟩, a8, c8, R2, by omega, by omega, by go_num, by rw [wd_merge], Lib.hid ⟨HFS.out.symm, rfl, HCP.out, ?_, ?_⟩⟩
              · refine vrows_shift (hS := ?_) HRW.out (HFR.out _ (by rw [wd_size]; simp only [shape, sz]; simp) HI.out.2.2.2.2) (by simp [shape, sz])
                rfl
              · exact HFR.out _ (by rw [wd_size]; simp only [shape, sz]; simp) HI.out.2.2.2.2
            case measure => simp [intOf]; omega
          · obtain rfl : k = M := by omega
            obtain ⟨hR, hRn, hcc, hRA, hRF⟩ := HI.out
            rw [List.take_of_length_le (by rw [HM.out]; exact Nat.le_refl _)] at hR
            rw [← hR] at HG9 HG0
            rw [hRn] at HG9 HG0
            have HRA := Lib.hid hRA
            have HRF := Lib.hid hRF
            have HRN := Lib.hid hRn
            clear hR hRn hRA hRF HI
            by_cases h9 : 4096 < n'
            · have HG := Lib.hid (HG9.out h9)
              go_wp2
              refine bodyPost_ret (v := .tuple #[.agg #[.int .i64 nx, .slice a N cap], .int .i64 9]) (by simp [results, Tryz.results10, go_sem]) rfl ⟨a, cap, by rw [HG.out, HN.out], by rw [HG.out]; exact HR.out.more (more_wd _ _ _), more_wd _ _ _, by rw [HG.out]; intro h; cases h⟩
            · have HG := Lib.hid (HG0.out h9)
              go_wp2
              refine bodyPost_ret (v := .tuple #[.agg #[.int .i64 (b0 + b1), .slice a' n' c'], .int .i64 0]) (by simp [results, Tryz.results10, go_sem]) rfl ⟨a', c', by rw [HG.out, ← HRN.out], ?_, more_wd _ _ _, by rw [HG.out]; intro _; exact HRF.out.le (sz_ge _ _)⟩
              rw [HG.out]
              refine vrows_shift (hS := ?_) HRA.out HRF.out (by simp [shape, sz])
              rfl
    · have HG : Hid (G = (⟨nx, rows⟩, F)) := Lib.hid (by rw [HAP.out, if_neg (by simp), if_pos hf])
      have hfb : (F == 0) = false := by rw [beq_eq_false_iff_ne]; exact hf
      go_wp2_with (first | (go_at_call 16; ((with_reducible refine (HVC.out _ (more_wd _ _ _)).mono ?_); rintro e w1 ⟨rfl, x1, n1, rfl⟩)) | (go_at_call 32; ((with_reducible refine (HBC.out _ (more_wd _ _ _)).mono ?_); rintro e w1 ⟨rfl, x2, n2, rfl⟩)))
      refine bodyPost_ret (v := .tuple #[.agg #[.int .i64 nx, .slice a N cap], .int .i64 F]) (by simp [results, Tryz.results10, go_sem]) rfl ⟨a, cap, by rw [HG.out, HN.out], by rw [HG.out]; exact HR.out.more (more_wd _ _ _), more_wd _ _ _, by rw [HG.out]; intro h; exact absurd h hf⟩
  · have HG : Hid (G = (⟨nx, rows⟩, E)) := Lib.hid (by rw [HAP.out, if_pos he])
    have heb : (E == 0) = false := by rw [beq_eq_false_iff_ne]; exact he
    go_wp2_with (first | (go_at_call 16; ((with_reducible refine (HVC.out _ (more_wd _ _ _)).mono ?_); rintro e w1 ⟨rfl, x1, n1, rfl⟩)) | (go_at_call 32; ((with_reducible refine (HBC.out _ (more_wd _ _ _)).mono ?_); rintro e w1 ⟨rfl, x2, n2, rfl⟩)))
    refine bodyPost_ret (v := .tuple #[.agg #[.int .i64 nx, .slice a N cap], .int .i64 E]) (by simp [results, Tryz.results10, go_sem]) rfl ⟨a, cap, by rw [HG.out, HN.out], by rw [HG.out]; exact HR.out.more (more_wd _ _ _), more_wd _ _ _, by rw [HG.out]; intro h; exact absurd h he⟩
end Go.Proofs.YtlanghikmccmbaaGreat
