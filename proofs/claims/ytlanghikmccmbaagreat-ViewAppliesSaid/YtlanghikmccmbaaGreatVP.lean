/- law 36, the document's Build: the walk (UNDER WAY: ends in sorry). -/
import Derived.Test.YtlanghikmccmbaaGreatVO
import Derived.Test.YtlanghikmccmbaaGreatMI
import Derived.Test.YtlanghikmccmbaaGreatMF
namespace Go.Proofs.YtlanghikmccmbaaGreat
open Go.ChangeShapes Go.WideShapes Go.ChangeAt Go.RowKit
set_option linter.unusedVariables false
set_option linter.unusedSimpArgs false
theorem cl2 (w : World) (y x z : Array Obj) (L : List (Array Obj)) (n : Nat) : ∃ s : Ext, wd w (y :: x :: z :: L) n = wd w (s.e :: L) s.n := ⟨⟨z ++ (x ++ y), n⟩, by rw [wd_merge3]⟩
theorem rowsA {w : World} {x c0 c1 z : Array Obj} {L L' : List (Array Obj)} {n n' k : Nat} {a : Option Addr} {l : List VRow} (h : VRowsAt (wd w (x :: c0 :: z :: L) n) a l) (hf : From (wd w (c0 :: z :: L) n').heap.size a l) (hc : c1.size = c0.size) (hS : shape L' = shape L) : VRowsAt (wd w ((z ++ (c1 ++ x)) :: L') k) a l := by
  rw [wd_size] at hf
  have h1 : VRowsAt (wd w (x :: c1 :: z :: L) k) a l := vrows_shift (by simp only [shape, hc]) h hf rfl
  rw [wd_merge3] at h1
  exact vrows_shift hS h1 (hf.le (by simp only [shape, sz]; omega)) rfl
theorem rowsX {w : World} {x c z : Array Obj} {L L' : List (Array Obj)} {n n' k : Nat} {a : Option Addr} {l : List VRow} (h : VRowsAt (wd w (x :: z :: L) n) a l) (hf : From (wd w (z :: L) n').heap.size a l) (hS : shape L' = shape L) : VRowsAt (wd w ((z ++ (x ++ c)) :: L') k) a l := by
  rw [wd_size] at hf
  have h1 : VRowsAt (wd w (c :: x :: z :: L) k) a l := h.more (more_top _ _ _ _ _)
  rw [wd_merge3] at h1
  exact vrows_shift hS h1 (hf.le (by simp only [shape, sz]; omega)) rfl
def buildG (v : Vw) : List Bat → Vw × Int
  | [] => (v, 0)
  | b :: l => if (applyR v b).2 ≠ 0 then (Vw.zero, (applyR v b).2) else buildG (applyR v b).1 l
def Small (v : Vw) : Prop := (∀ x ∈ v.rows, x.key.length ≤ maxLen ∧ x.value.length ≤ maxLen) ∧ v.rows.length ≤ maxLen
theorem oneR_mem {l : List VRow} {r : Rec} {o : Int} {x : VRow} (h : x ∈ oneR l r o) : x ∈ l ∨ x = rowOf r o := by
  have hw : ∀ y, y ∈ wo r.key l → y ∈ l := fun y hy => (List.mem_filter.1 hy).1
  unfold oneR at h
  split at h
  · exact .inl h
  · split at h
    · exact .inl (hw x h)
    · rcases List.mem_append.1 h with h | h
      · rcases List.mem_append.1 h with h | h
        · exact .inl (hw x (List.mem_of_mem_take h))
        · exact .inr (by simpa using h)
      · exact .inl (hw x (List.mem_of_mem_drop h))
theorem foldR_mem (base : Int) : ∀ (rs : List Rec) (l : List VRow) (x : VRow), x ∈ foldR base l rs → x ∈ l ∨ ∃ r ∈ rs, x = rowOf r (base + r.delta)
  | [], l, x, h => .inl h
  | r :: rs, l, x, h => by
    rcases foldR_mem base rs (oneR l r (base + r.delta)) x h with h1 | ⟨r', h1, h2⟩
    · rcases oneR_mem h1 with h2 | h2
      · exact .inl h2
      · exact .inr ⟨r, by simp, h2⟩
    · exact .inr ⟨r', by simp [h1], h2⟩
theorem small_apply (v : Vw) (b : Bat) (h : Small v) : Small (applyR v b).1 := by
  unfold applyR
  split
  · exact h
  · split
    · exact h
    · next hb =>
      split
      · exact h
      · split
        · exact h
        · next hlen =>
          have hb0 : batCheck b = 0 := Classical.byContradiction hb
          have hc := chk_all b.recs (-1) b.count (batCheck_ok hb0).2
          refine ⟨fun x hx => ?_, by show (foldR b.base v.rows b.recs).length ≤ maxLen; unfold maxLen; omega⟩
          rcases foldR_mem b.base b.recs v.rows x hx with h1 | ⟨r, h1, h2⟩
          · exact h.1 x h1
          · have h3 := (recCheck_ok (hc r h1)).2.1
            rw [h2]
            show r.key.length ≤ maxLen ∧ r.value.length ≤ maxLen
            unfold maxLen; omega
set_option maxRecDepth 100000 in
set_option maxHeartbeats 3200000 in
theorem rbuild_any (ad : Option Addr) (cap : Nat) (l : List Btm) (w : World) (h : BatsAt w ad l) (hf : ∀ x ∈ l, x.b.recs.length ≤ maxLen) (hm : l.length ≤ maxLen) :
    Calls Tryz.prog 12 #[.slice ad l.length cap] w fun x w' => VwRet w w' x (buildG Vw.zero (l.map Btm.b)) := by
  have HA := Lib.hid h
  have HF := Lib.hid hf
  have HS := Lib.hid small_apply
  unfold maxLen at hm
  clear h hf
  refine calls_wd ?_
  go_enter Tryz.func12, Tryz.ntmps12
  go_wp2
  go_loopw [5] (fun i wr => ∃ (k n : Nat) (m : Ext) (a : Option Addr) (c : Nat) (v : Vw), k ≤ l.length ∧ i = .int .i64 k ∧ wr = wd w [m.e, vblk v.next a n c, vblk 0 none 0 0] m.n ∧
    Hid (buildG v ((l.drop k).map Btm.b) = buildG Vw.zero (l.map Btm.b) ∧ v.rows.length = n ∧ Small v ∧ VRowsAt (wd w [m.e, vblk v.next a n c, vblk 0 none 0 0] m.n) a v.rows ∧ From (sz w.heap.size [1, 1]) a v.rows)) (fun i _ => l.length - (intOf i).toNat)
  case atStart => exact ⟨0, 0, ⟨#[], _⟩, none, 0, Vw.zero, Nat.zero_le _, rfl, by rw [wd_empty]; rfl, Lib.hid ⟨by simp, rfl, ⟨by simp [Vw.zero], by decide⟩, RowAt.nil _, From.nil _ _⟩⟩
  case round =>
    obtain ⟨k, n, m, a, c, v, hk, rfl, rfl, HI⟩ := hrel
    by_cases hlt : k < l.length
    · obtain ⟨x, hx⟩ : ∃ x, l[k]? = some x := ⟨_, List.getElem?_eq_getElem hlt⟩
      obtain ⟨bb, off, rfl, hb, c0, c1, c2, c3, c4, c5⟩ := bats_at HA.out k x hx
      have hmem := List.mem_of_getElem? hx
      have HAT := Lib.hid (HA.out.each x hmem)
      have HFX := Lib.hid (HF.out x hmem)
      have HAP := Lib.hid (fun (W : World) (hW : More (wd w [m.e, vblk v.next a n c, vblk 0 none 0 0] m.n) W) (hm : More w W) =>
        rapply_any v a c x.b x.a x.cap W (HI.out.2.2.2.1.more hW) HI.out.2.2.1.1 HI.out.2.2.1.2 (HAT.out.more hm) HFX.out)
      rw [HI.out.2.1] at HAP
      have HD : Hid (buildG v ((l.drop k).map Btm.b) = if (applyR v x.b).2 ≠ 0 then (Vw.zero, (applyR v x.b).2) else buildG (applyR v x.b).1 ((l.drop (k + 1)).map Btm.b)) := Lib.hid (by rw [drop_at l k x hx]; rfl)
      obtain ⟨⟨g, ge⟩, hG⟩ : ∃ g, applyR v x.b = g := ⟨_, rfl⟩
      rw [hG] at HAP
      clear hx hmem
      have HG := Lib.hid hG
      clear hG
      obtain ⟨⟨b0, b1, b2, b3, b4, rs⟩, xa, xc⟩ := x
      dsimp only at HAT HFX HAP c0 c1 c2 c3 c4 c5
      go_wp2
      refine wp_region_U (fun (s : Ext) => wd w [s.e, vblk v.next a n c, vblk 0 none 0 0] s.n) (⟨m.e, m.n + 1⟩) [0, 1, 2, 3, 4] (.alt (.one 5 (.alt (.one 6 (.alt (.one 7 (.alt (.one 8 (.one 9 (.one 10 (.one 11 .done)))) (.one 9 (.alt (.one 8 (.one 10 (.one 11 .done))) (.one 10 (.one 8 (.one 11 .done))))))) (.alt (.one 8 (.alt (.one 7 (.one 9 (.one 10 (.one 11 .done)))) (.one 9 (.one 7 (.one 10 (.one 11 .done)))))) (.one 9 (.alt (.one 7 (.alt (.one 8 (.one 10 (.one 11 .done))) (.one 10 (.one 8 (.one 11 .done))))) (.one 8 (.one 7 (.one 10 (.one 11 .done))))))))) (.one 9 (.one 6 (.alt (.one 7 (.alt (.one 8 (.one 10 (.one 11 .done))) (.one 10 (.one 8 (.one 11 .done))))) (.one 8 (.one 7 (.one 10 (.one 11 .done))))))))) (.one 9 (.one 5 (.one 6 (.alt (.one 7 (.alt (.one 8 (.one 10 (.one 11 .done))) (.one 10 (.one 8 (.one 11 .done))))) (.one 8 (.one 7 (.one 10 (.one 11 .done))))))))) [true, true, true, true, true] (wd_drew _ _ _) rfl (by kernel_rfl) (by kernel_rfl) (fun _ _ d _ _ h => by cases d <;> exact h) ?_
      apply Exists.intro
      refine ⟨?_, ?_⟩
      · intro E
        simp only [sel_t, sel_f, sel_n]
        repeat (go_big_quiet_step ((fail)))
        exact wpQuiet_nil rfl
      -- ORDERS
      refine loudU_alt ?_ ?_
      focus
        refine loudU_one [false, false, false, false, false, true] rfl ?_
        simp only [sel_t, sel_f, sel_n]
        go_wp2_with (first | (go_at_call 10; ((with_reducible refine (HAP.out _ (more_same _ _ _ _) (more_wd _ _ _)).mono ?_); rintro e9 w9 hs; obtain ⟨a9, c9, rfl, hrows, ⟨x9, n9, rfl⟩, hfr⟩ := hs.out; rw [wd_plus] at hrows; have HRW := Lib.hid hrows; have HFR := Lib.hid hfr; clear hs hrows hfr)))
        refine ⟨by first | exact ⟨⟨_, _⟩, rfl⟩ | exact ⟨⟨_, _⟩, wd_merge _ _ _ _ _⟩ | exact ⟨⟨_, _⟩, (wd_merge _ _ _ _ _).trans (wd_merge _ _ _ _ _)⟩ | exact cl2 _ _ _ _ _ _, ?_⟩
        refine loudU_alt ?_ ?_
        focus
          refine loudU_one [false, false, false, false, false, false, true] rfl ?_
          simp only [sel_t, sel_f, sel_n]
          go_wp2
          refine ⟨by first | exact ⟨⟨_, _⟩, rfl⟩ | exact ⟨⟨_, _⟩, wd_merge _ _ _ _ _⟩ | exact ⟨⟨_, _⟩, (wd_merge _ _ _ _ _).trans (wd_merge _ _ _ _ _)⟩ | exact cl2 _ _ _ _ _ _, ?_⟩
          refine loudU_alt ?_ ?_
          focus
            refine loudU_one [false, false, false, false, false, false, false, true] rfl ?_
            simp only [sel_t, sel_f, sel_n]
            go_wp2
            refine ⟨by first | exact ⟨⟨_, _⟩, rfl⟩ | exact ⟨⟨_, _⟩, wd_merge _ _ _ _ _⟩ | exact ⟨⟨_, _⟩, (wd_merge _ _ _ _ _).trans (wd_merge _ _ _ _ _)⟩ | exact cl2 _ _ _ _ _ _, ?_⟩
            refine loudU_alt ?_ ?_
            focus
              refine loudU_one [false, false, false, false, false, false, false, false, true] rfl ?_
              simp only [sel_t, sel_f, sel_n]
              go_wp2
              refine ⟨by first | exact ⟨⟨_, _⟩, rfl⟩ | exact ⟨⟨_, _⟩, wd_merge _ _ _ _ _⟩ | exact ⟨⟨_, _⟩, (wd_merge _ _ _ _ _).trans (wd_merge _ _ _ _ _)⟩ | exact cl2 _ _ _ _ _ _, ?_⟩
              refine loudU_one [false, false, false, false, false, false, false, false, false, true] rfl ?_
              simp only [sel_t, sel_f, sel_n]
              go_wp2
              refine ⟨by first | exact ⟨⟨_, _⟩, rfl⟩ | exact ⟨⟨_, _⟩, wd_merge _ _ _ _ _⟩ | exact ⟨⟨_, _⟩, (wd_merge _ _ _ _ _).trans (wd_merge _ _ _ _ _)⟩ | exact cl2 _ _ _ _ _ _, ?_⟩
              refine loudU_one [false, false, false, false, false, false, false, false, false, false, true] rfl ?_
              simp only [sel_t, sel_f, sel_n]
              go_wp2
              refine ⟨by first | exact ⟨⟨_, _⟩, rfl⟩ | exact ⟨⟨_, _⟩, wd_merge _ _ _ _ _⟩ | exact ⟨⟨_, _⟩, (wd_merge _ _ _ _ _).trans (wd_merge _ _ _ _ _)⟩ | exact cl2 _ _ _ _ _ _, ?_⟩
              refine loudU_one [false, false, false, false, false, false, false, false, false, false, false, true] rfl ?_
              simp only [sel_t, sel_f, sel_n]
              go_wp2
              refine ⟨by first | exact ⟨⟨_, _⟩, rfl⟩ | exact ⟨⟨_, _⟩, wd_merge _ _ _ _ _⟩ | exact ⟨⟨_, _⟩, (wd_merge _ _ _ _ _).trans (wd_merge _ _ _ _ _)⟩ | exact cl2 _ _ _ _ _ _, ?_⟩
              refine loudU_done ?_
              by_cases hge : ge = 0
              · subst hge
                go_wp2
                go_roundw
                case rel =>
                  refine ⟨k + 1, g.rows.length, ⟨_, _⟩, a9, c9, g, by omega, by go_num, wd_merge3 _ _ _ _ _ _, Lib.hid ⟨by rw [← HI.out.1, HD.out, if_neg (by rw [HG.out]; simp), HG.out], rfl, by have := HS.out v ⟨b0, b1, b2, b3, b4, rs⟩ HI.out.2.2.1; rw [HG.out] at this; exact this, ?_, ?_⟩⟩
                  · first | exact rowsA HRW.out (HFR.out rfl) rfl rfl | exact rowsX HRW.out (HFR.out rfl) rfl
                  · exact (HFR.out rfl).le (by rw [wd_size]; simp only [shape, sz]; first | (simp; done) | (simp; omega))
                case measure => simp [intOf]; omega
              · have hgb : (ge == 0) = false := by rw [beq_eq_false_iff_ne]; exact hge
                have hgb2 : (ge != 0) = true := by rw [bne_iff_ne]; exact hge
                go_wp2
                refine bodyPost_ret (v := .tuple #[.agg #[.int .i64 0, .slice none 0 0], .int .i64 ge]) (by simp [results, Tryz.results12, go_sem]) rfl ?_
                rw [← HI.out.1, HD.out, if_pos (by rw [HG.out]; exact hge), HG.out]
                exact ⟨none, 0, rfl, RowAt.nil _, more_wd _ _ _, From.nil _ _⟩
            refine loudU_one [false, false, false, false, false, false, false, false, false, true] rfl ?_
            simp only [sel_t, sel_f, sel_n]
            go_wp2
            refine ⟨by first | exact ⟨⟨_, _⟩, rfl⟩ | exact ⟨⟨_, _⟩, wd_merge _ _ _ _ _⟩ | exact ⟨⟨_, _⟩, (wd_merge _ _ _ _ _).trans (wd_merge _ _ _ _ _)⟩ | exact cl2 _ _ _ _ _ _, ?_⟩
            refine loudU_alt ?_ ?_
            focus
              refine loudU_one [false, false, false, false, false, false, false, false, true] rfl ?_
              simp only [sel_t, sel_f, sel_n]
              go_wp2
              refine ⟨by first | exact ⟨⟨_, _⟩, rfl⟩ | exact ⟨⟨_, _⟩, wd_merge _ _ _ _ _⟩ | exact ⟨⟨_, _⟩, (wd_merge _ _ _ _ _).trans (wd_merge _ _ _ _ _)⟩ | exact cl2 _ _ _ _ _ _, ?_⟩
              refine loudU_one [false, false, false, false, false, false, false, false, false, false, true] rfl ?_
              simp only [sel_t, sel_f, sel_n]
              go_wp2
              refine ⟨by first | exact ⟨⟨_, _⟩, rfl⟩ | exact ⟨⟨_, _⟩, wd_merge _ _ _ _ _⟩ | exact ⟨⟨_, _⟩, (wd_merge _ _ _ _ _).trans (wd_merge _ _ _ _ _)⟩ | exact cl2 _ _ _ _ _ _, ?_⟩
              refine loudU_one [false, false, false, false, false, false, false, false, false, false, false, true] rfl ?_
              simp only [sel_t, sel_f, sel_n]
              go_wp2
              refine ⟨by first | exact ⟨⟨_, _⟩, rfl⟩ | exact ⟨⟨_, _⟩, wd_merge _ _ _ _ _⟩ | exact ⟨⟨_, _⟩, (wd_merge _ _ _ _ _).trans (wd_merge _ _ _ _ _)⟩ | exact cl2 _ _ _ _ _ _, ?_⟩
              refine loudU_done ?_
              by_cases hge : ge = 0
              · subst hge
                go_wp2
                go_roundw
                case rel =>
                  refine ⟨k + 1, g.rows.length, ⟨_, _⟩, a9, c9, g, by omega, by go_num, wd_merge3 _ _ _ _ _ _, Lib.hid ⟨by rw [← HI.out.1, HD.out, if_neg (by rw [HG.out]; simp), HG.out], rfl, by have := HS.out v ⟨b0, b1, b2, b3, b4, rs⟩ HI.out.2.2.1; rw [HG.out] at this; exact this, ?_, ?_⟩⟩
                  · first | exact rowsA HRW.out (HFR.out rfl) rfl rfl | exact rowsX HRW.out (HFR.out rfl) rfl
                  · exact (HFR.out rfl).le (by rw [wd_size]; simp only [shape, sz]; first | (simp; done) | (simp; omega))
                case measure => simp [intOf]; omega
              · have hgb : (ge == 0) = false := by rw [beq_eq_false_iff_ne]; exact hge
                have hgb2 : (ge != 0) = true := by rw [bne_iff_ne]; exact hge
                go_wp2
                refine bodyPost_ret (v := .tuple #[.agg #[.int .i64 0, .slice none 0 0], .int .i64 ge]) (by simp [results, Tryz.results12, go_sem]) rfl ?_
                rw [← HI.out.1, HD.out, if_pos (by rw [HG.out]; exact hge), HG.out]
                exact ⟨none, 0, rfl, RowAt.nil _, more_wd _ _ _, From.nil _ _⟩
            refine loudU_one [false, false, false, false, false, false, false, false, false, false, true] rfl ?_
            simp only [sel_t, sel_f, sel_n]
            go_wp2
            refine ⟨by first | exact ⟨⟨_, _⟩, rfl⟩ | exact ⟨⟨_, _⟩, wd_merge _ _ _ _ _⟩ | exact ⟨⟨_, _⟩, (wd_merge _ _ _ _ _).trans (wd_merge _ _ _ _ _)⟩ | exact cl2 _ _ _ _ _ _, ?_⟩
            refine loudU_one [false, false, false, false, false, false, false, false, true] rfl ?_
            simp only [sel_t, sel_f, sel_n]
            go_wp2
            refine ⟨by first | exact ⟨⟨_, _⟩, rfl⟩ | exact ⟨⟨_, _⟩, wd_merge _ _ _ _ _⟩ | exact ⟨⟨_, _⟩, (wd_merge _ _ _ _ _).trans (wd_merge _ _ _ _ _)⟩ | exact cl2 _ _ _ _ _ _, ?_⟩
            refine loudU_one [false, false, false, false, false, false, false, false, false, false, false, true] rfl ?_
            simp only [sel_t, sel_f, sel_n]
            go_wp2
            refine ⟨by first | exact ⟨⟨_, _⟩, rfl⟩ | exact ⟨⟨_, _⟩, wd_merge _ _ _ _ _⟩ | exact ⟨⟨_, _⟩, (wd_merge _ _ _ _ _).trans (wd_merge _ _ _ _ _)⟩ | exact cl2 _ _ _ _ _ _, ?_⟩
            refine loudU_done ?_
            by_cases hge : ge = 0
            · subst hge
              go_wp2
              go_roundw
              case rel =>
                refine ⟨k + 1, g.rows.length, ⟨_, _⟩, a9, c9, g, by omega, by go_num, wd_merge3 _ _ _ _ _ _, Lib.hid ⟨by rw [← HI.out.1, HD.out, if_neg (by rw [HG.out]; simp), HG.out], rfl, by have := HS.out v ⟨b0, b1, b2, b3, b4, rs⟩ HI.out.2.2.1; rw [HG.out] at this; exact this, ?_, ?_⟩⟩
                · first | exact rowsA HRW.out (HFR.out rfl) rfl rfl | exact rowsX HRW.out (HFR.out rfl) rfl
                · exact (HFR.out rfl).le (by rw [wd_size]; simp only [shape, sz]; first | (simp; done) | (simp; omega))
              case measure => simp [intOf]; omega
            · have hgb : (ge == 0) = false := by rw [beq_eq_false_iff_ne]; exact hge
              have hgb2 : (ge != 0) = true := by rw [bne_iff_ne]; exact hge
              go_wp2
              refine bodyPost_ret (v := .tuple #[.agg #[.int .i64 0, .slice none 0 0], .int .i64 ge]) (by simp [results, Tryz.results12, go_sem]) rfl ?_
              rw [← HI.out.1, HD.out, if_pos (by rw [HG.out]; exact hge), HG.out]
              exact ⟨none, 0, rfl, RowAt.nil _, more_wd _ _ _, From.nil _ _⟩
          refine loudU_alt ?_ ?_
          focus
            refine loudU_one [false, false, false, false, false, false, false, false, true] rfl ?_
            simp only [sel_t, sel_f, sel_n]
            go_wp2
            refine ⟨by first | exact ⟨⟨_, _⟩, rfl⟩ | exact ⟨⟨_, _⟩, wd_merge _ _ _ _ _⟩ | exact ⟨⟨_, _⟩, (wd_merge _ _ _ _ _).trans (wd_merge _ _ _ _ _)⟩ | exact cl2 _ _ _ _ _ _, ?_⟩
            refine loudU_alt ?_ ?_
            focus
              refine loudU_one [false, false, false, false, false, false, false, true] rfl ?_
              simp only [sel_t, sel_f, sel_n]
              go_wp2
              refine ⟨by first | exact ⟨⟨_, _⟩, rfl⟩ | exact ⟨⟨_, _⟩, wd_merge _ _ _ _ _⟩ | exact ⟨⟨_, _⟩, (wd_merge _ _ _ _ _).trans (wd_merge _ _ _ _ _)⟩ | exact cl2 _ _ _ _ _ _, ?_⟩
              refine loudU_one [false, false, false, false, false, false, false, false, false, true] rfl ?_
              simp only [sel_t, sel_f, sel_n]
              go_wp2
              refine ⟨by first | exact ⟨⟨_, _⟩, rfl⟩ | exact ⟨⟨_, _⟩, wd_merge _ _ _ _ _⟩ | exact ⟨⟨_, _⟩, (wd_merge _ _ _ _ _).trans (wd_merge _ _ _ _ _)⟩ | exact cl2 _ _ _ _ _ _, ?_⟩
              refine loudU_one [false, false, false, false, false, false, false, false, false, false, true] rfl ?_
              simp only [sel_t, sel_f, sel_n]
              go_wp2
              refine ⟨by first | exact ⟨⟨_, _⟩, rfl⟩ | exact ⟨⟨_, _⟩, wd_merge _ _ _ _ _⟩ | exact ⟨⟨_, _⟩, (wd_merge _ _ _ _ _).trans (wd_merge _ _ _ _ _)⟩ | exact cl2 _ _ _ _ _ _, ?_⟩
              refine loudU_one [false, false, false, false, false, false, false, false, false, false, false, true] rfl ?_
              simp only [sel_t, sel_f, sel_n]
              go_wp2
              refine ⟨by first | exact ⟨⟨_, _⟩, rfl⟩ | exact ⟨⟨_, _⟩, wd_merge _ _ _ _ _⟩ | exact ⟨⟨_, _⟩, (wd_merge _ _ _ _ _).trans (wd_merge _ _ _ _ _)⟩ | exact cl2 _ _ _ _ _ _, ?_⟩
              refine loudU_done ?_
              by_cases hge : ge = 0
              · subst hge
                go_wp2
                go_roundw
                case rel =>
                  refine ⟨k + 1, g.rows.length, ⟨_, _⟩, a9, c9, g, by omega, by go_num, wd_merge3 _ _ _ _ _ _, Lib.hid ⟨by rw [← HI.out.1, HD.out, if_neg (by rw [HG.out]; simp), HG.out], rfl, by have := HS.out v ⟨b0, b1, b2, b3, b4, rs⟩ HI.out.2.2.1; rw [HG.out] at this; exact this, ?_, ?_⟩⟩
                  · first | exact rowsA HRW.out (HFR.out rfl) rfl rfl | exact rowsX HRW.out (HFR.out rfl) rfl
                  · exact (HFR.out rfl).le (by rw [wd_size]; simp only [shape, sz]; first | (simp; done) | (simp; omega))
                case measure => simp [intOf]; omega
              · have hgb : (ge == 0) = false := by rw [beq_eq_false_iff_ne]; exact hge
                have hgb2 : (ge != 0) = true := by rw [bne_iff_ne]; exact hge
                go_wp2
                refine bodyPost_ret (v := .tuple #[.agg #[.int .i64 0, .slice none 0 0], .int .i64 ge]) (by simp [results, Tryz.results12, go_sem]) rfl ?_
                rw [← HI.out.1, HD.out, if_pos (by rw [HG.out]; exact hge), HG.out]
                exact ⟨none, 0, rfl, RowAt.nil _, more_wd _ _ _, From.nil _ _⟩
            refine loudU_one [false, false, false, false, false, false, false, false, false, true] rfl ?_
            simp only [sel_t, sel_f, sel_n]
            go_wp2
            refine ⟨by first | exact ⟨⟨_, _⟩, rfl⟩ | exact ⟨⟨_, _⟩, wd_merge _ _ _ _ _⟩ | exact ⟨⟨_, _⟩, (wd_merge _ _ _ _ _).trans (wd_merge _ _ _ _ _)⟩ | exact cl2 _ _ _ _ _ _, ?_⟩
            refine loudU_one [false, false, false, false, false, false, false, true] rfl ?_
            simp only [sel_t, sel_f, sel_n]
            go_wp2
            refine ⟨by first | exact ⟨⟨_, _⟩, rfl⟩ | exact ⟨⟨_, _⟩, wd_merge _ _ _ _ _⟩ | exact ⟨⟨_, _⟩, (wd_merge _ _ _ _ _).trans (wd_merge _ _ _ _ _)⟩ | exact cl2 _ _ _ _ _ _, ?_⟩
            refine loudU_one [false, false, false, false, false, false, false, false, false, false, true] rfl ?_
            simp only [sel_t, sel_f, sel_n]
            go_wp2
            refine ⟨by first | exact ⟨⟨_, _⟩, rfl⟩ | exact ⟨⟨_, _⟩, wd_merge _ _ _ _ _⟩ | exact ⟨⟨_, _⟩, (wd_merge _ _ _ _ _).trans (wd_merge _ _ _ _ _)⟩ | exact cl2 _ _ _ _ _ _, ?_⟩
            refine loudU_one [false, false, false, false, false, false, false, false, false, false, false, true] rfl ?_
            simp only [sel_t, sel_f, sel_n]
            go_wp2
            refine ⟨by first | exact ⟨⟨_, _⟩, rfl⟩ | exact ⟨⟨_, _⟩, wd_merge _ _ _ _ _⟩ | exact ⟨⟨_, _⟩, (wd_merge _ _ _ _ _).trans (wd_merge _ _ _ _ _)⟩ | exact cl2 _ _ _ _ _ _, ?_⟩
            refine loudU_done ?_
            by_cases hge : ge = 0
            · subst hge
              go_wp2
              go_roundw
              case rel =>
                refine ⟨k + 1, g.rows.length, ⟨_, _⟩, a9, c9, g, by omega, by go_num, wd_merge3 _ _ _ _ _ _, Lib.hid ⟨by rw [← HI.out.1, HD.out, if_neg (by rw [HG.out]; simp), HG.out], rfl, by have := HS.out v ⟨b0, b1, b2, b3, b4, rs⟩ HI.out.2.2.1; rw [HG.out] at this; exact this, ?_, ?_⟩⟩
                · first | exact rowsA HRW.out (HFR.out rfl) rfl rfl | exact rowsX HRW.out (HFR.out rfl) rfl
                · exact (HFR.out rfl).le (by rw [wd_size]; simp only [shape, sz]; first | (simp; done) | (simp; omega))
              case measure => simp [intOf]; omega
            · have hgb : (ge == 0) = false := by rw [beq_eq_false_iff_ne]; exact hge
              have hgb2 : (ge != 0) = true := by rw [bne_iff_ne]; exact hge
              go_wp2
              refine bodyPost_ret (v := .tuple #[.agg #[.int .i64 0, .slice none 0 0], .int .i64 ge]) (by simp [results, Tryz.results12, go_sem]) rfl ?_
              rw [← HI.out.1, HD.out, if_pos (by rw [HG.out]; exact hge), HG.out]
              exact ⟨none, 0, rfl, RowAt.nil _, more_wd _ _ _, From.nil _ _⟩
          refine loudU_one [false, false, false, false, false, false, false, false, false, true] rfl ?_
          simp only [sel_t, sel_f, sel_n]
          go_wp2
          refine ⟨by first | exact ⟨⟨_, _⟩, rfl⟩ | exact ⟨⟨_, _⟩, wd_merge _ _ _ _ _⟩ | exact ⟨⟨_, _⟩, (wd_merge _ _ _ _ _).trans (wd_merge _ _ _ _ _)⟩ | exact cl2 _ _ _ _ _ _, ?_⟩
          refine loudU_alt ?_ ?_
          focus
            refine loudU_one [false, false, false, false, false, false, false, true] rfl ?_
            simp only [sel_t, sel_f, sel_n]
            go_wp2
            refine ⟨by first | exact ⟨⟨_, _⟩, rfl⟩ | exact ⟨⟨_, _⟩, wd_merge _ _ _ _ _⟩ | exact ⟨⟨_, _⟩, (wd_merge _ _ _ _ _).trans (wd_merge _ _ _ _ _)⟩ | exact cl2 _ _ _ _ _ _, ?_⟩
            refine loudU_alt ?_ ?_
            focus
              refine loudU_one [false, false, false, false, false, false, false, false, true] rfl ?_
              simp only [sel_t, sel_f, sel_n]
              go_wp2
              refine ⟨by first | exact ⟨⟨_, _⟩, rfl⟩ | exact ⟨⟨_, _⟩, wd_merge _ _ _ _ _⟩ | exact ⟨⟨_, _⟩, (wd_merge _ _ _ _ _).trans (wd_merge _ _ _ _ _)⟩ | exact cl2 _ _ _ _ _ _, ?_⟩
              refine loudU_one [false, false, false, false, false, false, false, false, false, false, true] rfl ?_
              simp only [sel_t, sel_f, sel_n]
              go_wp2
              refine ⟨by first | exact ⟨⟨_, _⟩, rfl⟩ | exact ⟨⟨_, _⟩, wd_merge _ _ _ _ _⟩ | exact ⟨⟨_, _⟩, (wd_merge _ _ _ _ _).trans (wd_merge _ _ _ _ _)⟩ | exact cl2 _ _ _ _ _ _, ?_⟩
              refine loudU_one [false, false, false, false, false, false, false, false, false, false, false, true] rfl ?_
              simp only [sel_t, sel_f, sel_n]
              go_wp2
              refine ⟨by first | exact ⟨⟨_, _⟩, rfl⟩ | exact ⟨⟨_, _⟩, wd_merge _ _ _ _ _⟩ | exact ⟨⟨_, _⟩, (wd_merge _ _ _ _ _).trans (wd_merge _ _ _ _ _)⟩ | exact cl2 _ _ _ _ _ _, ?_⟩
              refine loudU_done ?_
              by_cases hge : ge = 0
              · subst hge
                go_wp2
                go_roundw
                case rel =>
                  refine ⟨k + 1, g.rows.length, ⟨_, _⟩, a9, c9, g, by omega, by go_num, wd_merge3 _ _ _ _ _ _, Lib.hid ⟨by rw [← HI.out.1, HD.out, if_neg (by rw [HG.out]; simp), HG.out], rfl, by have := HS.out v ⟨b0, b1, b2, b3, b4, rs⟩ HI.out.2.2.1; rw [HG.out] at this; exact this, ?_, ?_⟩⟩
                  · first | exact rowsA HRW.out (HFR.out rfl) rfl rfl | exact rowsX HRW.out (HFR.out rfl) rfl
                  · exact (HFR.out rfl).le (by rw [wd_size]; simp only [shape, sz]; first | (simp; done) | (simp; omega))
                case measure => simp [intOf]; omega
              · have hgb : (ge == 0) = false := by rw [beq_eq_false_iff_ne]; exact hge
                have hgb2 : (ge != 0) = true := by rw [bne_iff_ne]; exact hge
                go_wp2
                refine bodyPost_ret (v := .tuple #[.agg #[.int .i64 0, .slice none 0 0], .int .i64 ge]) (by simp [results, Tryz.results12, go_sem]) rfl ?_
                rw [← HI.out.1, HD.out, if_pos (by rw [HG.out]; exact hge), HG.out]
                exact ⟨none, 0, rfl, RowAt.nil _, more_wd _ _ _, From.nil _ _⟩
            refine loudU_one [false, false, false, false, false, false, false, false, false, false, true] rfl ?_
            simp only [sel_t, sel_f, sel_n]
            go_wp2
            refine ⟨by first | exact ⟨⟨_, _⟩, rfl⟩ | exact ⟨⟨_, _⟩, wd_merge _ _ _ _ _⟩ | exact ⟨⟨_, _⟩, (wd_merge _ _ _ _ _).trans (wd_merge _ _ _ _ _)⟩ | exact cl2 _ _ _ _ _ _, ?_⟩
            refine loudU_one [false, false, false, false, false, false, false, false, true] rfl ?_
            simp only [sel_t, sel_f, sel_n]
            go_wp2
            refine ⟨by first | exact ⟨⟨_, _⟩, rfl⟩ | exact ⟨⟨_, _⟩, wd_merge _ _ _ _ _⟩ | exact ⟨⟨_, _⟩, (wd_merge _ _ _ _ _).trans (wd_merge _ _ _ _ _)⟩ | exact cl2 _ _ _ _ _ _, ?_⟩
            refine loudU_one [false, false, false, false, false, false, false, false, false, false, false, true] rfl ?_
            simp only [sel_t, sel_f, sel_n]
            go_wp2
            refine ⟨by first | exact ⟨⟨_, _⟩, rfl⟩ | exact ⟨⟨_, _⟩, wd_merge _ _ _ _ _⟩ | exact ⟨⟨_, _⟩, (wd_merge _ _ _ _ _).trans (wd_merge _ _ _ _ _)⟩ | exact cl2 _ _ _ _ _ _, ?_⟩
            refine loudU_done ?_
            by_cases hge : ge = 0
            · subst hge
              go_wp2
              go_roundw
              case rel =>
                refine ⟨k + 1, g.rows.length, ⟨_, _⟩, a9, c9, g, by omega, by go_num, wd_merge3 _ _ _ _ _ _, Lib.hid ⟨by rw [← HI.out.1, HD.out, if_neg (by rw [HG.out]; simp), HG.out], rfl, by have := HS.out v ⟨b0, b1, b2, b3, b4, rs⟩ HI.out.2.2.1; rw [HG.out] at this; exact this, ?_, ?_⟩⟩
                · first | exact rowsA HRW.out (HFR.out rfl) rfl rfl | exact rowsX HRW.out (HFR.out rfl) rfl
                · exact (HFR.out rfl).le (by rw [wd_size]; simp only [shape, sz]; first | (simp; done) | (simp; omega))
              case measure => simp [intOf]; omega
            · have hgb : (ge == 0) = false := by rw [beq_eq_false_iff_ne]; exact hge
              have hgb2 : (ge != 0) = true := by rw [bne_iff_ne]; exact hge
              go_wp2
              refine bodyPost_ret (v := .tuple #[.agg #[.int .i64 0, .slice none 0 0], .int .i64 ge]) (by simp [results, Tryz.results12, go_sem]) rfl ?_
              rw [← HI.out.1, HD.out, if_pos (by rw [HG.out]; exact hge), HG.out]
              exact ⟨none, 0, rfl, RowAt.nil _, more_wd _ _ _, From.nil _ _⟩
          refine loudU_one [false, false, false, false, false, false, false, false, true] rfl ?_
          simp only [sel_t, sel_f, sel_n]
          go_wp2
          refine ⟨by first | exact ⟨⟨_, _⟩, rfl⟩ | exact ⟨⟨_, _⟩, wd_merge _ _ _ _ _⟩ | exact ⟨⟨_, _⟩, (wd_merge _ _ _ _ _).trans (wd_merge _ _ _ _ _)⟩ | exact cl2 _ _ _ _ _ _, ?_⟩
          refine loudU_one [false, false, false, false, false, false, false, true] rfl ?_
          simp only [sel_t, sel_f, sel_n]
          go_wp2
          refine ⟨by first | exact ⟨⟨_, _⟩, rfl⟩ | exact ⟨⟨_, _⟩, wd_merge _ _ _ _ _⟩ | exact ⟨⟨_, _⟩, (wd_merge _ _ _ _ _).trans (wd_merge _ _ _ _ _)⟩ | exact cl2 _ _ _ _ _ _, ?_⟩
          refine loudU_one [false, false, false, false, false, false, false, false, false, false, true] rfl ?_
          simp only [sel_t, sel_f, sel_n]
          go_wp2
          refine ⟨by first | exact ⟨⟨_, _⟩, rfl⟩ | exact ⟨⟨_, _⟩, wd_merge _ _ _ _ _⟩ | exact ⟨⟨_, _⟩, (wd_merge _ _ _ _ _).trans (wd_merge _ _ _ _ _)⟩ | exact cl2 _ _ _ _ _ _, ?_⟩
          refine loudU_one [false, false, false, false, false, false, false, false, false, false, false, true] rfl ?_
          simp only [sel_t, sel_f, sel_n]
          go_wp2
          refine ⟨by first | exact ⟨⟨_, _⟩, rfl⟩ | exact ⟨⟨_, _⟩, wd_merge _ _ _ _ _⟩ | exact ⟨⟨_, _⟩, (wd_merge _ _ _ _ _).trans (wd_merge _ _ _ _ _)⟩ | exact cl2 _ _ _ _ _ _, ?_⟩
          refine loudU_done ?_
          by_cases hge : ge = 0
          · subst hge
            go_wp2
            go_roundw
            case rel =>
              refine ⟨k + 1, g.rows.length, ⟨_, _⟩, a9, c9, g, by omega, by go_num, wd_merge3 _ _ _ _ _ _, Lib.hid ⟨by rw [← HI.out.1, HD.out, if_neg (by rw [HG.out]; simp), HG.out], rfl, by have := HS.out v ⟨b0, b1, b2, b3, b4, rs⟩ HI.out.2.2.1; rw [HG.out] at this; exact this, ?_, ?_⟩⟩
              · first | exact rowsA HRW.out (HFR.out rfl) rfl rfl | exact rowsX HRW.out (HFR.out rfl) rfl
              · exact (HFR.out rfl).le (by rw [wd_size]; simp only [shape, sz]; first | (simp; done) | (simp; omega))
            case measure => simp [intOf]; omega
          · have hgb : (ge == 0) = false := by rw [beq_eq_false_iff_ne]; exact hge
            have hgb2 : (ge != 0) = true := by rw [bne_iff_ne]; exact hge
            go_wp2
            refine bodyPost_ret (v := .tuple #[.agg #[.int .i64 0, .slice none 0 0], .int .i64 ge]) (by simp [results, Tryz.results12, go_sem]) rfl ?_
            rw [← HI.out.1, HD.out, if_pos (by rw [HG.out]; exact hge), HG.out]
            exact ⟨none, 0, rfl, RowAt.nil _, more_wd _ _ _, From.nil _ _⟩
        refine loudU_one [false, false, false, false, false, false, false, false, false, true] rfl ?_
        simp only [sel_t, sel_f, sel_n]
        go_wp2
        refine ⟨by first | exact ⟨⟨_, _⟩, rfl⟩ | exact ⟨⟨_, _⟩, wd_merge _ _ _ _ _⟩ | exact ⟨⟨_, _⟩, (wd_merge _ _ _ _ _).trans (wd_merge _ _ _ _ _)⟩ | exact cl2 _ _ _ _ _ _, ?_⟩
        refine loudU_one [false, false, false, false, false, false, true] rfl ?_
        simp only [sel_t, sel_f, sel_n]
        go_wp2
        refine ⟨by first | exact ⟨⟨_, _⟩, rfl⟩ | exact ⟨⟨_, _⟩, wd_merge _ _ _ _ _⟩ | exact ⟨⟨_, _⟩, (wd_merge _ _ _ _ _).trans (wd_merge _ _ _ _ _)⟩ | exact cl2 _ _ _ _ _ _, ?_⟩
        refine loudU_alt ?_ ?_
        focus
          refine loudU_one [false, false, false, false, false, false, false, true] rfl ?_
          simp only [sel_t, sel_f, sel_n]
          go_wp2
          refine ⟨by first | exact ⟨⟨_, _⟩, rfl⟩ | exact ⟨⟨_, _⟩, wd_merge _ _ _ _ _⟩ | exact ⟨⟨_, _⟩, (wd_merge _ _ _ _ _).trans (wd_merge _ _ _ _ _)⟩ | exact cl2 _ _ _ _ _ _, ?_⟩
          refine loudU_alt ?_ ?_
          focus
            refine loudU_one [false, false, false, false, false, false, false, false, true] rfl ?_
            simp only [sel_t, sel_f, sel_n]
            go_wp2
            refine ⟨by first | exact ⟨⟨_, _⟩, rfl⟩ | exact ⟨⟨_, _⟩, wd_merge _ _ _ _ _⟩ | exact ⟨⟨_, _⟩, (wd_merge _ _ _ _ _).trans (wd_merge _ _ _ _ _)⟩ | exact cl2 _ _ _ _ _ _, ?_⟩
            refine loudU_one [false, false, false, false, false, false, false, false, false, false, true] rfl ?_
            simp only [sel_t, sel_f, sel_n]
            go_wp2
            refine ⟨by first | exact ⟨⟨_, _⟩, rfl⟩ | exact ⟨⟨_, _⟩, wd_merge _ _ _ _ _⟩ | exact ⟨⟨_, _⟩, (wd_merge _ _ _ _ _).trans (wd_merge _ _ _ _ _)⟩ | exact cl2 _ _ _ _ _ _, ?_⟩
            refine loudU_one [false, false, false, false, false, false, false, false, false, false, false, true] rfl ?_
            simp only [sel_t, sel_f, sel_n]
            go_wp2
            refine ⟨by first | exact ⟨⟨_, _⟩, rfl⟩ | exact ⟨⟨_, _⟩, wd_merge _ _ _ _ _⟩ | exact ⟨⟨_, _⟩, (wd_merge _ _ _ _ _).trans (wd_merge _ _ _ _ _)⟩ | exact cl2 _ _ _ _ _ _, ?_⟩
            refine loudU_done ?_
            by_cases hge : ge = 0
            · subst hge
              go_wp2
              go_roundw
              case rel =>
                refine ⟨k + 1, g.rows.length, ⟨_, _⟩, a9, c9, g, by omega, by go_num, wd_merge3 _ _ _ _ _ _, Lib.hid ⟨by rw [← HI.out.1, HD.out, if_neg (by rw [HG.out]; simp), HG.out], rfl, by have := HS.out v ⟨b0, b1, b2, b3, b4, rs⟩ HI.out.2.2.1; rw [HG.out] at this; exact this, ?_, ?_⟩⟩
                · first | exact rowsA HRW.out (HFR.out rfl) rfl rfl | exact rowsX HRW.out (HFR.out rfl) rfl
                · exact (HFR.out rfl).le (by rw [wd_size]; simp only [shape, sz]; first | (simp; done) | (simp; omega))
              case measure => simp [intOf]; omega
            · have hgb : (ge == 0) = false := by rw [beq_eq_false_iff_ne]; exact hge
              have hgb2 : (ge != 0) = true := by rw [bne_iff_ne]; exact hge
              go_wp2
              refine bodyPost_ret (v := .tuple #[.agg #[.int .i64 0, .slice none 0 0], .int .i64 ge]) (by simp [results, Tryz.results12, go_sem]) rfl ?_
              rw [← HI.out.1, HD.out, if_pos (by rw [HG.out]; exact hge), HG.out]
              exact ⟨none, 0, rfl, RowAt.nil _, more_wd _ _ _, From.nil _ _⟩
          refine loudU_one [false, false, false, false, false, false, false, false, false, false, true] rfl ?_
          simp only [sel_t, sel_f, sel_n]
          go_wp2
          refine ⟨by first | exact ⟨⟨_, _⟩, rfl⟩ | exact ⟨⟨_, _⟩, wd_merge _ _ _ _ _⟩ | exact ⟨⟨_, _⟩, (wd_merge _ _ _ _ _).trans (wd_merge _ _ _ _ _)⟩ | exact cl2 _ _ _ _ _ _, ?_⟩
          refine loudU_one [false, false, false, false, false, false, false, false, true] rfl ?_
          simp only [sel_t, sel_f, sel_n]
          go_wp2
          refine ⟨by first | exact ⟨⟨_, _⟩, rfl⟩ | exact ⟨⟨_, _⟩, wd_merge _ _ _ _ _⟩ | exact ⟨⟨_, _⟩, (wd_merge _ _ _ _ _).trans (wd_merge _ _ _ _ _)⟩ | exact cl2 _ _ _ _ _ _, ?_⟩
          refine loudU_one [false, false, false, false, false, false, false, false, false, false, false, true] rfl ?_
          simp only [sel_t, sel_f, sel_n]
          go_wp2
          refine ⟨by first | exact ⟨⟨_, _⟩, rfl⟩ | exact ⟨⟨_, _⟩, wd_merge _ _ _ _ _⟩ | exact ⟨⟨_, _⟩, (wd_merge _ _ _ _ _).trans (wd_merge _ _ _ _ _)⟩ | exact cl2 _ _ _ _ _ _, ?_⟩
          refine loudU_done ?_
          by_cases hge : ge = 0
          · subst hge
            go_wp2
            go_roundw
            case rel =>
              refine ⟨k + 1, g.rows.length, ⟨_, _⟩, a9, c9, g, by omega, by go_num, wd_merge3 _ _ _ _ _ _, Lib.hid ⟨by rw [← HI.out.1, HD.out, if_neg (by rw [HG.out]; simp), HG.out], rfl, by have := HS.out v ⟨b0, b1, b2, b3, b4, rs⟩ HI.out.2.2.1; rw [HG.out] at this; exact this, ?_, ?_⟩⟩
              · first | exact rowsA HRW.out (HFR.out rfl) rfl rfl | exact rowsX HRW.out (HFR.out rfl) rfl
              · exact (HFR.out rfl).le (by rw [wd_size]; simp only [shape, sz]; first | (simp; done) | (simp; omega))
            case measure => simp [intOf]; omega
          · have hgb : (ge == 0) = false := by rw [beq_eq_false_iff_ne]; exact hge
            have hgb2 : (ge != 0) = true := by rw [bne_iff_ne]; exact hge
            go_wp2
            refine bodyPost_ret (v := .tuple #[.agg #[.int .i64 0, .slice none 0 0], .int .i64 ge]) (by simp [results, Tryz.results12, go_sem]) rfl ?_
            rw [← HI.out.1, HD.out, if_pos (by rw [HG.out]; exact hge), HG.out]
            exact ⟨none, 0, rfl, RowAt.nil _, more_wd _ _ _, From.nil _ _⟩
        refine loudU_one [false, false, false, false, false, false, false, false, true] rfl ?_
        simp only [sel_t, sel_f, sel_n]
        go_wp2
        refine ⟨by first | exact ⟨⟨_, _⟩, rfl⟩ | exact ⟨⟨_, _⟩, wd_merge _ _ _ _ _⟩ | exact ⟨⟨_, _⟩, (wd_merge _ _ _ _ _).trans (wd_merge _ _ _ _ _)⟩ | exact cl2 _ _ _ _ _ _, ?_⟩
        refine loudU_one [false, false, false, false, false, false, false, true] rfl ?_
        simp only [sel_t, sel_f, sel_n]
        go_wp2
        refine ⟨by first | exact ⟨⟨_, _⟩, rfl⟩ | exact ⟨⟨_, _⟩, wd_merge _ _ _ _ _⟩ | exact ⟨⟨_, _⟩, (wd_merge _ _ _ _ _).trans (wd_merge _ _ _ _ _)⟩ | exact cl2 _ _ _ _ _ _, ?_⟩
        refine loudU_one [false, false, false, false, false, false, false, false, false, false, true] rfl ?_
        simp only [sel_t, sel_f, sel_n]
        go_wp2
        refine ⟨by first | exact ⟨⟨_, _⟩, rfl⟩ | exact ⟨⟨_, _⟩, wd_merge _ _ _ _ _⟩ | exact ⟨⟨_, _⟩, (wd_merge _ _ _ _ _).trans (wd_merge _ _ _ _ _)⟩ | exact cl2 _ _ _ _ _ _, ?_⟩
        refine loudU_one [false, false, false, false, false, false, false, false, false, false, false, true] rfl ?_
        simp only [sel_t, sel_f, sel_n]
        go_wp2
        refine ⟨by first | exact ⟨⟨_, _⟩, rfl⟩ | exact ⟨⟨_, _⟩, wd_merge _ _ _ _ _⟩ | exact ⟨⟨_, _⟩, (wd_merge _ _ _ _ _).trans (wd_merge _ _ _ _ _)⟩ | exact cl2 _ _ _ _ _ _, ?_⟩
        refine loudU_done ?_
        by_cases hge : ge = 0
        · subst hge
          go_wp2
          go_roundw
          case rel =>
            refine ⟨k + 1, g.rows.length, ⟨_, _⟩, a9, c9, g, by omega, by go_num, wd_merge3 _ _ _ _ _ _, Lib.hid ⟨by rw [← HI.out.1, HD.out, if_neg (by rw [HG.out]; simp), HG.out], rfl, by have := HS.out v ⟨b0, b1, b2, b3, b4, rs⟩ HI.out.2.2.1; rw [HG.out] at this; exact this, ?_, ?_⟩⟩
            · first | exact rowsA HRW.out (HFR.out rfl) rfl rfl | exact rowsX HRW.out (HFR.out rfl) rfl
            · exact (HFR.out rfl).le (by rw [wd_size]; simp only [shape, sz]; first | (simp; done) | (simp; omega))
          case measure => simp [intOf]; omega
        · have hgb : (ge == 0) = false := by rw [beq_eq_false_iff_ne]; exact hge
          have hgb2 : (ge != 0) = true := by rw [bne_iff_ne]; exact hge
          go_wp2
          refine bodyPost_ret (v := .tuple #[.agg #[.int .i64 0, .slice none 0 0], .int .i64 ge]) (by simp [results, Tryz.results12, go_sem]) rfl ?_
          rw [← HI.out.1, HD.out, if_pos (by rw [HG.out]; exact hge), HG.out]
          exact ⟨none, 0, rfl, RowAt.nil _, more_wd _ _ _, From.nil _ _⟩
      refine loudU_one [false, false, false, false, false, false, false, false, false, true] rfl ?_
      simp only [sel_t, sel_f, sel_n]
      go_wp2
      refine ⟨by first | exact ⟨⟨_, _⟩, rfl⟩ | exact ⟨⟨_, _⟩, wd_merge _ _ _ _ _⟩ | exact ⟨⟨_, _⟩, (wd_merge _ _ _ _ _).trans (wd_merge _ _ _ _ _)⟩ | exact cl2 _ _ _ _ _ _, ?_⟩
      refine loudU_one [false, false, false, false, false, true] rfl ?_
      simp only [sel_t, sel_f, sel_n]
      go_wp2_with (first | (go_at_call 10; ((with_reducible refine (HAP.out _ (more_top _ _ _ _ _) (more_wd _ _ _)).mono ?_); rintro e9 w9 hs; obtain ⟨a9, c9, rfl, hrows, ⟨x9, n9, rfl⟩, hfr⟩ := hs.out; rw [wd_plus] at hrows; have HRW := Lib.hid hrows; have HFR := Lib.hid hfr; clear hs hrows hfr)))
      refine ⟨by first | exact ⟨⟨_, _⟩, rfl⟩ | exact ⟨⟨_, _⟩, wd_merge _ _ _ _ _⟩ | exact ⟨⟨_, _⟩, (wd_merge _ _ _ _ _).trans (wd_merge _ _ _ _ _)⟩ | exact cl2 _ _ _ _ _ _, ?_⟩
      refine loudU_one [false, false, false, false, false, false, true] rfl ?_
      simp only [sel_t, sel_f, sel_n]
      go_wp2
      refine ⟨by first | exact ⟨⟨_, _⟩, rfl⟩ | exact ⟨⟨_, _⟩, wd_merge _ _ _ _ _⟩ | exact ⟨⟨_, _⟩, (wd_merge _ _ _ _ _).trans (wd_merge _ _ _ _ _)⟩ | exact cl2 _ _ _ _ _ _, ?_⟩
      refine loudU_alt ?_ ?_
      focus
        refine loudU_one [false, false, false, false, false, false, false, true] rfl ?_
        simp only [sel_t, sel_f, sel_n]
        go_wp2
        refine ⟨by first | exact ⟨⟨_, _⟩, rfl⟩ | exact ⟨⟨_, _⟩, wd_merge _ _ _ _ _⟩ | exact ⟨⟨_, _⟩, (wd_merge _ _ _ _ _).trans (wd_merge _ _ _ _ _)⟩ | exact cl2 _ _ _ _ _ _, ?_⟩
        refine loudU_alt ?_ ?_
        focus
          refine loudU_one [false, false, false, false, false, false, false, false, true] rfl ?_
          simp only [sel_t, sel_f, sel_n]
          go_wp2
          refine ⟨by first | exact ⟨⟨_, _⟩, rfl⟩ | exact ⟨⟨_, _⟩, wd_merge _ _ _ _ _⟩ | exact ⟨⟨_, _⟩, (wd_merge _ _ _ _ _).trans (wd_merge _ _ _ _ _)⟩ | exact cl2 _ _ _ _ _ _, ?_⟩
          refine loudU_one [false, false, false, false, false, false, false, false, false, false, true] rfl ?_
          simp only [sel_t, sel_f, sel_n]
          go_wp2
          refine ⟨by first | exact ⟨⟨_, _⟩, rfl⟩ | exact ⟨⟨_, _⟩, wd_merge _ _ _ _ _⟩ | exact ⟨⟨_, _⟩, (wd_merge _ _ _ _ _).trans (wd_merge _ _ _ _ _)⟩ | exact cl2 _ _ _ _ _ _, ?_⟩
          refine loudU_one [false, false, false, false, false, false, false, false, false, false, false, true] rfl ?_
          simp only [sel_t, sel_f, sel_n]
          go_wp2
          refine ⟨by first | exact ⟨⟨_, _⟩, rfl⟩ | exact ⟨⟨_, _⟩, wd_merge _ _ _ _ _⟩ | exact ⟨⟨_, _⟩, (wd_merge _ _ _ _ _).trans (wd_merge _ _ _ _ _)⟩ | exact cl2 _ _ _ _ _ _, ?_⟩
          refine loudU_done ?_
          by_cases hge : ge = 0
          · subst hge
            go_wp2
            go_roundw
            case rel =>
              refine ⟨k + 1, g.rows.length, ⟨_, _⟩, a9, c9, g, by omega, by go_num, wd_merge3 _ _ _ _ _ _, Lib.hid ⟨by rw [← HI.out.1, HD.out, if_neg (by rw [HG.out]; simp), HG.out], rfl, by have := HS.out v ⟨b0, b1, b2, b3, b4, rs⟩ HI.out.2.2.1; rw [HG.out] at this; exact this, ?_, ?_⟩⟩
              · first | exact rowsA HRW.out (HFR.out rfl) rfl rfl | exact rowsX HRW.out (HFR.out rfl) rfl
              · exact (HFR.out rfl).le (by rw [wd_size]; simp only [shape, sz]; first | (simp; done) | (simp; omega))
            case measure => simp [intOf]; omega
          · have hgb : (ge == 0) = false := by rw [beq_eq_false_iff_ne]; exact hge
            have hgb2 : (ge != 0) = true := by rw [bne_iff_ne]; exact hge
            go_wp2
            refine bodyPost_ret (v := .tuple #[.agg #[.int .i64 0, .slice none 0 0], .int .i64 ge]) (by simp [results, Tryz.results12, go_sem]) rfl ?_
            rw [← HI.out.1, HD.out, if_pos (by rw [HG.out]; exact hge), HG.out]
            exact ⟨none, 0, rfl, RowAt.nil _, more_wd _ _ _, From.nil _ _⟩
        refine loudU_one [false, false, false, false, false, false, false, false, false, false, true] rfl ?_
        simp only [sel_t, sel_f, sel_n]
        go_wp2
        refine ⟨by first | exact ⟨⟨_, _⟩, rfl⟩ | exact ⟨⟨_, _⟩, wd_merge _ _ _ _ _⟩ | exact ⟨⟨_, _⟩, (wd_merge _ _ _ _ _).trans (wd_merge _ _ _ _ _)⟩ | exact cl2 _ _ _ _ _ _, ?_⟩
        refine loudU_one [false, false, false, false, false, false, false, false, true] rfl ?_
        simp only [sel_t, sel_f, sel_n]
        go_wp2
        refine ⟨by first | exact ⟨⟨_, _⟩, rfl⟩ | exact ⟨⟨_, _⟩, wd_merge _ _ _ _ _⟩ | exact ⟨⟨_, _⟩, (wd_merge _ _ _ _ _).trans (wd_merge _ _ _ _ _)⟩ | exact cl2 _ _ _ _ _ _, ?_⟩
        refine loudU_one [false, false, false, false, false, false, false, false, false, false, false, true] rfl ?_
        simp only [sel_t, sel_f, sel_n]
        go_wp2
        refine ⟨by first | exact ⟨⟨_, _⟩, rfl⟩ | exact ⟨⟨_, _⟩, wd_merge _ _ _ _ _⟩ | exact ⟨⟨_, _⟩, (wd_merge _ _ _ _ _).trans (wd_merge _ _ _ _ _)⟩ | exact cl2 _ _ _ _ _ _, ?_⟩
        refine loudU_done ?_
        by_cases hge : ge = 0
        · subst hge
          go_wp2
          go_roundw
          case rel =>
            refine ⟨k + 1, g.rows.length, ⟨_, _⟩, a9, c9, g, by omega, by go_num, wd_merge3 _ _ _ _ _ _, Lib.hid ⟨by rw [← HI.out.1, HD.out, if_neg (by rw [HG.out]; simp), HG.out], rfl, by have := HS.out v ⟨b0, b1, b2, b3, b4, rs⟩ HI.out.2.2.1; rw [HG.out] at this; exact this, ?_, ?_⟩⟩
            · first | exact rowsA HRW.out (HFR.out rfl) rfl rfl | exact rowsX HRW.out (HFR.out rfl) rfl
            · exact (HFR.out rfl).le (by rw [wd_size]; simp only [shape, sz]; first | (simp; done) | (simp; omega))
          case measure => simp [intOf]; omega
        · have hgb : (ge == 0) = false := by rw [beq_eq_false_iff_ne]; exact hge
          have hgb2 : (ge != 0) = true := by rw [bne_iff_ne]; exact hge
          go_wp2
          refine bodyPost_ret (v := .tuple #[.agg #[.int .i64 0, .slice none 0 0], .int .i64 ge]) (by simp [results, Tryz.results12, go_sem]) rfl ?_
          rw [← HI.out.1, HD.out, if_pos (by rw [HG.out]; exact hge), HG.out]
          exact ⟨none, 0, rfl, RowAt.nil _, more_wd _ _ _, From.nil _ _⟩
      refine loudU_one [false, false, false, false, false, false, false, false, true] rfl ?_
      simp only [sel_t, sel_f, sel_n]
      go_wp2
      refine ⟨by first | exact ⟨⟨_, _⟩, rfl⟩ | exact ⟨⟨_, _⟩, wd_merge _ _ _ _ _⟩ | exact ⟨⟨_, _⟩, (wd_merge _ _ _ _ _).trans (wd_merge _ _ _ _ _)⟩ | exact cl2 _ _ _ _ _ _, ?_⟩
      refine loudU_one [false, false, false, false, false, false, false, true] rfl ?_
      simp only [sel_t, sel_f, sel_n]
      go_wp2
      refine ⟨by first | exact ⟨⟨_, _⟩, rfl⟩ | exact ⟨⟨_, _⟩, wd_merge _ _ _ _ _⟩ | exact ⟨⟨_, _⟩, (wd_merge _ _ _ _ _).trans (wd_merge _ _ _ _ _)⟩ | exact cl2 _ _ _ _ _ _, ?_⟩
      refine loudU_one [false, false, false, false, false, false, false, false, false, false, true] rfl ?_
      simp only [sel_t, sel_f, sel_n]
      go_wp2
      refine ⟨by first | exact ⟨⟨_, _⟩, rfl⟩ | exact ⟨⟨_, _⟩, wd_merge _ _ _ _ _⟩ | exact ⟨⟨_, _⟩, (wd_merge _ _ _ _ _).trans (wd_merge _ _ _ _ _)⟩ | exact cl2 _ _ _ _ _ _, ?_⟩
      refine loudU_one [false, false, false, false, false, false, false, false, false, false, false, true] rfl ?_
      simp only [sel_t, sel_f, sel_n]
      go_wp2
      refine ⟨by first | exact ⟨⟨_, _⟩, rfl⟩ | exact ⟨⟨_, _⟩, wd_merge _ _ _ _ _⟩ | exact ⟨⟨_, _⟩, (wd_merge _ _ _ _ _).trans (wd_merge _ _ _ _ _)⟩ | exact cl2 _ _ _ _ _ _, ?_⟩
      refine loudU_done ?_
      by_cases hge : ge = 0
      · subst hge
        go_wp2
        go_roundw
        case rel =>
          refine ⟨k + 1, g.rows.length, ⟨_, _⟩, a9, c9, g, by omega, by go_num, wd_merge3 _ _ _ _ _ _, Lib.hid ⟨by rw [← HI.out.1, HD.out, if_neg (by rw [HG.out]; simp), HG.out], rfl, by have := HS.out v ⟨b0, b1, b2, b3, b4, rs⟩ HI.out.2.2.1; rw [HG.out] at this; exact this, ?_, ?_⟩⟩
          · first | exact rowsA HRW.out (HFR.out rfl) rfl rfl | exact rowsX HRW.out (HFR.out rfl) rfl
          · exact (HFR.out rfl).le (by rw [wd_size]; simp only [shape, sz]; first | (simp; done) | (simp; omega))
        case measure => simp [intOf]; omega
      · have hgb : (ge == 0) = false := by rw [beq_eq_false_iff_ne]; exact hge
        have hgb2 : (ge != 0) = true := by rw [bne_iff_ne]; exact hge
        go_wp2
        refine bodyPost_ret (v := .tuple #[.agg #[.int .i64 0, .slice none 0 0], .int .i64 ge]) (by simp [results, Tryz.results12, go_sem]) rfl ?_
        rw [← HI.out.1, HD.out, if_pos (by rw [HG.out]; exact hge), HG.out]
        exact ⟨none, 0, rfl, RowAt.nil _, more_wd _ _ _, From.nil _ _⟩
      -- DONE
    · obtain rfl : k = l.length := by omega
      obtain ⟨hG, hn, hsm, hra, hfr⟩ := HI.out
      rw [List.drop_of_length_le (Nat.le_refl _)] at hG
      have hG2 : (v, (0 : Int)) = buildG Vw.zero (l.map Btm.b) := hG
      have HG := Lib.hid hG2
      have HN := Lib.hid hn
      have HRA := Lib.hid hra
      have HRF := Lib.hid hfr
      clear hG hG2 hn hsm hra hfr HI
      go_wp2
      refine bodyPost_ret (v := .tuple #[.agg #[.int .i64 v.next, .slice a n c], .int .i64 0]) (by simp [results, Tryz.results12, go_sem]) rfl ?_
      rw [← HG.out]
      refine ⟨a, c, by rw [HN.out], ?_, more_wd _ _ _, HRF.out.le (sz_ge _ _)⟩
      refine vrows_shift (hS := ?_) HRA.out HRF.out (by simp [shape, sz])
      rfl
end Go.Proofs.YtlanghikmccmbaaGreat
