/- law 36, the program's Apply: the walk. -/
import Derived.Test.YtlanghikmccmbaaVT
import Derived.Test.YtlanghikmccmbaaVO
import Derived.Test.YtlanghikmccmbaaVA
import Derived.Test.YtlanghikmccmbaaME
namespace Go.Proofs.Ytlanghikmccmbaa
open Go.ChangeShapes Go.WideShapes Go.ChangeAt Go.RowKit Go.Sort Go.Maps
set_option linter.unusedVariables false
set_option linter.unusedSimpArgs false
def applyP (v : Vw) (b : Bat) : Vw × Int := if (applyR v b).2 = 0 then applyR v b else (Vw.zero, (applyR v b).2)
theorem pnext_any (b : Bat) (a : Option Addr) (n cap : Nat) (w : World) (h0 : 0 ≤ b.base) (h1 : b.base ≤ 4611686018427387903) (h2 : 1 ≤ b.count) (h3 : b.count ≤ 32) :
    Calls Try.prog 56 #[.agg #[.int .i64 b.base, .int .i64 b.count, .int .i64 b.producer, .int .i64 b.epoch, .int .i64 b.seq, .slice a n cap]] w fun x w' => x = .returned (.int .i64 (b.base + b.count)) ∧ More w w' := by
  obtain ⟨b0, b1, b2, b3, b4, recs⟩ := b
  dsimp only at *
  refine calls_wd ?_
  go_enter Try.func56, Try.ntmps56
  go_wp2
  go_ret
  exact ⟨by go_num, more_wd _ _ _⟩
abbrev pblk (nx : Int) (a : Option Addr) (n cap : Nat) : Array Obj := #[.cells #[.int .i64 nx, .slice a n cap] 32]
abbrev qblk (b0 b1 b2 b3 b4 : Int) (a : Option Addr) (n cap : Nat) : Array Obj := #[.cells #[.int .i64 b0, .int .i64 b1, .int .i64 b2, .int .i64 b3, .int .i64 b4, .slice a n cap] 67]
abbrev rblk (x : VRow) : Array Obj := #[.cells #[.string (str x.key), .string (str x.value), .int .i64 x.offset, .int .i64 x.time] 34]
structure MapsI (k : Nat) (b0 : Int) (rs : List Rec) (ot of : Obj) : Prop where
  out : ∃ Dt Df, MapB Try.prog 9 tElem k Dt ot ∧ TouchD Dt (touchR rs) ∧ MapB Try.prog 9 fElem k Df of ∧ FreshD Df (freshR b0 rs)
set_option maxRecDepth 100000 in
set_option maxHeartbeats 6400000 in
theorem papply_any (v : Vw) (a : Option Addr) (cap : Nat) (b : Bat) (ba : Option Addr) (bc : Nat) (w : World) (hr : VRowsAt w a v.rows) (hf : ∀ x ∈ v.rows, x.key.length ≤ maxLen ∧ x.value.length ≤ maxLen) (hl : v.rows.length ≤ maxLen) (hb : RecsAt w ba b.recs) (hbl : b.recs.length ≤ maxLen) :
    Calls Try.prog 29 #[.agg #[.int .i64 v.next, .slice a v.rows.length cap], .agg #[.int .i64 b.base, .int .i64 b.count, .int .i64 b.producer, .int .i64 b.epoch, .int .i64 b.seq, .slice ba b.recs.length bc]] w fun x w' => ApRet w w' x (applyP v b) := by
  have HVC := Lib.hid (fun W hm => vcheck_any v a cap W (hr.more (w' := W) hm) hf hl)
  have HBC := Lib.hid (fun W hm => check_bat b ba bc W (hb.more (w' := W) hm) hbl)
  have HR := Lib.hid hr
  have HB := Lib.hid hb
  have HAP : Hid (applyR v b = if viewCheck v ≠ 0 then (v, viewCheck v) else if batCheck b ≠ 0 then (v, batCheck b) else if b.base < v.next then (v, 16)
    else if 4096 < (foldR b.base v.rows b.recs).length then (v, 9) else (⟨b.base + b.count, foldR b.base v.rows b.recs⟩, 0)) := Lib.hid rfl
  have HPP : Hid (applyP v b = if (applyR v b).2 = 0 then applyR v b else (Vw.zero, (applyR v b).2)) := Lib.hid rfl
  have HVO := Lib.hid (fun h => viewCheck_ok (v := v) h)
  have HBO := Lib.hid (fun h => batCheck_ok (b := b) h)
  have HNX := Lib.hid (fun W h0 h1 h2 h3 => pnext_any b ba b.recs.length bc W h0 h1 h2 h3)
  have HNO := Lib.hid (fun h => batNum_ok (b := b) h)
  have HCA := Lib.hid (fun h => chk_all b.recs (-1) b.count h)
  clear hr hf hb
  obtain ⟨nx, rows⟩ := v
  obtain ⟨b0, b1, b2, b3, b4, recs⟩ := b
  dsimp only at *
  obtain ⟨N, hN⟩ : ∃ N, rows.length = N := ⟨_, rfl⟩
  obtain ⟨M, hM⟩ : ∃ M, recs.length = M := ⟨_, rfl⟩
  rw [hN] at hl HVC HVO ⊢
  rw [hM] at hbl HBC HNX HNO ⊢
  have HN := Lib.hid hN
  have HM := Lib.hid hM
  clear hN hM
  obtain ⟨E, hE⟩ : ∃ E, viewCheck ⟨nx, rows⟩ = E := ⟨_, rfl⟩
  obtain ⟨F, hF⟩ : ∃ F, batCheck ⟨b0, b1, b2, b3, b4, recs⟩ = F := ⟨_, rfl⟩
  rw [hE] at HVC HVO HAP
  rw [hF] at HBC HBO HAP
  obtain ⟨G, hG⟩ : ∃ G, applyP ⟨nx, rows⟩ ⟨b0, b1, b2, b3, b4, recs⟩ = G := ⟨_, rfl⟩
  rw [hG] at HPP ⊢
  clear hE hF hG
  refine calls_wd ?_
  go_enter Try.func29, Try.ntmps29
  have HG1 := Lib.hid (fun e (h : applyR ⟨nx, rows⟩ ⟨b0, b1, b2, b3, b4, recs⟩ = (⟨nx, rows⟩, e)) (he : e ≠ 0) => show G = (Vw.zero, e) by rw [HPP.out, h, if_neg he])
  by_cases he : E = 0
  · subst he
    by_cases hf : F = 0
    · subst hf
      by_cases hlt : b0 < nx
      · have HG : Hid (G = (Vw.zero, 16)) := Lib.hid (HG1.out 16 (by rw [HAP.out, if_neg (by simp), if_neg (by simp), if_pos hlt]) (by decide))
        go_wp2_with (first | (go_at_call 33; ((with_reducible refine (HVC.out _ (more_wd _ _ _)).mono ?_); rintro e w1 ⟨rfl, x1, n1, rfl⟩)) | (go_at_call 55; ((with_reducible refine (HBC.out _ (more_wd _ _ _)).mono ?_); rintro e w1 ⟨rfl, x2, n2, rfl⟩)))
        refine bodyPost_ret (v := .tuple #[.agg #[.int .i64 0, .slice none 0 0], .int .i64 16]) (by simp [results, Try.results29, go_sem]) rfl ⟨none, 0, by rw [HG.out]; rfl, by rw [HG.out]; exact RowAt.nil _, more_wd _ _ _, by rw [HG.out]; intro h; cases h⟩
      · have hq := HNO.out (HBO.out rfl).1
        have hv := HVO.out rfl
        obtain ⟨p1, p2, p3, p4, -, -, -, -, -, -, hM32⟩ := hq
        have hN4 : N ≤ 4096 := by have := hv.2.2.1; omega
        have HVV := Lib.hid hv
        have HCK := Lib.hid (HCA.out (HBO.out rfl).2)
        have HG9 := Lib.hid (fun (h : 4096 < (foldR b0 rows recs).length) => HG1.out 9 (by rw [HAP.out, if_neg (by simp), if_neg (by simp), if_neg hlt, if_pos h]) (by decide))
        have HG0 := Lib.hid (fun (h : ¬ 4096 < (foldR b0 rows recs).length) => show G = (⟨b0 + b1, foldR b0 rows recs⟩, 0) by
          have e : applyR ⟨nx, rows⟩ ⟨b0, b1, b2, b3, b4, recs⟩ = (⟨b0 + b1, foldR b0 rows recs⟩, 0) := by rw [HAP.out, if_neg (by simp), if_neg (by simp), if_neg hlt, if_neg h]
          rw [HPP.out, e, if_pos rfl])
        clear HVO HBO HNO HCA HAP HG1 HPP hv
        have hmk1 := fun W => run_makeMap (P := Try.prog) 103 W
        have hmk2 := fun W => run_makeMap (P := Try.prog) 104 W
        go_wp2_with (first
          | (go_at_call 33; ((with_reducible refine (HVC.out _ (more_wd _ _ _)).mono ?_); rintro e w1 ⟨rfl, x1, n1, rfl⟩))
          | (go_at_call 55; ((with_reducible refine (HBC.out _ (more_wd _ _ _)).mono ?_); rintro e w1 ⟨rfl, x2, n2, rfl⟩)))
        clear HVC HBC hmk1 hmk2
        go_loopw [38] (fun i wr => ∃ (k : Nat) (m : Ext) (ot of : Obj), k ≤ M ∧ i = .int .i64 k ∧ wr = wd w [m.e, #[.cells #[.map (some (sz w.heap.size [1, x2.size, x1.size, 1, 1, 1]))] 104], #[ot], #[of], x2, x1, pblk 0 none 0 0, qblk b0 b1 b2 b3 b4 ba M bc, pblk nx a N cap] m.n ∧
          Hid (MapsI k b0 (recs.take k) ot of)) (fun i _ => M - (intOf i).toNat)
        case atStart => exact ⟨0, ⟨#[], _⟩, _, _, Nat.zero_le _, rfl, (wd_empty _ _ _).symm, Lib.hid ⟨_, _, mapb_made w, TouchD.made, mapb_made w, FreshD.made⟩⟩
        case round =>
          obtain ⟨k, m, ot, of, hkM, rfl, rfl, HI⟩ := hrel
          by_cases hk : k < M
          · obtain ⟨x, hx⟩ : ∃ x, recs[k]? = some x := ⟨_, List.getElem?_eq_getElem (by rw [HM.out]; exact hk)⟩
            obtain ⟨bb, off, rfl, hbb, c0, c1, c2, c3, c4, c5⟩ := recs_at HB.out k x hx
            have hck := recCheck_ok (HCK.out x (List.mem_of_getElem? hx))
            obtain ⟨⟨d0, d1, _, _⟩, ⟨d2, _⟩, _⟩ := hck
            have HT1 := Lib.hid (touchR_snoc recs k x hx)
            have HF1 := Lib.hid (freshR_snoc b0 recs k x hx)
            have HKEY := Lib.hid (WideMaps.keyOf_string_mk (P := Try.prog) Try.underlying9 (s := str x.key) (by rw [str_size]; unfold maxLen; omega))
            rw [str_data] at HKEY
            obtain ⟨Dt, Df, ht, hT, hf, hF⟩ := HI.out.out
            have HT := Lib.hid ht
            have HTD := Lib.hid hT
            have HF := Lib.hid hf
            have HFD := Lib.hid hF
            clear hx ht hT hf hF HI d2
            obtain ⟨xd, xt, xk, xkey, xdead, xval⟩ := x
            simp only at c0 c1 c2 c3 c4 c5 d0 d1
            cases xk with
            | false =>
              have HI2 : Hid (MapsI (k + 1) b0 (recs.take (k + 1)) ot of) := Lib.hid ⟨Dt, Df, mapb_mono HT.out (Nat.le_succ _), by rw [HT1.out]; exact HTD.out, mapb_mono HF.out (Nat.le_succ _), by rw [HF1.out]; exact HFD.out⟩
              clear HT HTD HF HFD HT1 HF1 HKEY
              go_wp2
              go_roundw
              case rel => exact ⟨k + 1, ⟨m.e ++ _, _⟩, ot, of, by omega, by go_num, by rw [wd_merge], HI2⟩
              case measure => simp [intOf]; omega
            | true =>
              cases xdead with
              | true =>
                go_wp2_with (first
                  | (at_mapUpdate; refine wp_mapUpdate_wd [_, _, _] [_, _, _, _, _, _] rfl _ _ _ rfl (string_keyed Try.underlying9) Try.underlying104 rfl HT.out (by unfold maxLen; omega) _ _ (.string xkey) rfl rfl HKEY.out (.lit (.bool true)) [] rfl ?_; intro ot2 hot2; have HT2 := Lib.hid hot2; clear hot2; simp only [List.cons_append, List.nil_append])
                  | (at_delete; refine wp_delete_wd [_, _, _, _] [_, _, _, _, _] rfl _ _ rfl (string_keyed Try.underlying9) Try.underlying103 rfl HF.out _ (.string xkey) rfl HKEY.out ?_; intro of2 hof2; have HF2 := Lib.hid hof2; clear hof2; simp only [List.cons_append, List.nil_append]))
                go_roundw
                case rel => exact ⟨k + 1, ⟨m.e ++ _, _⟩, ot2, of2, by omega, by go_num, by rw [wd_merge], Lib.hid ⟨_, _, HT2.out, by rw [HT1.out]; exact HTD.out.put _, mapb_mono HF2.out (Nat.le_succ _), by rw [HF1.out]; exact HFD.out.del _⟩⟩
                case measure => simp [intOf]; omega
              | false =>
                have HFE := Lib.hid (fElem_mk ⟨xkey, xval, b0 + xd, xt⟩)
                go_wp2_with (first
                  | (at_mapUpdate; refine wp_mapUpdate_wd [_, _, _] [_, _, _, _, _, _] rfl _ _ _ rfl (string_keyed Try.underlying9) Try.underlying104 rfl HT.out (by unfold maxLen; omega) _ _ (.string xkey) rfl rfl HKEY.out (.lit (.bool true)) [] rfl ?_; intro ot2 hot2; have HT2 := Lib.hid hot2; clear hot2; simp only [List.cons_append, List.nil_append])
                  | (at_mapUpdate; refine wp_mapUpdate_wd [_, _, _, _] [_, _, _, _, _] rfl _ _ _ rfl (string_keyed Try.underlying9) Try.underlying103 rfl HF.out (by unfold maxLen; omega) _ _ (.string xkey) rfl rfl HKEY.out _ _ HFE.out ?_; intro of2 hof2; have HF2 := Lib.hid hof2; clear hof2; simp only [List.cons_append, List.nil_append]))
                go_roundw
                case rel => exact ⟨k + 1, ⟨m.e ++ _, _⟩, ot2, of2, by omega, by go_num, by rw [wd_merge], Lib.hid ⟨_, _, HT2.out, by rw [HT1.out]; exact HTD.out.put _, HF2.out, by rw [HF1.out]; exact HFD.out.put (rowOf ⟨xd, xt, true, xkey, false, xval⟩ (b0 + xd))⟩⟩
                case measure => simp [intOf]; omega
          · obtain rfl : k = M := by omega
            obtain ⟨Dt, Df, ht, hT, hf, hF⟩ := HI.out.out
            rw [List.take_of_length_le (by rw [HM.out]; exact Nat.le_refl _)] at hT hF
            have HT := Lib.hid ht
            have HTD := Lib.hid hT
            have HF := Lib.hid hf
            have HFD := Lib.hid hF
            clear HI ht hT hf hF
            have HCL := Lib.hid (fun W hm => clone_rows a cap rows W (HR.out.more (w' := W) hm) (by rw [HN.out]; omega))
            rw [HN.out] at HCL
            have HKL : Hid (∀ x ∈ rows, x.key.length ≤ maxLen) := Lib.hid (fun x hx => by
              have := rowE_ok (rowsE_each HVV.out.2.2.2.1 x hx)
              unfold maxLen; omega)
            have HDL := Lib.hid (fun (top t12 y3 : Array Obj) (n : Nat) (v : Value) hrow => delf_wd (w := w) [t12, y3, m.e] [#[of], x2, x1, pblk 0 none 0 0, qblk b0 b1 b2 b3 b4 ba k bc, pblk nx a N cap] top ot (n := n) HT.out HTD.out v rows hrow (by rw [HN.out]; omega) HKL.out)
            rw [HN.out] at HDL
            obtain ⟨KR, hKR⟩ : ∃ KR, keepR (fun x => decide (x.key ∈ touchR recs)) rows = KR := ⟨_, rfl⟩
            rw [hKR] at HDL
            have HKR := Lib.hid hKR
            obtain ⟨K, hK⟩ : ∃ K, KR.length = K := ⟨_, rfl⟩
            have hK4 : K ≤ 4096 := by rw [← hK, ← hKR]; exact Nat.le_trans (keepR_len _ _) (by rw [HN.out]; exact hN4)
            have HK := Lib.hid hK
            clear hK hKR
            go_wp2_with (first
              | (go_at_call 56; ((with_reducible refine (HNX.out _ p3 p4 p1 p2).mono ?_); rintro e w3 ⟨rfl, x3, n3, rfl⟩))
              | ((go_at_call 37; ((with_reducible refine (HCL.out _ (more_wd _ _ _)).mono ?_); rintro e w1 ⟨v9, rfl, x1⟩; obtain ⟨m9, rfl, hr9⟩ := x1.wd; clear x1)); obtain ⟨a9, c9, rfl⟩ := rowIn_slice hr9; have HR9 := Lib.hid hr9; clear hr9)
              | (go_at_call 36; refine (HDL.out m9.e (pblk (b0 + b1) none 0 0) x3 m9.n _ HR9.out).mono ?_; rintro e w5 hs; obtain ⟨a5, c5, m5, rfl, rfl, hr5⟩ := hs.out; rw [HK.out] at hr5; rw [HK.out]; have HR5 := Lib.hid hr5; clear hs hr5; simp only [List.cons_append, List.nil_append])
              | (at_range; refine wp_range_wd [_, _, _, _, _, _] [_, _, _, _, _] rfl _ rfl (string_keyed Try.underlying9) Try.underlying103 rfl HF.out ?_; intro oi hoi; have HOI := Lib.hid hoi; clear hoi; simp only [List.cons_append, List.nil_append]))
            go_frame
            have HUF := Lib.hid (apinv (asc_of HVV.out.2.2.2.2) b0 recs)
            go_loopw [82] (fun _ wr => ∃ (A : List VRow) (e Y : Array Obj) (oj : Obj) (n9 n' : Nat) (a' : Option Addr) (c' cnt : Nat) (left : Lit → Bool), n' ≤ 4128 ∧
              wr = wd w [e, #[oj], Y, pblk (b0 + b1) a' n' c', x3, m.e, #[.cells #[.map (some (sz w.heap.size [1, x2.size, x1.size, 1, 1, 1]))] 104], #[ot], #[of], x2, x1, pblk 0 none 0 0, qblk b0 b1 b2 b3 b4 ba k bc, pblk nx a N cap] n9 ∧ Hid (Y.size = m5.e.size) ∧
              Hid (LoopI (wd w [e, #[oj], Y, pblk (b0 + b1) a' n' c', x3, m.e, #[.cells #[.map (some (sz w.heap.size [1, x2.size, x1.size, 1, 1, 1]))] 104], #[ot], #[of], x2, x1, pblk 0 none 0 0, qblk b0 b1 b2 b3 b4 ba k bc, pblk nx a N cap] n9) w
                [pblk (b0 + b1) a' n' c', x3, m.e, #[.cells #[.map (some (sz w.heap.size [1, x2.size, x1.size, 1, 1, 1]))] 104], #[ot], #[of], x2, x1, pblk 0 none 0 0, qblk b0 b1 b2 b3 b4 ba k bc, pblk nx a N cap] [x2, x1, pblk 0 none 0 0, qblk b0 b1 b2 b3 b4 ba k bc, pblk nx a N cap] Df k (freshR b0 recs) KR A a' n' c' cnt of oj left))
              (fun _ wr => wr.rangeLeft (sz w.heap.size [x2.size, x1.size, 1, 1, 1]) (sz w.heap.size [m5.e.size, 1, x3.size, m.e.size, 1, 1, 1, x2.size, x1.size, 1, 1, 1]))
            case atStart =>
              refine ⟨[], #[], m5.e, oi, _, K, a5, c5, Maps.size Df, Maps.has Df, by omega, (wd_empty _ _ _).symm, Lib.hid rfl, Lib.hid ⟨HOI.out, ColR.start HFD.out, ?_, by rw [List.append_nil]; exact HK.out, by have := mapb_size HF.out; simpa using this⟩⟩
              rw [List.append_nil]
              have h5 := owns_of_row (w := w) (L := [pblk (b0 + b1) a5 K c5, x3, m.e, #[.cells #[.map (some (sz w.heap.size [1, x2.size, x1.size, 1, 1, 1]))] 104], #[ot], #[of], x2, x1, pblk 0 none 0 0, qblk b0 b1 b2 b3 b4 ba k bc, pblk nx a N cap]) (k := m5.n) HR5.out
              show World.ownsRow _ _ _ _ _ KR.length _
              rw [HK.out]
              exact owns_more (owns_more h5 ⟨#[oi], m5.n, rfl⟩) ⟨#[], m5.n, rfl⟩
            case round =>
              obtain ⟨A, e, Y, oj, n9, n', a', c', cnt, left, hn', rfl, HY, HI⟩ := hrel
              have HRR := Lib.hid (show sz w.heap.size (shape ([Y, pblk (b0 + b1) a' n' c', x3, m.e, #[.cells #[.map (some (sz w.heap.size [1, x2.size, x1.size, 1, 1, 1]))] 104], #[ot]] ++ #[of] :: [x2, x1, pblk 0 none 0 0, qblk b0 b1 b2 b3 b4 ba k bc, pblk nx a N cap])) = sz w.heap.size [m5.e.size, 1, x3.size, m.e.size, 1, 1, 1, x2.size, x1.size, 1, 1, 1] from by rw [← HY.out]; rfl)
              go_wp2_with (first
                | (at_next; refine wp_next_at [_] [_, _, _, _, _, _] [_, _, _, _, _] rfl _ rfl (string_keyed Try.underlying9) rfl HRR.out HI.out.rng ?_ ?_))
              · intro hc0 hl0
                have HDONE := Lib.hid (HI.out.col.done hl0)
                have HUN := Lib.hid HI.out.col.uniq
                have HSW := Lib.hid (sort_wd HI.out.rng.sort HI.out.own (by rw [HI.out.len]; omega))
                have HLEN := Lib.hid HI.out.len
                clear HI hc0 hl0 HRR
                have HFS := Lib.hid (fun (s6 : List VRow) (hp : s6.Perm (KR ++ A)) (hasc : ((KR ++ A).Pairwise fun x y => x.key ≠ y.key) → Asc s6) => fold_sorted (asc_of HVV.out.2.2.2.2) b0 recs (hasc (rows_uniq (asc_of HVV.out.2.2.2.2) HUF.out HKR.out HDONE.out HUN.out)) (fun x => (hp.mem_iff).trans (rows_mem HKR.out HDONE.out x)))
                by_cases h9 : 4096 < n'
                · have HG : Hid (∀ (s6 : List VRow), s6.Perm (KR ++ A) → s6 = foldR b0 rows recs → G = (Vw.zero, 9)) := Lib.hid (fun s6 hp he => HG9.out (by rw [← he, hp.length_eq, HLEN.out]; exact h9))
                  go_wp2_with (first
                  | (go_at_call 58; refine HSW.out.mono ?_; rintro e6 w6 hs; obtain ⟨s6, e7, Y7, n7, rfl, hp7, ha7, hY7, rfl, hv7⟩ := hs.out; have HP7 := Lib.hid hp7; have HA7 := Lib.hid ha7; have HV7 := Lib.hid hv7; clear hs hp7 ha7 hY7 hv7))
                  refine bodyPost_ret (v := .tuple #[.agg #[.int .i64 0, .slice none 0 0], .int .i64 9]) (by simp [results, Try.results29, go_sem]) rfl ?_
                  rw [HG.out s6 HP7.out (HFS.out s6 HP7.out HA7.out)]
                  exact ⟨none, 0, rfl, RowAt.nil _, more_wd _ _ _, by intro h; cases h⟩
                · have HG : Hid (∀ (s6 : List VRow), s6.Perm (KR ++ A) → s6 = foldR b0 rows recs → G = (⟨b0 + b1, s6⟩, 0)) := Lib.hid (fun s6 hp he => by rw [he]; exact HG0.out (by rw [← he, hp.length_eq, HLEN.out]; exact h9))
                  go_wp2_with (first
                  | (go_at_call 58; refine HSW.out.mono ?_; rintro e6 w6 hs; obtain ⟨s6, e7, Y7, n7, rfl, hp7, ha7, hY7, rfl, hv7⟩ := hs.out; have HP7 := Lib.hid hp7; have HA7 := Lib.hid ha7; have HV7 := Lib.hid hv7; clear hs hp7 ha7 hY7 hv7))
                  refine bodyPost_ret (v := .tuple #[.agg #[.int .i64 (b0 + b1), .slice a' n' c'], .int .i64 0]) (by simp [results, Try.results29, go_sem]) rfl ?_
                  rw [HG.out s6 HP7.out (HFS.out s6 HP7.out HA7.out)]
                  have hl7 : s6.length = n' := by rw [HP7.out.length_eq, HLEN.out]
                  have hv8 := vown_shift (x := e7) (A := [#[oj], Y7]) (L := [pblk (b0 + b1) a' n' c', x3, m.e, #[.cells #[.map (some (sz w.heap.size [1, x2.size, x1.size, 1, 1, 1]))] 104], #[ot], #[of], x2, x1, pblk 0 none 0 0, qblk b0 b1 b2 b3 b4 ba k bc, pblk nx a N cap]) (L' := [pblk (b0 + b1) a' n' c', x3, m.e, #[.cells #[.map (some (sz w.heap.size [1, x2.size, x1.size, 1, 1, 1]))] 104], #[ot], #[of], x2, x1, pblk (b0 + b1) a' n' c', qblk b0 b1 b2 b3 b4 ba k bc, pblk nx a N cap]) (n' := n7) rfl HV7.out
                  have hv9 := vown_n hv8 hl7
                  exact ⟨a', c', by rw [hl7], rowat_of_owns hl7 hv9, more_wd _ _ _, fun _ => from_owns (sz_ge _ _) hl7 hv9⟩
              · intro key v kl yd yp oi2 nd2 cnt2 hkey hlk hv hat hrg2 hlt2 hen
                obtain ⟨kb, rfl, rfl, hkb⟩ := Maps.keyOf_str Try.underlying9 hkey
                obtain ⟨x, hxF, hxk, hxy⟩ := HFD.out.told hat
                obtain ⟨x', rfl, hx'⟩ := fElem_inv hv
                rw [hxy] at hx'
                obtain rfl : x = x' := by cases hx'; rfl
                subst hxk
                have HCOL := Lib.hid (HI.out.col.step HUF.out.uniq hxF hlk)
                have HRG := Lib.hid hrg2
                have HME := Lib.hid (range_left (w := w) (A := [e]) (nd := n9) HI.out.rng HRR.out)
                have hAl : A.length + cnt ≤ k := HI.out.bnd
                have HNL := Lib.hid (show n' = K + A.length by rw [← HI.out.len, List.length_append, HK.out])
                have HVO : Hid (VOwn (wd w [e ++ (rblk x ++ rblk x), #[oi2], Y, pblk (b0 + b1) a' n' c', x3, m.e, #[.cells #[.map (some (sz w.heap.size [1, x2.size, x1.size, 1, 1, 1]))] 104], #[ot], #[of], x2, x1, pblk 0 none 0 0, qblk b0 b1 b2 b3 b4 ba k bc, pblk nx a N cap] nd2) w [pblk (b0 + b1) a' n' c', x3, m.e, #[.cells #[.map (some (sz w.heap.size [1, x2.size, x1.size, 1, 1, 1]))] 104], #[ot], #[of], x2, x1, pblk 0 none 0 0, qblk b0 b1 b2 b3 b4 ba k bc, pblk nx a N cap] (.slice a' n' c') (KR ++ A)) := Lib.hid (by
                  have h := vown_iter (J := oi2) (n' := nd2) HI.out.rng.sort HI.out.own
                  rw [← wd_merge]
                  exact owns_more h ⟨_, nd2, rfl⟩)
                have HLEN := Lib.hid HI.out.len
                have HIS := Lib.hid hrg2.sort
                have HENT := Lib.hid hen
                clear HI hkey hv hat hrg2 hxy hx' hlk hxF hkb
                have HX := Lib.hid (show ∃ y, y = x from ⟨x, rfl⟩)
                obtain ⟨xk, xv, xo, xt⟩ := x
                have hen := HENT.out
                go_wp2_with (first
                  | (at_builtin; refine at_append_map (e := e ++ (rblk ⟨xk, xv, xo, xt⟩ ++ rblk ⟨xk, xv, xo, xt⟩)) (Y := Y) (I := oi2) (n := nd2) (by rw [wd_merge, wd_merge]) HIS.out n' HLEN.out rfl _ _ rfl rfl HVO.out ⟨xk, xv, xo, xt⟩ _ _ rfl (fun j u hu => (cell_top w _ _ _ _ j).trans (by simpa [vrCells] using hu)) (by omega) ?_; intro a8 c8 e8 Y8 n8 hY8 hv8; have HY8 := Lib.hid hY8; have HV8 := Lib.hid hv8; clear hY8 hv8))
                go_roundw
                case rel =>
                  refine ⟨A ++ [⟨xk, xv, xo, xt⟩], e8, Y8, oi2, n8, n' + 1, by have := HNL.out; omega, a8, c8, rfl, Lib.hid (HY8.out.trans HY.out), cnt2, _, Lib.hid ⟨HRG.out, HCOL.out, ?_, by rw [← List.append_assoc, List.length_append, HLEN.out]; rfl, by rw [List.length_append]; simp only [List.length_cons, List.length_nil]; omega⟩⟩
                  rw [← List.append_assoc]
                  exact vown_shift (x := e8) (A := [#[oi2], Y8]) (L := [pblk (b0 + b1) a' n' c', x3, m.e, #[.cells #[.map (some (sz w.heap.size [1, x2.size, x1.size, 1, 1, 1]))] 104], #[ot], #[of], x2, x1, pblk 0 none 0 0, qblk b0 b1 b2 b3 b4 ba k bc, pblk nx a N cap]) (L' := [pblk (b0 + b1) a8 (n' + 1) c8, x3, m.e, #[.cells #[.map (some (sz w.heap.size [1, x2.size, x1.size, 1, 1, 1]))] 104], #[ot], #[of], x2, x1, pblk 0 none 0 0, qblk b0 b1 b2 b3 b4 ba k bc, pblk nx a N cap]) (n' := n8) rfl HV8.out
                case measure =>
                  have h8 := range_left (w := w) (A := [e8]) (A2 := [Y8, pblk (b0 + b1) a8 (n' + 1) c8, x3, m.e, #[.cells #[.map (some (sz w.heap.size [1, x2.size, x1.size, 1, 1, 1]))] 104], #[ot]]) (L := [x2, x1, pblk 0 none 0 0, qblk b0 b1 b2 b3 b4 ba k bc, pblk nx a N cap]) (nd := n8) HRG.out (r := sz w.heap.size [m5.e.size, 1, x3.size, m.e.size, 1, 1, 1, x2.size, x1.size, 1, 1, 1]) (by rw [← HY.out, ← HY8.out]; rfl)
                  exact Nat.lt_of_le_of_lt (Nat.le_of_eq h8) (Nat.lt_of_lt_of_eq hlt2 HME.out.symm)
    · have HG : Hid (G = (Vw.zero, F)) := Lib.hid (HG1.out F (by rw [HAP.out, if_neg (by simp), if_pos hf]) hf)
      have hfb : (F == 0) = false := by rw [beq_eq_false_iff_ne]; exact hf
      have hfb2 : (F != 0) = true := by rw [bne_iff_ne]; exact hf
      go_wp2_with (first | (go_at_call 33; ((with_reducible refine (HVC.out _ (more_wd _ _ _)).mono ?_); rintro e w1 ⟨rfl, x1, n1, rfl⟩)) | (go_at_call 55; ((with_reducible refine (HBC.out _ (more_wd _ _ _)).mono ?_); rintro e w1 ⟨rfl, x2, n2, rfl⟩)))
      refine bodyPost_ret (v := .tuple #[.agg #[.int .i64 0, .slice none 0 0], .int .i64 F]) (by simp [results, Try.results29, go_sem]) rfl ⟨none, 0, by rw [HG.out]; rfl, by rw [HG.out]; exact RowAt.nil _, more_wd _ _ _, by rw [HG.out]; intro h; exact absurd h hf⟩
  · have HG : Hid (G = (Vw.zero, E)) := Lib.hid (HG1.out E (by rw [HAP.out, if_pos he]) he)
    have heb : (E == 0) = false := by rw [beq_eq_false_iff_ne]; exact he
    have heb2 : (E != 0) = true := by rw [bne_iff_ne]; exact he
    go_wp2_with (first | (go_at_call 33; ((with_reducible refine (HVC.out _ (more_wd _ _ _)).mono ?_); rintro e w1 ⟨rfl, x1, n1, rfl⟩)) | (go_at_call 55; ((with_reducible refine (HBC.out _ (more_wd _ _ _)).mono ?_); rintro e w1 ⟨rfl, x2, n2, rfl⟩)))
    refine bodyPost_ret (v := .tuple #[.agg #[.int .i64 0, .slice none 0 0], .int .i64 E]) (by simp [results, Try.results29, go_sem]) rfl ⟨none, 0, by rw [HG.out]; rfl, by rw [HG.out]; exact RowAt.nil _, more_wd _ _ _, by rw [HG.out]; intro h; exact absurd h he⟩
end Go.Proofs.Ytlanghikmccmbaa
