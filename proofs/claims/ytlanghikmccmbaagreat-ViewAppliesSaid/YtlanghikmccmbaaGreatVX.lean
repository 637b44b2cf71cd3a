/- ViewApplies: the walk. -/
import Derived.Test.YtlanghikmccmbaaGreatVW
import Derived.Test.YtlanghikmccmbaaGreatVM
import Derived.Test.YtlanghikmccmbaaGreatMF
namespace Go.Proofs.YtlanghikmccmbaaGreat
open Go.ChangeShapes Go.WideShapes Go.ChangeAt Go.RowKit
set_option linter.unusedVariables false
set_option linter.unusedSimpArgs false
theorem mid_cell (w : World) (c : Array Value) (t : TypeId) (L : List (Array Obj)) (n i : Nat) (A : List (Array Obj)) : (wd w (A ++ #[.cells c t] :: L) n).cell? ⟨sz w.heap.size (shape L), i, none⟩ = c[i]? := by
  simp only [World.cell?, mid_at w (.cells c t) L n A]
  simp
theorem cls_any (w : World) (L : List (Array Obj)) (n : Nat) : ∃ m : Ext, wd w L n = wd w [m.e] m.n := by
  obtain ⟨e, k, h⟩ := more_wd w L n
  exact ⟨⟨e, k⟩, h⟩
theorem cell_lt {W : World} {b i : Nat} {u : Value} (h : W.cell? ⟨b, i, none⟩ = some u) : b < W.heap.size := by
  rcases Nat.lt_or_ge b W.heap.size with h' | h'
  · exact h'
  · simp [World.cell?, Array.getElem?_eq_none h'] at h
theorem vwto_ap {w w' : World} {x : Ending} {g : Vw × Int} {nx e : Int} {N : Nat} {rows : List VRow} (h1 : g.1.next = nx) (h2 : g.1.rows.length = N) (h3 : g.1.rows = rows) (h4 : g.2 = e) (h : ApRet w w' x g) : VwTo w w' x nx N rows e := by
  subst h1 h2 h3 h4
  obtain ⟨a, c, h5, h6, h7, _⟩ := h.out
  exact ⟨a, c, h5, h6, h7⟩
theorem apply_len (v : Vw) (b : Bat) (h : v.rows.length ≤ 60) : (applyR v b).1.rows.length ≤ 4096 := by
  unfold applyR
  split
  · show v.rows.length ≤ _; omega
  · split
    · show v.rows.length ≤ _; omega
    · split
      · show v.rows.length ≤ _; omega
      · split
        · show v.rows.length ≤ _; omega
        · show (foldR b.base v.rows b.recs).length ≤ _; omega
theorem apply_len' (v : Vw) (b : Bat) (h : v.rows.length ≤ 4096) : (applyR v b).1.rows.length ≤ 4096 := by
  unfold applyR
  split
  · exact h
  · split
    · exact h
    · split
      · exact h
      · split
        · exact h
        · show (foldR b.base v.rows b.recs).length ≤ _; omega
theorem build_len : ∀ (l : List Bat) (v : Vw), v.rows.length ≤ 4096 → (buildG v l).1.rows.length ≤ 4096
  | [], v, h => h
  | b :: l, v, h => by
    rw [buildG]
    split
    · exact Nat.zero_le _
    · exact build_len l _ (apply_len' v b h)
set_option maxRecDepth 100000 in
set_option maxHeartbeats 8000000 in
theorem applies_any (v : Vw) (a : Option Addr) (cap : Nat) (b : Bat) (ba : Option Addr) (bc : Nat) (ad : Option Addr) (lc : Nat) (l : List Btm) (w : World) (hr : VRowsAt w a v.rows) (hf : ∀ x ∈ v.rows, x.key.length ≤ maxLen ∧ x.value.length ≤ maxLen) (hl : v.rows.length ≤ maxLen) (hb : RecsAt w ba b.recs) (hbl : b.recs.length ≤ maxLen)
    (hB : BatsAt w ad l) (hBf : ∀ x ∈ l, x.b.recs.length ≤ maxLen) (hBm : l.length ≤ maxLen) :
    Calls Tryz.prog 3 #[.agg #[.int .i64 v.next, .slice a v.rows.length cap], .agg #[.int .i64 b.base, .int .i64 b.count, .int .i64 b.producer, .int .i64 b.epoch, .int .i64 b.seq, .slice ba b.recs.length bc], .slice ad l.length lc] w fun e w' => e = .returned (.bool true) ∧ More w w' := by
  have HAW := Lib.hid awake36
  have HLI := Lib.hid (fun W hm => vlight_any v a cap W (hr.more (w' := W) hm) hf hl)
  have HLB := Lib.hid (fun W hm => light_bat b ba bc W (hb.more (w' := W) hm) hbl)
  have HLL := Lib.hid (fun W hm => light_bats ad lc l 12 W (hB.more (w' := W) hm) hBf hBm (by decide))
  have HR := Lib.hid hr
  have HF := Lib.hid hf
  have HLN := Lib.hid hl
  have HPB := Lib.hid (fun W hm => pbuild_any ad lc l W (hB.more (w' := W) hm) hBf hBm)
  have HRB := Lib.hid (fun W hm => rbuild_any ad lc l W (hB.more (w' := W) hm) hBf hBm)
  have HRA := Lib.hid (fun W hm => rapply_any v a cap b ba bc W (hr.more (w' := W) hm) hf hl (hb.more (w' := W) hm) hbl)
  have HPA := Lib.hid (fun W a' c' (h0 : VRowsAt W a' v.rows) hm => papply_any v a' c' b ba bc W h0 hf hl (hb.more (w' := W) hm) hbl)
  have HVC := Lib.hid (fun W a' c' (h0 : VRowsAt W a' v.rows) => vcheck_any v a' c' W h0 hf hl)
  have HRC := Lib.hid (fun W hm => rvcheck_any v a cap W (hr.more (w' := W) hm) hf hl)
  have HAL := Lib.hid (apply_len v b)
  clear hr hf hb hB hBf hbl hl
  obtain ⟨nx, N, hnx, hN⟩ : ∃ nx N, v.next = nx ∧ v.rows.length = N := ⟨_, _, rfl, rfl⟩
  have HN := Lib.hid hN
  have HNX := Lib.hid hnx
  rw [hnx, hN] at HLI HRA HPA HVC HRC ⊢
  rw [hN] at HAL HLN
  clear hnx hN
  obtain ⟨M, hM⟩ : ∃ M, b.recs.length = M := ⟨_, rfl⟩
  rw [hM] at HLB HRA HPA ⊢
  obtain ⟨K, hK⟩ : ∃ K, l.length = K := ⟨_, rfl⟩
  rw [hK] at HLL HPB HRB hBm ⊢
  unfold maxLen at hBm
  obtain ⟨vc, hvc⟩ : ∃ vc, viewCheck v = vc := ⟨_, rfl⟩
  rw [hvc] at HVC HRC
  have hbl0 := build_len (l.map Btm.b) Vw.zero (by decide)
  obtain ⟨bg, hbg⟩ : ∃ bg, buildG Vw.zero (l.map Btm.b) = bg := ⟨_, rfl⟩
  rw [hbg] at HPB HRB hbl0
  obtain ⟨bn, BN, brows, be, hb1, hb2, hb3, hb4⟩ : ∃ bn BN brows be, bg.1.next = bn ∧ bg.1.rows.length = BN ∧ bg.1.rows = brows ∧ bg.2 = be := ⟨_, _, _, _, rfl, rfl, rfl, rfl⟩
  have hBN : BN ≤ 4096 := by rw [← hb2]; exact hbl0
  have hbrl : brows.length = BN := by rw [← hb3]; exact hb2
  obtain ⟨ag, hag⟩ : ∃ ag, applyR v b = ag := ⟨_, rfl⟩
  have hap : applyP v b = if ag.2 = 0 then ag else (Vw.zero, ag.2) := by rw [← hag]; rfl
  rw [hag] at HRA HAL
  rw [hap] at HPA
  obtain ⟨gn, GN, grows, ge, hg1, hg2, hg3, hg4⟩ : ∃ gn GN grows ge, ag.1.next = gn ∧ ag.1.rows.length = GN ∧ ag.1.rows = grows ∧ ag.2 = ge := ⟨_, _, _, _, rfl, rfl, rfl, rfl⟩
  have hgrl : grows.length = GN := by rw [← hg3]; exact hg2
  have HAL2 : Hid (N ≤ 60 → GN ≤ 4096) := Lib.hid (fun h => by rw [← hg2]; exact HAL.out h)
  have HPB2 := Lib.hid (fun W hm => (HPB.out W hm).mono fun e w' h => vwto_of hb1 hb2 hb3 hb4 h)
  have HRB2 := Lib.hid (fun W hm => (HRB.out W hm).mono fun e w' h => vwto_of hb1 hb2 hb3 hb4 h)
  have HRA2 := Lib.hid (fun W hm => (HRA.out W hm).mono fun e w' h => vwto_ap hg1 hg2 hg3 hg4 h)
  have HOWN : Hid (N ≤ 1000000 → ∀ W, More w W → Calls Tryz.prog 8 #[.agg #[.int .i64 nx, .slice a N cap]] W fun x w' => VwIs W w' x nx N v.rows) := Lib.hid (fun hn W hm => by
    have h := own_any v a cap W (HR.out.more hm) (by rw [HN.out]; exact hn)
    rw [HNX.out, HN.out] at h
    exact h.mono fun e w' h => vwis_of HNX.out HN.out h)
  have back2 : ∀ (rows : List VRow) (n : Int) (R : Nat), rows.length = R → R ≤ 1000000 → ∀ W a' c', VRowsAt W a' rows → Calls Tryz.prog 14 #[.agg #[.int .i64 n, .slice a' R c']] W fun x w' => VwIs W w' x n R rows := fun rows n R hR hR2 W a' c' h0 => by
    have h := back_any ⟨n, rows⟩ a' c' W h0 (by show rows.length ≤ _; omega)
    dsimp only at h
    rw [hR] at h
    exact h.mono fun e w' h => vwis_of (v := ⟨n, rows⟩) rfl hR h
  have same2 : ∀ (rows : List VRow) (n : Int) (R : Nat), rows.length = R → R ≤ 1000000 → ∀ W a1 c1 a2 c2, VRowsAt W a1 rows → VRowsAt W a2 rows → Calls Tryz.prog 13 #[.agg #[.int .i64 n, .slice a1 R c1], .agg #[.int .i64 n, .slice a2 R c2]] W fun e w' => e = .returned (.bool true) ∧ More W w' := fun rows n R hR hR2 W a1 c1 a2 c2 h1 h2 => by
    have h := rvsame_any ⟨n, rows⟩ ⟨n, rows⟩ a1 a2 c1 c2 W h1 h2 (by show rows.length ≤ _; unfold maxLen; omega) (by show rows.length ≤ _; unfold maxLen; omega)
    dsimp only at h
    rw [hR, decide_eq_true rfl] at h
    exact h
  have HBK := Lib.hid back2
  have HSM := Lib.hid same2
  clear HPB HRB HRA HAL back2 same2 hbg hap hag hb1 hb2 hb3 hb4 hbl0 hvc hK hM
  have HGRL := Lib.hid hgrl
  have HBRL := Lib.hid hbrl
  have hvr : v.rows.length = N := HN.out
  have HVRL := Lib.hid hvr
  clear hgrl hbrl hvr
  obtain ⟨xn, XN, xrows, hxl, hxN, hxe, hxp⟩ : ∃ (xn : Int) (XN : Nat) (xrows : List VRow), xrows.length = XN ∧ (N ≤ 60 → XN ≤ 4096) ∧ (ge = 0 → xn = gn ∧ XN = GN ∧ xrows = grows) ∧ (∀ W a' c', VRowsAt W a' v.rows → More w W → Calls Tryz.prog 9 #[.agg #[.int .i64 nx, .slice a' N c'], .agg #[.int .i64 b.base, .int .i64 b.count, .int .i64 b.producer, .int .i64 b.epoch, .int .i64 b.seq, .slice ba M bc]] W fun x w' => VwTo W w' x xn XN xrows ge) := by
    by_cases he : ge = 0
    · refine ⟨gn, GN, grows, HGRL.out, HAL2.out, fun _ => ⟨rfl, rfl, rfl⟩, fun W a' c' h0 hm => (HPA.out W a' c' h0 hm).mono fun e w' h => ?_⟩
      rw [hg4, if_pos he] at h
      exact vwto_ap hg1 hg2 hg3 hg4 h
    · refine ⟨0, 0, [], rfl, fun _ => Nat.zero_le _, fun h => absurd h he, fun W a' c' h0 hm => (HPA.out W a' c' h0 hm).mono fun e w' h => ?_⟩
      rw [hg4, if_neg he] at h
      exact vwto_ap rfl rfl rfl rfl h
  have HPA2 := Lib.hid hxp
  have HXL := Lib.hid hxl
  have HXN := Lib.hid hxN
  have HXE := Lib.hid hxe
  clear hxp hxl hxN hxe
  clear HPA hg1 hg2 hg3 hg4
  obtain ⟨b0, b1, b2, b3, b4, brecs⟩ := b
  dsimp only at HLB HRA2 HPA2
  refine calls_wd ?_
  go_enter Tryz.func3, Tryz.ntmps3
  go_wp2_with (first
    | (go_at_call 4; ((with_reducible refine (HLI.out _ (more_wd _ _ _)).mono ?_); rintro e w2 hbr; obtain ⟨bl, rfl, ⟨x9, n9, rfl⟩, hyes⟩ := hbr.out; clear hbr; cases bl <;> (try have h60 := (hyes rfl).1)))
    | (go_at_call 5; ((with_reducible refine (HLB.out _ (more_wd _ _ _)).mono ?_); rintro e w2 hbr; obtain ⟨bl, rfl, ⟨x8, n8, rfl⟩⟩ := hbr.out; clear hbr; cases bl))
    | (go_at_call 6; ((with_reducible refine (HLL.out _ (more_wd _ _ _)).mono ?_); rintro e w2 hbr; obtain ⟨bl, rfl, ⟨x7, n7, rfl⟩, -⟩ := hbr.out; clear hbr; cases bl))
    | (go_at_call 7; ((with_reducible refine (HAW.out _).mono ?_); rintro e w1 ⟨rfl, x1, n1, rfl⟩)))
  · go_ret
    exact ⟨rfl, more_wd _ _ _⟩
  · go_ret
    exact ⟨rfl, more_wd _ _ _⟩
  · go_ret
    exact ⟨rfl, more_wd _ _ _⟩
  clear hyes HLI HLB HLL
  have HO2 := Lib.hid (HOWN.out (by omega))
  go_wp2_with (first
    | (go_at_call 8; ((with_reducible refine (HO2.out _ (more_wd _ _ _)).mono ?_); rintro e w2 hq; obtain ⟨ao, co, rfl, hro, x1, n1, rfl⟩ := hq.out; rw [wd_plus] at hro; have HRO := Lib.hid hro; clear hro hq))
    | (go_at_call 9; ((with_reducible refine (HPA2.out _ _ _ (HRO.out.more (more_cons (more_same _ _ _ _))) (more_wd _ _ _)).mono ?_); rintro e w2 hq; obtain ⟨ax, cx, rfl, hx, x2, n2, rfl⟩ := hq.out; rw [wd_plus] at hx; have HX := Lib.hid hx; clear hx hq))
    | (go_at_call 10; ((with_reducible refine (HRA2.out _ (more_wd _ _ _)).mono ?_); rintro e w2 hq; obtain ⟨ay, cy, rfl, hy, x3, n3, rfl⟩ := hq.out; rw [wd_plus] at hy; have HY := Lib.hid hy; clear hy hq))
    | (go_at_call 11; ((with_reducible refine (HPB2.out _ (more_wd _ _ _)).mono ?_); rintro e w2 hq; obtain ⟨az, cz, rfl, hz, x4, n4, rfl⟩ := hq.out; rw [wd_plus] at hz; have HZ := Lib.hid hz; clear hz hq))
    | (go_at_call 12; ((with_reducible refine (HRB2.out _ (more_wd _ _ _)).mono ?_); rintro e w2 hq; obtain ⟨au, cu, rfl, hu, x5, n5, rfl⟩ := hq.out; rw [wd_plus] at hu; have HU := Lib.hid hu; clear hu hq)))
  generalize hqu : sz w.heap.size [x5.size, 1, x4.size, 1, x3.size, 1, x2.size, 1, x1.size, x7.size, x8.size, x9.size, 1, 1] = qu
  generalize hqz : sz w.heap.size [x4.size, 1, x3.size, 1, x2.size, 1, x1.size, x7.size, x8.size, x9.size, 1, 1] = qz
  generalize hqy : sz w.heap.size [x3.size, 1, x2.size, 1, x1.size, x7.size, x8.size, x9.size, 1, 1] = qy
  generalize hqx : sz w.heap.size [x2.size, 1, x1.size, x7.size, x8.size, x9.size, 1, 1] = qx
  generalize hqo : sz w.heap.size [x1.size, x7.size, x8.size, x9.size, 1, 1] = qo
  generalize hqv : sz w.heap.size [] = qv
  obtain ⟨W9, hW9⟩ : ∃ W9, wd w [#[Obj.cells #[Value.int IntKind.i64 bn, Value.slice au BN cu] 24], x5, #[Obj.cells #[Value.int IntKind.i64 bn, Value.slice az BN cz] 35], x4, #[Obj.cells #[Value.int IntKind.i64 gn, Value.slice ay GN cy] 24], x3, #[Obj.cells #[Value.int IntKind.i64 xn, Value.slice ax XN cx] 35], x2, #[Obj.cells #[Value.int IntKind.i64 nx, Value.slice ao N co] 35], x1, x7, x8, x9, #[Obj.cells #[Value.int IntKind.i64 b0, Value.int IntKind.i64 b1, Value.int IntKind.i64 b2, Value.int IntKind.i64 b3, Value.int IntKind.i64 b4, Value.slice ba M bc] 27], #[Obj.cells #[Value.int IntKind.i64 nx, Value.slice a N cap] 24]] n5 = W9 := ⟨_, rfl⟩
  have HM9 : Hid (More w W9) := Lib.hid (hW9 ▸ more_wd _ _ _)
  have hu0 : W9.cell? ⟨qu, 0, none⟩ = some (.int .i64 bn) := by rw [← hW9, ← hqu]; exact (mid_cell w _ _ _ n5 0 []).trans rfl
  have hu1 : W9.cell? ⟨qu, 1, none⟩ = some (.slice au BN cu) := by rw [← hW9, ← hqu]; exact (mid_cell w _ _ _ n5 1 []).trans rfl
  have hlu := cell_lt hu0
  have hz0 : W9.cell? ⟨qz, 0, none⟩ = some (.int .i64 bn) := by rw [← hW9, ← hqz]; exact (mid_cell w _ _ _ n5 0 [_, _]).trans rfl
  have hz1 : W9.cell? ⟨qz, 1, none⟩ = some (.slice az BN cz) := by rw [← hW9, ← hqz]; exact (mid_cell w _ _ _ n5 1 [_, _]).trans rfl
  have hlz := cell_lt hz0
  have hy0 : W9.cell? ⟨qy, 0, none⟩ = some (.int .i64 gn) := by rw [← hW9, ← hqy]; exact (mid_cell w _ _ _ n5 0 [_, _, _, _]).trans rfl
  have hy1 : W9.cell? ⟨qy, 1, none⟩ = some (.slice ay GN cy) := by rw [← hW9, ← hqy]; exact (mid_cell w _ _ _ n5 1 [_, _, _, _]).trans rfl
  have hly := cell_lt hy0
  have hx0 : W9.cell? ⟨qx, 0, none⟩ = some (.int .i64 xn) := by rw [← hW9, ← hqx]; exact (mid_cell w _ _ _ n5 0 [_, _, _, _, _, _]).trans rfl
  have hx1 : W9.cell? ⟨qx, 1, none⟩ = some (.slice ax XN cx) := by rw [← hW9, ← hqx]; exact (mid_cell w _ _ _ n5 1 [_, _, _, _, _, _]).trans rfl
  have hlx := cell_lt hx0
  have ho0 : W9.cell? ⟨qo, 0, none⟩ = some (.int .i64 nx) := by rw [← hW9, ← hqo]; exact (mid_cell w _ _ _ n5 0 [_, _, _, _, _, _, _, _]).trans rfl
  have ho1 : W9.cell? ⟨qo, 1, none⟩ = some (.slice ao N co) := by rw [← hW9, ← hqo]; exact (mid_cell w _ _ _ n5 1 [_, _, _, _, _, _, _, _]).trans rfl
  have hlo := cell_lt ho0
  have hv0 : W9.cell? ⟨qv, 0, none⟩ = some (.int .i64 nx) := by rw [← hW9, ← hqv]; exact (mid_cell w _ _ _ n5 0 [_, _, _, _, _, _, _, _, _, _, _, _, _, _]).trans rfl
  have hv1 : W9.cell? ⟨qv, 1, none⟩ = some (.slice a N cap) := by rw [← hW9, ← hqv]; exact (mid_cell w _ _ _ n5 1 [_, _, _, _, _, _, _, _, _, _, _, _, _, _]).trans rfl
  have hlv := cell_lt hv0
  have HX9 : Hid (VRowsAt W9 ax xrows) := Lib.hid (by rw [← hW9]; exact HX.out.more (by repeat (first | exact more_same _ _ _ _ | apply more_cons)))
  have HY9 : Hid (VRowsAt W9 ay grows) := Lib.hid (by rw [← hW9]; exact HY.out.more (by repeat (first | exact more_same _ _ _ _ | apply more_cons)))
  have HZ9 : Hid (VRowsAt W9 az brows) := Lib.hid (by rw [← hW9]; exact HZ.out.more (by repeat (first | exact more_same _ _ _ _ | apply more_cons)))
  have HU9 : Hid (VRowsAt W9 au brows) := Lib.hid (by rw [← hW9]; exact HU.out.more (by repeat (first | exact more_same _ _ _ _ | apply more_cons)))
  have HO9 : Hid (VRowsAt W9 ao v.rows) := Lib.hid (by rw [← hW9]; exact HRO.out.more (by repeat (first | exact more_same _ _ _ _ | apply more_cons)))
  have HV9 : Hid (VRowsAt W9 a v.rows) := Lib.hid (HR.out.more HM9.out)
  rw [hW9, ← wd_nil W9]
  have hXN := HXN.out (by omega)
  have hGN := HAL2.out (by omega)
  have HBX := Lib.hid (fun W a c h => HBK.out xrows xn XN HXL.out (by omega) W a c h)
  have HBO := Lib.hid (fun W a c h => HBK.out v.rows nx N HVRL.out (by omega) W a c h)
  have HBZ := Lib.hid (fun W a c h => HBK.out brows bn BN HBRL.out (by omega) W a c h)
  have HSG := Lib.hid (fun W a1 c1 a2 c2 h1 h2 => HSM.out grows gn GN HGRL.out (by omega) W a1 c1 a2 c2 h1 h2)
  have HSO := Lib.hid (fun W a1 c1 a2 c2 h1 h2 => HSM.out v.rows nx N HVRL.out (by omega) W a1 c1 a2 c2 h1 h2)
  have HSZ := Lib.hid (fun W a1 c1 a2 c2 h1 h2 => HSM.out brows bn BN HBRL.out (by omega) W a1 c1 a2 c2 h1 h2)
  clear hW9 hqu hqz hqy hqx hqo hqv HX HY HZ HU HRO HO2 HOWN HPB2 HRB2 HRA2 HPA2 HBK HSM HR HF HLN HN HNX HAL2 HXN
  have HVC2 := Lib.hid (fun W a' c' h => HVC.out W a' c' h)
  by_cases hge : ge = 0
  · subst hge
    obtain ⟨rfl, rfl, rfl⟩ := HXE.out rfl
    refine wp_region_chain (fun (m : Ext) => wd W9 [m.e] m.n) (⟨#[], W9.drawn + 1⟩) [([0, 1, 2, 3, 4, 5, 6, 7, 9], 8), ([], 10), ([11, 12, 13, 14, 16], 15), ([], 17), ([18, 19, 20, 22], 21), ([], 23), ([24, 25, 26, 27, 28, 29, 30, 31, 33], 32), ([], 34), ([35, 36, 37], 38)] [39, 40] [([true, true, true, true, true, true, true, true, false, true], [false, false, false, false, false, false, false, false, true]), ([], [false, false, false, false, false, false, false, false, false, false, true]), ([false, false, false, false, false, false, false, false, false, false, false, true, true, true, true, false, true], [false, false, false, false, false, false, false, false, false, false, false, false, false, false, false, true]), ([], [false, false, false, false, false, false, false, false, false, false, false, false, false, false, false, false, false, true]), ([false, false, false, false, false, false, false, false, false, false, false, false, false, false, false, false, false, false, true, true, true, false, true], [false, false, false, false, false, false, false, false, false, false, false, false, false, false, false, false, false, false, false, false, false, true]), ([], [false, false, false, false, false, false, false, false, false, false, false, false, false, false, false, false, false, false, false, false, false, false, false, true]), ([false, false, false, false, false, false, false, false, false, false, false, false, false, false, false, false, false, false, false, false, false, false, false, false, true, true, true, true, true, true, true, true, false, true], [false, false, false, false, false, false, false, false, false, false, false, false, false, false, false, false, false, false, false, false, false, false, false, false, false, false, false, false, false, false, false, false, true]), ([], [false, false, false, false, false, false, false, false, false, false, false, false, false, false, false, false, false, false, false, false, false, false, false, false, false, false, false, false, false, false, false, false, false, false, true]), ([false, false, false, false, false, false, false, false, false, false, false, false, false, false, false, false, false, false, false, false, false, false, false, false, false, false, false, false, false, false, false, false, false, false, false, true, true, true], [false, false, false, false, false, false, false, false, false, false, false, false, false, false, false, false, false, false, false, false, false, false, false, false, false, false, false, false, false, false, false, false, false, false, false, false, false, false, true])] [false, false, false, false, false, false, false, false, false, false, false, false, false, false, false, false, false, false, false, false, false, false, false, false, false, false, false, false, false, false, false, false, false, false, false, false, false, false, false, true, true] rfl rfl ⟨rfl, rfl, rfl, rfl, rfl, rfl, rfl, rfl, rfl, rfl, rfl, rfl, rfl, rfl, rfl, rfl, rfl, rfl, trivial⟩ (by kernel_rfl) (by kernel_rfl) (fun _ _ d _ _ h => by cases d <;> exact h) ?_
    refine ⟨rfl, ?_⟩
    apply Exists.intro
    refine ⟨?_, ?_⟩
    · intro E
      simp only [sel_t, sel_f, sel_n]
      repeat (go_big_quiet_step ((fail)))
      exact wpQuiet_nil rfl
    simp only [sel_t, sel_f, sel_n]
    go_wp2_with (first | (go_at_call 14; ((with_reducible refine (HBX.out _ _ _ (HX9.out.more (more_wd _ _ _))).mono ?_); rintro e w2 hq; obtain ⟨ab1, cb1, rfl, hb1, y1, m1, rfl⟩ := hq.out; rw [wd_plus] at hb1; have HB1 := Lib.hid hb1; clear hb1 hq)))
    refine ⟨cls_any _ _ _, ?_⟩
    refine ⟨rfl, ?_⟩
    apply Exists.intro
    refine ⟨?_, ?_⟩
    · intro E
      simp only [sel_t, sel_f, sel_n]
      repeat (go_big_quiet_step ((fail)))
      exact wpQuiet_nil rfl
    try simp only [sel_t, sel_f, sel_n]
    go_wp2_with (first | (go_at_call 13; ((with_reducible refine (HSG.out _ _ _ _ _ (HB1.out.more (more_same _ _ _ _)) (HY9.out.more (more_wd _ _ _))).mono ?_); rintro e w2 ⟨rfl, y2, m2, rfl⟩)))
    refine ⟨cls_any _ _ _, ?_⟩
    refine ⟨rfl, ?_⟩
    apply Exists.intro
    refine ⟨?_, ?_⟩
    · intro E
      simp only [sel_t, sel_f, sel_n]
      repeat (go_big_quiet_step ((fail)))
      exact wpQuiet_nil rfl
    try simp only [sel_t, sel_f, sel_n]
    go_wp2_with (first | (go_at_call 14; ((with_reducible refine (HBO.out _ _ _ (HO9.out.more (more_wd _ _ _))).mono ?_); rintro e w2 hq; obtain ⟨ab3, cb3, rfl, hb3, y3, m3, rfl⟩ := hq.out; rw [wd_plus] at hb3; have HB3 := Lib.hid hb3; clear hb3 hq)))
    refine ⟨cls_any _ _ _, ?_⟩
    refine ⟨rfl, ?_⟩
    apply Exists.intro
    refine ⟨?_, ?_⟩
    · intro E
      simp only [sel_t, sel_f, sel_n]
      repeat (go_big_quiet_step ((fail)))
      exact wpQuiet_nil rfl
    try simp only [sel_t, sel_f, sel_n]
    go_wp2_with (first | (go_at_call 13; ((with_reducible refine (HSO.out _ _ _ _ _ (HB3.out.more (more_same _ _ _ _)) (HV9.out.more (more_wd _ _ _))).mono ?_); rintro e w2 ⟨rfl, y4, m4, rfl⟩)))
    refine ⟨cls_any _ _ _, ?_⟩
    refine ⟨rfl, ?_⟩
    apply Exists.intro
    refine ⟨?_, ?_⟩
    · intro E
      simp only [sel_t, sel_f, sel_n]
      repeat (go_big_quiet_step ((fail)))
      exact wpQuiet_nil rfl
    try simp only [sel_t, sel_f, sel_n]
    go_wp2_with (first | (go_at_call 14; ((with_reducible refine (HBZ.out _ _ _ (HZ9.out.more (more_wd _ _ _))).mono ?_); rintro e w2 hq; obtain ⟨ab5, cb5, rfl, hb5, y5, m5, rfl⟩ := hq.out; rw [wd_plus] at hb5; have HB5 := Lib.hid hb5; clear hb5 hq)))
    refine ⟨cls_any _ _ _, ?_⟩
    refine ⟨rfl, ?_⟩
    apply Exists.intro
    refine ⟨?_, ?_⟩
    · intro E
      simp only [sel_t, sel_f, sel_n]
      repeat (go_big_quiet_step ((fail)))
      exact wpQuiet_nil rfl
    try simp only [sel_t, sel_f, sel_n]
    go_wp2_with (first | (go_at_call 13; ((with_reducible refine (HSZ.out _ _ _ _ _ (HB5.out.more (more_same _ _ _ _)) (HU9.out.more (more_wd _ _ _))).mono ?_); rintro e w2 ⟨rfl, y6, m6, rfl⟩)))
    refine ⟨cls_any _ _ _, ?_⟩
    refine ⟨rfl, ?_⟩
    apply Exists.intro
    refine ⟨?_, ?_⟩
    · intro E
      simp only [sel_t, sel_f, sel_n]
      repeat (go_big_quiet_step ((fail)))
      exact wpQuiet_nil rfl
    try simp only [sel_t, sel_f, sel_n]
    go_wp2_with (first | (go_at_call 15; ((with_reducible refine (HVC2.out _ _ _ (HO9.out.more (more_wd _ _ _))).mono ?_); rintro e w2 ⟨rfl, y7, m7, rfl⟩)))
    refine ⟨cls_any _ _ _, ?_⟩
    refine ⟨rfl, ?_⟩
    apply Exists.intro
    refine ⟨?_, ?_⟩
    · intro E
      simp only [sel_t, sel_f, sel_n]
      repeat (go_big_quiet_step ((fail)))
      exact wpQuiet_nil rfl
    try simp only [sel_t, sel_f, sel_n]
    go_wp2_with (first | (go_at_call 16; ((with_reducible refine (HRC.out _ (HM9.out.trans (more_wd _ _ _))).mono ?_); rintro e w2 ⟨rfl, y8, m8, rfl⟩)))
    refine ⟨cls_any _ _ _, ?_⟩
    refine ⟨rfl, ?_⟩
    apply Exists.intro
    refine ⟨?_, ?_⟩
    · intro E
      simp only [sel_t, sel_f, sel_n]
      repeat (go_big_quiet_step ((fail)))
      exact wpQuiet_nil rfl
    try simp only [sel_t, sel_f, sel_n]
    go_wp2_with (first | (go_at_call 7; ((with_reducible refine (HAW.out _).mono ?_); rintro e w2 ⟨rfl, y9, m9, rfl⟩)))
    refine ⟨cls_any _ _ _, ?_⟩
    refine ⟨rfl, ?_⟩
    apply Exists.intro
    refine ⟨?_, ?_⟩
    · intro E
      simp only [sel_t, sel_f, sel_n]
      repeat (go_big_quiet_step ((fail)))
      exact wpQuiet_nil rfl
    try simp only [sel_t, sel_f, sel_n]
    go_wp2
    go_ret
    exact ⟨rfl, HM9.out.trans (more_wd _ _ _)⟩
  · have hgb : (ge == 0) = false := by rw [beq_eq_false_iff_ne]; exact hge
    have hgb2 : (ge != 0) = true := by rw [bne_iff_ne]; exact hge
    refine wp_region_chain (fun (m : Ext) => wd W9 [m.e] m.n) (⟨#[], W9.drawn + 1⟩) [([0, 1, 2, 3, 4, 5, 6, 7, 9], 8), ([], 10), ([11, 12, 13, 14, 16], 15), ([], 17), ([18, 19, 20, 22], 21), ([], 23), ([24, 25, 26, 27, 28, 29, 30, 31, 33], 32), ([], 34), ([35, 36, 37], 38)] [39, 40] [([true, true, true, true, true, true, true, true, false, true], [false, false, false, false, false, false, false, false, true]), ([], [false, false, false, false, false, false, false, false, false, false, true]), ([false, false, false, false, false, false, false, false, false, false, false, true, true, true, true, false, true], [false, false, false, false, false, false, false, false, false, false, false, false, false, false, false, true]), ([], [false, false, false, false, false, false, false, false, false, false, false, false, false, false, false, false, false, true]), ([false, false, false, false, false, false, false, false, false, false, false, false, false, false, false, false, false, false, true, true, true, false, true], [false, false, false, false, false, false, false, false, false, false, false, false, false, false, false, false, false, false, false, false, false, true]), ([], [false, false, false, false, false, false, false, false, false, false, false, false, false, false, false, false, false, false, false, false, false, false, false, true]), ([false, false, false, false, false, false, false, false, false, false, false, false, false, false, false, false, false, false, false, false, false, false, false, false, true, true, true, true, true, true, true, true, false, true], [false, false, false, false, false, false, false, false, false, false, false, false, false, false, false, false, false, false, false, false, false, false, false, false, false, false, false, false, false, false, false, false, true]), ([], [false, false, false, false, false, false, false, false, false, false, false, false, false, false, false, false, false, false, false, false, false, false, false, false, false, false, false, false, false, false, false, false, false, false, true]), ([false, false, false, false, false, false, false, false, false, false, false, false, false, false, false, false, false, false, false, false, false, false, false, false, false, false, false, false, false, false, false, false, false, false, false, true, true, true], [false, false, false, false, false, false, false, false, false, false, false, false, false, false, false, false, false, false, false, false, false, false, false, false, false, false, false, false, false, false, false, false, false, false, false, false, false, false, true])] [false, false, false, false, false, false, false, false, false, false, false, false, false, false, false, false, false, false, false, false, false, false, false, false, false, false, false, false, false, false, false, false, false, false, false, false, false, false, false, true, true] rfl rfl ⟨rfl, rfl, rfl, rfl, rfl, rfl, rfl, rfl, rfl, rfl, rfl, rfl, rfl, rfl, rfl, rfl, rfl, rfl, trivial⟩ (by kernel_rfl) (by kernel_rfl) (fun _ _ d _ _ h => by cases d <;> exact h) ?_
    refine ⟨rfl, ?_⟩
    apply Exists.intro
    refine ⟨?_, ?_⟩
    · intro E
      simp only [sel_t, sel_f, sel_n]
      repeat (go_big_quiet_step ((fail)))
      exact wpQuiet_nil rfl
    simp only [sel_t, sel_f, sel_n]
    go_wp2
    refine ⟨cls_any _ _ _, ?_⟩
    refine ⟨rfl, ?_⟩
    apply Exists.intro
    refine ⟨?_, ?_⟩
    · intro E
      simp only [sel_t, sel_f, sel_n]
      repeat (go_big_quiet_step ((fail)))
      exact wpQuiet_nil rfl
    try simp only [sel_t, sel_f, sel_n]
    go_wp2
    refine ⟨cls_any _ _ _, ?_⟩
    refine ⟨rfl, ?_⟩
    apply Exists.intro
    refine ⟨?_, ?_⟩
    · intro E
      simp only [sel_t, sel_f, sel_n]
      repeat (go_big_quiet_step ((fail)))
      exact wpQuiet_nil rfl
    try simp only [sel_t, sel_f, sel_n]
    go_wp2_with (first | (go_at_call 14; ((with_reducible refine (HBO.out _ _ _ (HO9.out.more (more_wd _ _ _))).mono ?_); rintro e w2 hq; obtain ⟨ab3, cb3, rfl, hb3, y3, m3, rfl⟩ := hq.out; rw [wd_plus] at hb3; have HB3 := Lib.hid hb3; clear hb3 hq)))
    refine ⟨cls_any _ _ _, ?_⟩
    refine ⟨rfl, ?_⟩
    apply Exists.intro
    refine ⟨?_, ?_⟩
    · intro E
      simp only [sel_t, sel_f, sel_n]
      repeat (go_big_quiet_step ((fail)))
      exact wpQuiet_nil rfl
    try simp only [sel_t, sel_f, sel_n]
    go_wp2_with (first | (go_at_call 13; ((with_reducible refine (HSO.out _ _ _ _ _ (HB3.out.more (more_same _ _ _ _)) (HV9.out.more (more_wd _ _ _))).mono ?_); rintro e w2 ⟨rfl, y4, m4, rfl⟩)))
    refine ⟨cls_any _ _ _, ?_⟩
    refine ⟨rfl, ?_⟩
    apply Exists.intro
    refine ⟨?_, ?_⟩
    · intro E
      simp only [sel_t, sel_f, sel_n]
      repeat (go_big_quiet_step ((fail)))
      exact wpQuiet_nil rfl
    try simp only [sel_t, sel_f, sel_n]
    go_wp2_with (first | (go_at_call 14; ((with_reducible refine (HBZ.out _ _ _ (HZ9.out.more (more_wd _ _ _))).mono ?_); rintro e w2 hq; obtain ⟨ab5, cb5, rfl, hb5, y5, m5, rfl⟩ := hq.out; rw [wd_plus] at hb5; have HB5 := Lib.hid hb5; clear hb5 hq)))
    refine ⟨cls_any _ _ _, ?_⟩
    refine ⟨rfl, ?_⟩
    apply Exists.intro
    refine ⟨?_, ?_⟩
    · intro E
      simp only [sel_t, sel_f, sel_n]
      repeat (go_big_quiet_step ((fail)))
      exact wpQuiet_nil rfl
    try simp only [sel_t, sel_f, sel_n]
    go_wp2_with (first | (go_at_call 13; ((with_reducible refine (HSZ.out _ _ _ _ _ (HB5.out.more (more_same _ _ _ _)) (HU9.out.more (more_wd _ _ _))).mono ?_); rintro e w2 ⟨rfl, y6, m6, rfl⟩)))
    refine ⟨cls_any _ _ _, ?_⟩
    refine ⟨rfl, ?_⟩
    apply Exists.intro
    refine ⟨?_, ?_⟩
    · intro E
      simp only [sel_t, sel_f, sel_n]
      repeat (go_big_quiet_step ((fail)))
      exact wpQuiet_nil rfl
    try simp only [sel_t, sel_f, sel_n]
    go_wp2_with (first | (go_at_call 15; ((with_reducible refine (HVC2.out _ _ _ (HO9.out.more (more_wd _ _ _))).mono ?_); rintro e w2 ⟨rfl, y7, m7, rfl⟩)))
    refine ⟨cls_any _ _ _, ?_⟩
    refine ⟨rfl, ?_⟩
    apply Exists.intro
    refine ⟨?_, ?_⟩
    · intro E
      simp only [sel_t, sel_f, sel_n]
      repeat (go_big_quiet_step ((fail)))
      exact wpQuiet_nil rfl
    try simp only [sel_t, sel_f, sel_n]
    go_wp2_with (first | (go_at_call 16; ((with_reducible refine (HRC.out _ (HM9.out.trans (more_wd _ _ _))).mono ?_); rintro e w2 ⟨rfl, y8, m8, rfl⟩)))
    refine ⟨cls_any _ _ _, ?_⟩
    refine ⟨rfl, ?_⟩
    apply Exists.intro
    refine ⟨?_, ?_⟩
    · intro E
      simp only [sel_t, sel_f, sel_n]
      repeat (go_big_quiet_step ((fail)))
      exact wpQuiet_nil rfl
    try simp only [sel_t, sel_f, sel_n]
    go_wp2_with (first | (go_at_call 7; ((with_reducible refine (HAW.out _).mono ?_); rintro e w2 ⟨rfl, y9, m9, rfl⟩)))
    refine ⟨cls_any _ _ _, ?_⟩
    refine ⟨rfl, ?_⟩
    apply Exists.intro
    refine ⟨?_, ?_⟩
    · intro E
      simp only [sel_t, sel_f, sel_n]
      repeat (go_big_quiet_step ((fail)))
      exact wpQuiet_nil rfl
    try simp only [sel_t, sel_f, sel_n]
    go_wp2
    go_ret
    exact ⟨rfl, HM9.out.trans (more_wd _ _ _)⟩
end Go.Proofs.YtlanghikmccmbaaGreat
