/- console: the document's fetched. -/
import Derived.Test.YtifoekadjnlhcaaGreatDoorQC
import Derived.Test.YtifoekadjnlhcaaGreatDoorQE
namespace Go.Proofs.YtifoekadjnlhcaaGreatDoor
open Go.ChangeShapes Go.WideShapes Go.ChangeAt Go.RowKit
set_option linter.unusedVariables false
set_option linter.unusedSimpArgs false
set_option maxRecDepth 100000 in
set_option maxHeartbeats 6400000 in
theorem rfetched_any (k0 er off nx : Int) (db : Bool) (ge : Int) (ad : Option Addr) (cap : Nat) (l : List Btm) (pv nv : Value) (w : World) (h : BatsAt w ad l) (hM : Mild l) (hnx : In61 nx) :
    Calls Tryz.prog 61 #[.agg #[.int .u8 k0, .int .i64 er, .int .i64 off, .int .i64 nx, .bool db, .int .i64 ge, .slice ad l.length cap, pv, nv]] w fun e w' => LinesRet w w' e (fetchL l nx) := by
  have HA := Lib.hid (fun W (hm : More w W) => h.more hm)
  have HM := Lib.hid hM
  have hnb := hM.nb
  obtain ⟨i0, hi, hz0, hz1, hz2⟩ := info_parts info_str3
  obtain ⟨N, hN⟩ : ∃ N, l.length = N := ⟨_, rfl⟩
  rw [hN] at hnb ⊢
  have HN := Lib.hid hN
  have HNX := Lib.hid hnx
  clear hN h hM hnx
  refine calls_wd ?_
  go_enter Tryz.func61, Tryz.ntmps61
  go_wp2
  obtain ⟨RS, hRS⟩ : ∃ RS : Array Value, RS = #[.int .u8 k0, .int .i64 er, .int .i64 off, .int .i64 nx, .bool db, .int .i64 ge, .slice ad N cap, pv, nv] := ⟨_, rfl⟩
  have HRS := Lib.hid (show RS[3]? = some (.int .i64 nx) ∧ RS[6]? = some (.slice ad N cap) by rw [hRS]; exact ⟨rfl, rfl⟩)
  have HRB0 : Hid (∀ n, (wd w [#[.cells #[.int .u8 k0, .int .i64 er, .int .i64 off, .int .i64 nx, .bool db, .int .i64 ge, .slice ad N cap, pv, nv] 46]] n).heap[sz w.heap.size []]? = some (.cells RS 46 (0, 0))) := Lib.hid (fun n => by rw [hRS]; exact wd_at w [] _ _ _ _ rfl rfl)
  obtain ⟨qr, hqr⟩ : ∃ q, sz w.heap.size [] = q := ⟨_, rfl⟩
  rw [hqr] at HRB0
  rw [hqr]
  clear hRS hqr
  go_loopw [3, 4] (fun s3 s4 wr => ∃ (k : Nat) (v : Value) (ls : List Word), k ≤ N ∧ s4 = .int .i64 k ∧ v = s3 ∧ Hid (ls = (l.take k).flatMap (fun x => x.b.recs.map (recT x.b.base))) ∧ ls.length ≤ 40 * k ∧ Hid (LI w wr v ls) ∧ Hid (wr.heap[qr]? = some (.cells RS 46 (0, 0)))) (fun _ s4 _ => N - (intOf s4).toNat)
  case atStart => exact ⟨0, _, [], Nat.zero_le _, rfl, rfl, Lib.hid rfl, Nat.zero_le _, Lib.hid ((LI.start w).go (more_wd _ _ _)), Lib.hid (HRB0.out _)⟩
  case round =>
    obtain ⟨k, v, ls, hkN, rfl, rfl, HLS, hlk, HI, HRB⟩ := hrel
    obtain ⟨wo, rfl⟩ : ∃ wo, wo = wr := ⟨_, rfl⟩
    have c3 : wo.cell? ⟨qr, 3, none⟩ = some (.int .i64 nx) := by rw [Lib.cell_of_heap HRB.out]; exact HRS.out.1
    have c6 : wo.cell? ⟨qr, 6, none⟩ = some (.slice ad N cap) := by rw [Lib.cell_of_heap HRB.out]; exact HRS.out.2
    have hlt := lt_of_blk HRB.out
    by_cases hk : k < N
    · obtain ⟨x, hx⟩ : ∃ x, l[k]? = some x := ⟨_, List.getElem?_eq_getElem (by rw [HN.out]; exact hk)⟩
      have hmem := List.mem_of_getElem? hx
      have HX := Lib.hid (flat_takeT (fun x : Btm => x.b.recs.map (recT x.b.base)) hx)
      have HAT := Lib.hid (fun W (hm : More w W) => (HA.out W hm).each x hmem)
      have HBA := Lib.hid (fun W (hm : More w W) => bats_at (HA.out W hm) k x hx)
      have hnr := HM.out.nr x hmem
      have HKV := Lib.hid (HM.out.kv x hmem)
      obtain ⟨hb1, hb2⟩ := HM.out.base x hmem
      have HNM := Lib.hid (HM.out.num x hmem)
      clear hx hmem
      obtain ⟨⟨b0, b1, b2, b3, b4, rs⟩, ra, rc⟩ := x
      dsimp only at HX HAT HBA hnr HKV hb1 hb2 HNM
      obtain ⟨M, hMl⟩ : ∃ M, rs.length = M := ⟨_, rfl⟩
      rw [hMl] at hnr HBA
      have HML := Lib.hid hMl
      clear hMl
      rw [← wd_nil wo]
      go_wp2
      go_loopw [3, 5] (fun s3 s5 wr => ∃ (j : Nat) (v2 : Value) (ls2 : List Word), j ≤ M ∧ s5 = .int .i64 j ∧ v2 = s3 ∧ Hid (ls2 = ls ++ (rs.take j).map (recT b0)) ∧ ls2.length ≤ 40 * k + j ∧ Hid (LI w wr v2 ls2) ∧ Hid (wr.heap[qr]? = some (.cells RS 46 (0, 0)))) (fun _ s5 _ => M - (intOf s5).toNat)
      case atStart => exact ⟨0, _, ls, Nat.zero_le _, rfl, rfl, Lib.hid (by simp), by omega, by first | exact HI | exact Lib.hid (by rw [wd_nil]; exact HI.out), by first | exact HRB | exact Lib.hid (by rw [wd_nil]; exact HRB.out)⟩
      case round =>
        obtain ⟨j, v2, ls2, hjM, rfl, rfl, HL2, hlj, HI2, HRB2⟩ := hrel
        obtain ⟨wi, rfl⟩ : ∃ wi, wi = wr := ⟨_, rfl⟩
        clear c3 c6 hlt
        have c6 : wi.cell? ⟨qr, 6, none⟩ = some (.slice ad N cap) := by rw [Lib.cell_of_heap HRB2.out]; exact HRS.out.2
        have hlt := lt_of_blk HRB2.out
        obtain ⟨bb, boff, had, hbb, d0, d1, d2, d3, d4, d5⟩ := HBA.out wi HI2.out.more
        rw [had] at c6
        by_cases hj : j < M
        · obtain ⟨r, hr⟩ : ∃ r, rs[j]? = some r := ⟨_, List.getElem?_eq_getElem (by rw [HML.out]; exact hj)⟩
          have hmr := List.mem_of_getElem? hr
          obtain ⟨rb, roff, hra, hrb, r0, r1, r2, r3, r4, r5⟩ := recs_at (HAT.out wi HI2.out.more) j r hr
          rw [hra] at d5
          obtain ⟨hkl, hvl⟩ := HKV.out r hmr
          obtain ⟨⟨hd1, hd2⟩, ht1, ht2⟩ := HNM.out r hmr
          have HRS2 : Hid ((rs.take (j + 1)).map (recT b0) = (rs.take j).map (recT b0) ++ [recT b0 r]) := Lib.hid (by
            obtain ⟨hl, rfl⟩ := List.getElem?_eq_some_iff.1 hr
            rw [List.take_succ_eq_append_getElem hl, List.map_append]; rfl)
          clear hr hmr had hra
          obtain ⟨rd, rt, rk, rkey, rdead, rval⟩ := r
          dsimp only at r0 r1 r2 r3 r4 r5 hkl hvl hd1 hd2 ht1 ht2
          rw [← wd_nil wi]
          go_wp2
          generalize hq6 : sz wi.heap.size [] = q6
          obtain ⟨W1, hW1⟩ : ∃ W1, wd wi [#[.cells #[.int .i64 rd, .int .i64 rt, .bool rk, .string (str rkey), .bool rdead, .string (str rval)] 85]] wi.drawn = W1 := ⟨_, rfl⟩
          have hmo : More wi W1 := hW1 ▸ more_wd _ _ _
          have HI3 : Hid (LI w W1 v2 ls2) := Lib.hid (HI2.out.go hmo)
          have HRB3 : Hid (W1.heap[qr]? = some (.cells RS 46 (0, 0))) := Lib.hid (blk_more HRB2.out hmo)
          have h6 : W1.heap[q6]? = some (.cells #[.int .i64 rd, .int .i64 rt, .bool rk, .string (str rkey), .bool rdead, .string (str rval)] 85 (0, 0)) := by rw [← hW1, ← hq6]; exact wd_at wi [] _ _ _ _ rfl rfl
          have hw1 := HI3.out.more.below.size
          have k6 : W1.cell? ⟨qr, 6, none⟩ = some (.slice (some ⟨bb, boff, none⟩) N cap) := by rw [hmo.below.cell hlt]; exact c6
          have k0' : W1.cell? ⟨bb, boff + k * 6, none⟩ = some (.int .i64 b0) := by rw [hmo.below.cell hbb]; exact d0
          have hltr := lt_of_blk HRB3.out
          have hltb : bb < W1.heap.size := Nat.lt_of_lt_of_le hbb hmo.below.size
          have hlt6 := lt_of_blk h6
          have g0 : W1.cell? ⟨q6, 0, none⟩ = some (.int .i64 rd) := by rw [Lib.cell_of_heap h6]; rfl
          have g1 : W1.cell? ⟨q6, 1, none⟩ = some (.int .i64 rt) := by rw [Lib.cell_of_heap h6]; rfl
          have g2 : W1.cell? ⟨q6, 2, none⟩ = some (.bool rk) := by rw [Lib.cell_of_heap h6]; rfl
          have g3 : W1.cell? ⟨q6, 3, none⟩ = some (.string (str rkey)) := by rw [Lib.cell_of_heap h6]; rfl
          have g4 : W1.cell? ⟨q6, 4, none⟩ = some (.bool rdead) := by rw [Lib.cell_of_heap h6]; rfl
          have g5 : W1.cell? ⟨q6, 5, none⟩ = some (.string (str rval)) := by rw [Lib.cell_of_heap h6]; rfl
          rw [hW1, ← wd_nil W1]
          clear hW1 hq6 HI2 HRB2 r0 r1 r2 r3 r4 r5 d0 d1 d2 d3 d4 d5 c6 hlt hbb hmo h6 hrb
          have HD1 := Lib.hid (fun W => rdigI_any (b0 + rd) (by omega) (by omega) W)
          have HD2 := Lib.hid (fun W => rdigI_any rt (by omega) (by omega) W)
          have hl1 := digI_len (n := b0 + rd) ⟨by omega, by omega⟩
          have hl2 := digI_len (n := rt) ⟨by omega, by omega⟩
          obtain ⟨D1, hD1⟩ : ∃ D1, digI (b0 + rd) = D1 := ⟨_, rfl⟩
          obtain ⟨D2, hD2⟩ : ∃ D2, digI rt = D2 := ⟨_, rfl⟩
          obtain ⟨T1, hT1⟩ : ∃ T, D1 ++ [32] = T := ⟨_, rfl⟩
          obtain ⟨T2, hT2⟩ : ∃ T, T1 ++ D2 = T := ⟨_, rfl⟩
          obtain ⟨T3, hT3⟩ : ∃ T, T2 ++ [32] = T := ⟨_, rfl⟩
          have HRT : Hid (recT b0 ⟨rd, rt, rk, rkey, rdead, rval⟩ = T3 ++ shownW rdead rk rkey rval) := Lib.hid (by rw [← hT3, ← hT2, ← hT1, ← hD1, ← hD2]; rfl)
          rw [hD1] at HD1 hl1
          rw [hD2] at HD2 hl2
          have hT1l : T1.length ≤ 21 := by rw [← hT1]; simp; omega
          have hT2l : T2.length ≤ 41 := by rw [← hT2]; simp; omega
          have hT3l : T3.length ≤ 42 := by rw [← hT3]; simp; omega
          have ha1 := saddT (P := Tryz.prog) hT1 (by omega)
          have ha2 := saddT (P := Tryz.prog) hT2 (by omega)
          have ha3 := saddT (P := Tryz.prog) hT3 (by omega)
          rw [show str [32] = { data := #[32] } from rfl] at ha1 ha3
          clear hD1 hD2 hT1 hT2 hT3 hl1 hl2
          refine wp_region_chain (fun (m : Ext) => wd W1 [m.e] m.n) (⟨#[], W1.drawn + 1⟩) [([0, 1, 2, 3, 4, 5, 6, 7, 8, 11, 12], 9), ([10], 13)] [14, 15, 16] [([true, true, true, true, true, true, true, true, true, false, false, true, true], [false, false, false, false, false, false, false, false, false, true]), ([false, false, false, false, false, false, false, false, false, false, true], [false, false, false, false, false, false, false, false, false, false, false, false, false, true])] [false, false, false, false, false, false, false, false, false, false, false, false, false, false, true, true, true] rfl rfl ⟨rfl, rfl, rfl, rfl, trivial⟩ (by kernel_rfl) (by kernel_rfl) (fun _ _ d _ _ h => by cases d <;> exact h) ?_
          refine ⟨rfl, ?_⟩
          apply Exists.intro
          refine ⟨?_, ?_⟩
          · intro E
            simp only [sel_t, sel_f, sel_n]
            repeat (go_big_quiet_step ((fail)))
            exact wpQuiet_nil rfl
          simp only [sel_t, sel_f, sel_n]
          go_wp2_with (first | (go_at_call 14; ((with_reducible refine (HD1.out _).mono ?_); rintro e w1 ⟨rfl, x1, n1, rfl⟩)))
          refine ⟨cls_wd _ _ _, ?_⟩
          refine ⟨rfl, ?_⟩
          apply Exists.intro
          refine ⟨?_, ?_⟩
          · intro E
            simp only [sel_t, sel_f, sel_n]
            repeat (go_big_quiet_step ((fail)))
            exact wpQuiet_nil rfl
          try simp only [sel_t, sel_f, sel_n]
          go_wp2_with (first | (go_at_call 14; ((with_reducible refine (HD2.out _).mono ?_); rintro e w1 ⟨rfl, x1, n1, rfl⟩)))
          refine ⟨cls_wd _ _ _, ?_⟩
          refine ⟨rfl, ?_⟩
          apply Exists.intro
          refine ⟨?_, ?_⟩
          · intro E
            simp only [sel_t, sel_f, sel_n]
            repeat (go_big_quiet_step ((fail)))
            exact wpQuiet_nil rfl
          try simp only [sel_t, sel_f, sel_n]
          cases rdead
          · cases rk
            · skip
              obtain ⟨T, hT⟩ : ∃ T, T3 ++ rval = T := ⟨_, rfl⟩
              have hTl : T.length ≤ 2000 := by rw [← hT]; simp; omega
              have ha4 := saddT (P := Tryz.prog) hT (by omega)
              have HRT2 : Hid (recT b0 ⟨rd, rt, false, rkey, false, rval⟩ = T) := Lib.hid (HRT.out.trans (by rw [← hT]; simp [shownW]))
              clear hT
              go_wp2_with (first | (at_builtin; refine wp_append_base rfl _ _ 39 rfl w.heap.size 9 i0 _ 1 16 Tryz.underlying39 hi hz0 hz1 hz2 rfl (by decide) _ _ _ rfl HI3.out.own #[.string (str T)] 9 1 1 rfl rfl (by simp [Value.oneCell']) (by unfold maxLen; omega) (by omega) hw1 ?_; intro v7 u7 ho7 hg7; have HO7 := Lib.hid ho7; have HG7 := Lib.hid hg7; clear ho7 hg7; rw [wd_nil u7]))
              go_wp2
              go_roundw
              case rel => exact ⟨j + 1, v7, ls2 ++ [T], by omega, by go_num, rfl, Lib.hid (by rw [HRS2.out, HL2.out, HRT2.out, List.append_assoc]), by simp; omega, Lib.hid (HI3.out.add (by omega) HO7.out HG7.out), Lib.hid (blk_grown HRB3.out HI3.out.own (by decide) HG7.out)⟩
              case measure => simp [intOf]; omega
            · skip
              obtain ⟨Ta, hTa⟩ : ∃ T, T3 ++ rkey = T := ⟨_, rfl⟩
              obtain ⟨Tb, hTb⟩ : ∃ T, Ta ++ [61] = T := ⟨_, rfl⟩
              obtain ⟨T, hT⟩ : ∃ T, Tb ++ rval = T := ⟨_, rfl⟩
              have hTal : Ta.length ≤ 1000 := by rw [← hTa]; simp; omega
              have hTbl : Tb.length ≤ 1001 := by rw [← hTb]; simp; omega
              have hTl : T.length ≤ 2000 := by rw [← hT]; simp; omega
              have ha4 := saddT (P := Tryz.prog) hTa (by omega)
              have ha5 := saddT (P := Tryz.prog) hTb (by omega)
              have ha6 := saddT (P := Tryz.prog) hT (by omega)
              rw [show str [61] = { data := #[61] } from rfl] at ha5
              have HRT2 : Hid (recT b0 ⟨rd, rt, true, rkey, false, rval⟩ = T) := Lib.hid (HRT.out.trans (by rw [← hT, ← hTb, ← hTa]; simp [shownW]))
              clear hT hTa hTb
              go_wp2_with (first | (at_builtin; refine wp_append_base rfl _ _ 39 rfl w.heap.size 9 i0 _ 1 16 Tryz.underlying39 hi hz0 hz1 hz2 rfl (by decide) _ _ _ rfl HI3.out.own #[.string (str T)] 9 1 1 rfl rfl (by simp [Value.oneCell']) (by unfold maxLen; omega) (by omega) hw1 ?_; intro v7 u7 ho7 hg7; have HO7 := Lib.hid ho7; have HG7 := Lib.hid hg7; clear ho7 hg7; rw [wd_nil u7]))
              go_wp2
              go_roundw
              case rel => exact ⟨j + 1, v7, ls2 ++ [T], by omega, by go_num, rfl, Lib.hid (by rw [HRS2.out, HL2.out, HRT2.out, List.append_assoc]), by simp; omega, Lib.hid (HI3.out.add (by omega) HO7.out HG7.out), Lib.hid (blk_grown HRB3.out HI3.out.own (by decide) HG7.out)⟩
              case measure => simp [intOf]; omega
          · skip
            obtain ⟨Ta, hTa⟩ : ∃ T, T3 ++ rkey = T := ⟨_, rfl⟩
            obtain ⟨T, hT⟩ : ∃ T, Ta ++ [33] = T := ⟨_, rfl⟩
            have hTal : Ta.length ≤ 1000 := by rw [← hTa]; simp; omega
            have hTl : T.length ≤ 2000 := by rw [← hT]; simp; omega
            have ha4 := saddT (P := Tryz.prog) hTa (by omega)
            have ha5 := saddT (P := Tryz.prog) hT (by omega)
            rw [show str [33] = { data := #[33] } from rfl] at ha5
            have HRT2 : Hid (recT b0 ⟨rd, rt, rk, rkey, true, rval⟩ = T) := Lib.hid (HRT.out.trans (by rw [← hT, ← hTa]; simp [shownW]))
            clear hT hTa
            go_wp2_with (first | (at_builtin; refine wp_append_base rfl _ _ 39 rfl w.heap.size 9 i0 _ 1 16 Tryz.underlying39 hi hz0 hz1 hz2 rfl (by decide) _ _ _ rfl HI3.out.own #[.string (str T)] 9 1 1 rfl rfl (by simp [Value.oneCell']) (by unfold maxLen; omega) (by omega) hw1 ?_; intro v7 u7 ho7 hg7; have HO7 := Lib.hid ho7; have HG7 := Lib.hid hg7; clear ho7 hg7; rw [wd_nil u7]))
            go_wp2
            go_roundw
            case rel => exact ⟨j + 1, v7, ls2 ++ [T], by omega, by go_num, rfl, Lib.hid (by rw [HRS2.out, HL2.out, HRT2.out, List.append_assoc]), by simp; omega, Lib.hid (HI3.out.add (by omega) HO7.out HG7.out), Lib.hid (blk_grown HRB3.out HI3.out.own (by decide) HG7.out)⟩
            case measure => simp [intOf]; omega
        · obtain rfl : j = M := by omega
          have hall : rs.take j = rs := List.take_of_length_le (by rw [HML.out]; exact Nat.le_refl _)
          rw [← wd_nil wi]
          go_wp2
          go_roundw
          case rel => exact ⟨k + 1, v2, ls2, by omega, by go_num, rfl, Lib.hid (by rw [HX.out, HL2.out, hall, HLS.out]), by omega, Lib.hid (by rw [wd_nil]; exact HI2.out), Lib.hid (by rw [wd_nil]; exact HRB2.out)⟩
          case measure => simp [intOf]; omega
    · obtain rfl : k = N := by omega
      have hall : l.take k = l := List.take_of_length_le (by rw [HN.out]; exact Nat.le_refl _)
      obtain ⟨hx1, hx2⟩ := HNX.out
      have HD := Lib.hid (fun W => rdigI_any nx (by omega) (by omega) W)
      have hdl := digI_len (n := nx) ⟨by omega, by omega⟩
      have hw1 := HI.out.more.below.size
      obtain ⟨D, hD⟩ : ∃ D, digI nx = D := ⟨_, rfl⟩
      obtain ⟨T, hT⟩ : ∃ T, [110, 101, 120, 116, 32] ++ D = T := ⟨_, rfl⟩
      have HT : Hid (fetchL l nx = ls ++ [T]) := Lib.hid (by unfold fetchL; rw [HLS.out, hall, ← hT, ← hD])
      rw [hD] at HD hdl
      have hTl : T.length ≤ 25 := by rw [← hT]; simp; omega
      have ha := saddT (P := Tryz.prog) hT (by omega)
      rw [show str [110, 101, 120, 116, 32] = { data := #[110, 101, 120, 116, 32] } from rfl] at ha
      clear hD hT hall hdl
      rw [← wd_nil wo]
      go_wp2_with (first
        | (go_at_call 14; ((with_reducible refine (HD.out _).mono ?_); rintro e w1 ⟨rfl, x1, n1, rfl⟩))
        | (at_builtin; refine wp_append_base rfl _ _ 39 rfl w.heap.size 9 i0 _ 1 16 Tryz.underlying39 hi hz0 hz1 hz2 rfl (by decide) _ _ _ rfl HI.out.own #[.string (str T)] 9 1 1 rfl rfl (by simp [Value.oneCell']) (by unfold maxLen; omega) (by omega) hw1 ?_; intro v7 u7 ho7 hg7; have HO7 := Lib.hid ho7; have HG7 := Lib.hid hg7; clear ho7 hg7; rw [wd_nil u7]))
      go_ret
      have HL := HI.out.add (by omega) HO7.out HG7.out
      rw [HT.out]
      obtain ⟨x, m, hxm⟩ := HL.more
      exact ⟨_, x, m, rfl, hxm, HL.srd⟩
@[go_sem] theorem stp_1 (s : Stp) (a : Option Addr) (cap : Nat) (f : Option Addr) (fc : Nat) : (stp s a cap f fc)[1]? = some (.int .u8 (s.q.kind : Nat)) := by unfold stp stpCells reqCells; rfl
@[go_sem] theorem stp_at1 (s : Stp) (a : Option Addr) (cap : Nat) (f : Option Addr) (fc : Nat) (h : 1 < (stp s a cap f fc).size) : (stp s a cap f fc)[1] = .int .u8 (s.q.kind : Nat) := by have := stp_1 s a cap f fc; rw [Array.getElem?_eq_getElem h] at this; exact Option.some.inj this
theorem lines_of {w : World} {L : List (Array Obj)} {n : Nat} {v : Value} {ls : List Word} (h : SRd (wd w L n) v ls) : LinesRet w (wd w L n) (.returned v) ls := by
  obtain ⟨x, m, hx⟩ := more_wd w L n
  exact ⟨_, x, m, rfl, hx, h⟩
theorem casked_any (k : Nat) (k0 er off nx : Int) (db : Bool) (ge : Int) (bv pv nv : Value) (ps : List Int) (ns : List Word) (w : World) (hp : ZRd w pv ps) (hn : SRd w nv ns) (hT : Told1 off nx ge ps ns) : Calls Tryz.prog 38 #[.int .u8 k, .agg #[.int .u8 k0, .int .i64 er, .int .i64 off, .int .i64 nx, .bool db, .int .i64 ge, bv, pv, nv]] w fun e w' => e = .returned (.string (str (askedW k off nx db ge ps ns))) ∧ More w w' := by
  by_cases h0 : k = 0
  · subst h0; exact casked0 k0 er off nx db ge bv pv nv ps ns w hp hn hT
  by_cases h2 : k = 2
  · subst h2; exact casked2 k0 er off nx db ge bv pv nv ps ns w hp hn hT
  by_cases h3 : k = 3
  · subst h3; exact casked3 k0 er off nx db ge bv pv nv ps ns w hp hn hT
  by_cases h5 : k = 5
  · subst h5; exact casked5 k0 er off nx db ge bv pv nv ps ns w hp hn hT
  by_cases h11 : k = 11
  · subst h11; exact casked11 k0 er off nx db ge bv pv nv ps ns w hp hn hT
  by_cases h6 : k = 6
  · subst h6; exact casked6 k0 er off nx db ge bv pv nv ps ns w hp hn hT
  by_cases h9 : k = 9
  · subst h9; exact casked9 k0 er off nx db ge bv pv nv ps ns w hp hn hT
  by_cases h7 : k = 7
  · subst h7; exact casked7 k0 er off nx db ge bv pv nv ps ns w hp hn hT
  by_cases h8 : k = 8
  · subst h8; exact casked8 k0 er off nx db ge bv pv nv ps ns w hp hn hT
  exact casked_other k ⟨h0, h2, h3, h5, h11, h6, h9, h7, h8⟩ k0 er off nx db ge bv pv nv ps ns w hp hn hT
theorem rasked_any (k : Nat) (h4 : k ≠ 4) (k0 er off nx : Int) (db : Bool) (ge : Int) (bv pv nv : Value) (ps : List Int) (ns : List Word) (w : World) (hp : ZRd w pv ps) (hn : SRd w nv ns) (hT : Told1 off nx ge ps ns) : Calls Tryz.prog 39 #[.int .u8 k, .agg #[.int .u8 k0, .int .i64 er, .int .i64 off, .int .i64 nx, .bool db, .int .i64 ge, bv, pv, nv]] w fun e w' => LinesRet w w' e [askedW k off nx db ge ps ns] := by
  by_cases h0 : k = 0
  · subst h0; exact rasked0 k0 er off nx db ge bv pv nv ps ns w hp hn hT
  by_cases h2 : k = 2
  · subst h2; exact rasked2 k0 er off nx db ge bv pv nv ps ns w hp hn hT
  by_cases h3 : k = 3
  · subst h3; exact rasked3 k0 er off nx db ge bv pv nv ps ns w hp hn hT
  by_cases h5 : k = 5
  · subst h5; exact rasked5 k0 er off nx db ge bv pv nv ps ns w hp hn hT
  by_cases h11 : k = 11
  · subst h11; exact rasked11 k0 er off nx db ge bv pv nv ps ns w hp hn hT
  by_cases h6 : k = 6
  · subst h6; exact rasked6 k0 er off nx db ge bv pv nv ps ns w hp hn hT
  by_cases h9 : k = 9
  · subst h9; exact rasked9 k0 er off nx db ge bv pv nv ps ns w hp hn hT
  by_cases h7 : k = 7
  · subst h7; exact rasked7 k0 er off nx db ge bv pv nv ps ns w hp hn hT
  by_cases h8 : k = 8
  · subst h8; exact rasked8 k0 er off nx db ge bv pv nv ps ns w hp hn hT
  exact rasked_other k ⟨h0, h2, h3, h5, h11, h6, h9, h7, h8, h4⟩ k0 er off nx db ge bv pv nv ps ns w hp hn hT
theorem askedW_len (k : Nat) {off nx ge : Int} (db : Bool) {ps : List Int} {ns : List Word} (hT : Told1 off nx ge ps ns) : (askedW k off nx db ge ps ns).length ≤ 40000 := by
  have h1 := digI_len (bd_of hT.off)
  have h2 := digI_len (bd_of hT.nx)
  have h3 := digI_len (bd_of hT.ge)
  have h4 := numsW_len hT.ps
  have h5 := namesW_len hT.ns
  have h6 := hT.np
  have h7 := hT.nn
  unfold askedW
  repeat' split
  all_goals (simp; try omega)
set_option maxRecDepth 100000 in
set_option maxHeartbeats 6400000 in
theorem told_any (s : Stp) (a f : Option Addr) (sc fc : Nat) (e : Int) (he1 : 0 ≤ e) (he2 : e < 256) (k0 er off nx : Int) (db : Bool) (ge : Int) (ad : Option Addr) (cap : Nat) (l : List Btm) (pv nv : Value) (ps : List Int) (ns : List Word) (w : World) (hB : BatsAt w ad l) (hM : Mild l) (hp : ZRd w pv ps) (hn : SRd w nv ns) (hT : Told1 off nx ge ps ns) : Calls Tryz.prog 18 #[.agg (stp s a sc f fc), .agg #[.int .u8 k0, .int .i64 er, .int .i64 off, .int .i64 nx, .bool db, .int .i64 ge, .slice ad l.length cap, pv, nv], .int .i64 e] w fun x w' => LinesRet w w' x (toldL s.kind s.q.kind e off nx db ge l ps ns) := by
  have HT := Lib.hid hT
  by_cases he : e = 0
  · subst he
    have hk2 : ((s.kind : Int) == 2) = decide (s.kind = 2) := by rw [Bool.eq_iff_iff]; simp <;> omega
    have hk0 : ((s.kind : Int) != 0) = !decide (s.kind = 0) := by rw [Bool.eq_iff_iff]; simp <;> omega
    have hk4 : ((s.q.kind : Int) == 4) = decide (s.q.kind = 4) := by rw [Bool.eq_iff_iff]; simp <;> omega
    by_cases h2 : s.kind = 2
    · have HD := Lib.hid (fun W => cdig_any nx (bd_of hT.nx).1 (bd_of hT.nx).2 W)
      have hl := digI_len (n := nx) ⟨(bd_of hT.nx).1, (bd_of hT.nx).2⟩
      obtain ⟨D, hD⟩ : ∃ D, digI nx = D := ⟨_, rfl⟩
      rw [hD] at HD hl
      obtain ⟨T, hTT⟩ : ∃ T, [119, 111, 114, 107, 101, 100, 32] ++ D = T := ⟨_, rfl⟩
      have hTl : T.length ≤ 100 := by rw [← hTT]; simp; omega
      have ha := saddT (P := Tryz.prog) hTT (by omega)
      rw [show str [119, 111, 114, 107, 101, 100, 32] = { data := #[119, 111, 114, 107, 101, 100, 32] } from rfl] at ha
      have HA : Hid (toldL s.kind s.q.kind 0 off nx db ge l ps ns = [T]) := Lib.hid (by unfold toldL; rw [if_neg (by simp), if_pos h2, ← hTT, ← hD])
      rw [decide_eq_true h2] at hk2
      clear hB hM hp hn hT hD hTT hl h2
      refine calls_wd ?_
      go_enter Tryz.func18, Tryz.ntmps18
      go_wp2_with (first | (go_at_call 13; ((with_reducible refine (HD.out _).mono ?_); rintro e w1 ⟨rfl, x1, n1, rfl⟩)))
      go_ret
      rw [HA.out]
      exact lines_one (by omega)
    rw [decide_eq_false h2] at hk2
    by_cases h0 : s.kind = 0
    · rw [decide_eq_true h0] at hk0
      by_cases h4 : s.q.kind = 4
      · rw [decide_eq_true h4] at hk4
        have HA : Hid (toldL s.kind s.q.kind 0 off nx db ge l ps ns = fetchL l nx) := Lib.hid (by unfold toldL; rw [if_neg (by simp), if_neg h2, if_neg (by simp [h0]), if_pos h4])
        have HF := Lib.hid (fun W (hm : More w W) => fetched_any k0 er off nx db ge ad cap l pv nv W (hB.more hm) hM hT.nx)
        clear hB hM hp hn hT h0 h2 h4
        refine calls_wd ?_
        go_enter Tryz.func18, Tryz.ntmps18
        go_wp2_with (first | (go_at_call 37; refine (HF.out _ (more_wd _ _ _)).mono ?_; rintro e w1 hs; obtain ⟨v7, x7, n7, rfl, rfl, hsr⟩ := hs.out; rw [wd_plus] at hsr; have HSR := Lib.hid hsr; clear hs hsr))
        go_ret
        rw [HA.out]
        exact lines_of (HSR.out.more (by first | exact more_same _ _ _ _ | exact more_cons (more_same _ _ _ _)))
      · rw [decide_eq_false h4] at hk4
        have HA : Hid (toldL s.kind s.q.kind 0 off nx db ge l ps ns = [askedW s.q.kind off nx db ge ps ns]) := Lib.hid (by unfold toldL; rw [if_neg (by simp), if_neg h2, if_neg (by simp [h0]), if_neg h4])
        have HQ := Lib.hid (fun W (hm : More w W) => casked_any s.q.kind k0 er off nx db ge (.slice ad l.length cap) pv nv ps ns W (hp.more hm) (hn.more hm) hT)
        have HAL := Lib.hid (askedW_len s.q.kind db hT)
        clear hB hM hp hn hT h0 h2 h4
        refine calls_wd ?_
        go_enter Tryz.func18, Tryz.ntmps18
        go_wp2_with (first | (go_at_call 38; ((with_reducible refine (HQ.out _ (more_wd _ _ _)).mono ?_); rintro e w1 ⟨rfl, x1, n1, rfl⟩)))
        go_ret
        rw [HA.out]
        exact lines_one (by have := HAL.out; omega)
    · rw [decide_eq_false h0] at hk0
      have HA : Hid (toldL s.kind s.q.kind 0 off nx db ge l ps ns = [[111, 107]]) := Lib.hid (by unfold toldL; rw [if_neg (by simp), if_neg h2, if_pos h0])
      clear hB hM hp hn hT h0 h2
      refine calls_wd ?_
      go_enter Tryz.func18, Tryz.ntmps18
      go_wp2
      go_ret
      rw [HA.out]
      exact lines_one (by decide)
  · have HD := Lib.hid (fun W => cdig_any e (by omega) (by omega) W)
    have hl := digI_len (n := e) ⟨(by omega), (by omega)⟩
    obtain ⟨D, hD⟩ : ∃ D, digI e = D := ⟨_, rfl⟩
    rw [hD] at HD hl
    obtain ⟨T, hTT⟩ : ∃ T, [101, 114, 114, 111, 114, 32] ++ D = T := ⟨_, rfl⟩
    have hTl : T.length ≤ 100 := by rw [← hTT]; simp; omega
    have ha := saddT (P := Tryz.prog) hTT (by omega)
    rw [show str [101, 114, 114, 111, 114, 32] = { data := #[101, 114, 114, 111, 114, 32] } from rfl] at ha
    have HA : Hid (toldL s.kind s.q.kind e off nx db ge l ps ns = [T]) := Lib.hid (by unfold toldL; rw [if_pos he, ← hTT, ← hD])
    have hne : (e != 0) = true := by simp [he]
    clear hB hM hp hn hT hD hTT hl
    refine calls_wd ?_
    go_enter Tryz.func18, Tryz.ntmps18
    go_wp2_with (first | (go_at_call 13; ((with_reducible refine (HD.out _).mono ?_); rintro e w1 ⟨rfl, x1, n1, rfl⟩)))
    go_ret
    rw [HA.out]
    exact lines_one (by omega)
set_option maxRecDepth 100000 in
set_option maxHeartbeats 6400000 in
theorem rasked4 (k0 er off nx : Int) (db : Bool) (ge : Int) (ad : Option Addr) (cap : Nat) (l : List Btm) (pv nv : Value) (w : World) (hB : BatsAt w ad l) (hM : Mild l) (hnx : In61 nx) : Calls Tryz.prog 39 #[.int .u8 4, .agg #[.int .u8 k0, .int .i64 er, .int .i64 off, .int .i64 nx, .bool db, .int .i64 ge, .slice ad l.length cap, pv, nv]] w fun x w' => LinesRet w w' x (fetchL l nx) := by
  have HF := Lib.hid (fun W (hm : More w W) => rfetched_any k0 er off nx db ge ad cap l pv nv W (hB.more hm) hM hnx)
  clear hB hM hnx
  refine calls_wd ?_
  go_enter Tryz.func39, Tryz.ntmps39
  go_wp2_with (first | (go_at_call 61; refine (HF.out _ (more_wd _ _ _)).mono ?_; rintro e w1 hs; obtain ⟨v7, x7, n7, rfl, rfl, hsr⟩ := hs.out; rw [wd_plus] at hsr; have HSR := Lib.hid hsr; clear hs hsr))
  go_ret
  exact lines_of (HSR.out.more (by first | exact more_same _ _ _ _ | exact more_cons (more_same _ _ _ _)))
set_option maxRecDepth 100000 in
set_option maxHeartbeats 6400000 in
theorem rtold_any (s : Stp) (a f : Option Addr) (sc fc : Nat) (e : Int) (he1 : 0 ≤ e) (he2 : e < 256) (k0 er off nx : Int) (db : Bool) (ge : Int) (ad : Option Addr) (cap : Nat) (l : List Btm) (pv nv : Value) (ps : List Int) (ns : List Word) (w : World) (hB : BatsAt w ad l) (hM : Mild l) (hp : ZRd w pv ps) (hn : SRd w nv ns) (hT : Told1 off nx ge ps ns) : Calls Tryz.prog 19 #[.agg (stp s a sc f fc), .agg #[.int .u8 k0, .int .i64 er, .int .i64 off, .int .i64 nx, .bool db, .int .i64 ge, .slice ad l.length cap, pv, nv], .int .i64 e] w fun x w' => LinesRet w w' x (toldL s.kind s.q.kind e off nx db ge l ps ns) := by
  have HT := Lib.hid hT
  by_cases he : e = 0
  · subst he
    have hk2 : ((s.kind : Int) == 2) = decide (s.kind = 2) := by rw [Bool.eq_iff_iff]; simp <;> omega
    have hk0 : ((s.kind : Int) != 0) = !decide (s.kind = 0) := by rw [Bool.eq_iff_iff]; simp <;> omega
    have hk4 : ((s.q.kind : Int) == 4) = decide (s.q.kind = 4) := by rw [Bool.eq_iff_iff]; simp <;> omega
    by_cases h2 : s.kind = 2
    · have HD := Lib.hid (fun W => rdigI_any nx (bd_of hT.nx).1 (bd_of hT.nx).2 W)
      have hl := digI_len (n := nx) ⟨(bd_of hT.nx).1, (bd_of hT.nx).2⟩
      obtain ⟨D, hD⟩ : ∃ D, digI nx = D := ⟨_, rfl⟩
      rw [hD] at HD hl
      obtain ⟨T, hTT⟩ : ∃ T, [119, 111, 114, 107, 101, 100, 32] ++ D = T := ⟨_, rfl⟩
      have hTl : T.length ≤ 100 := by rw [← hTT]; simp; omega
      have ha := saddT (P := Tryz.prog) hTT (by omega)
      rw [show str [119, 111, 114, 107, 101, 100, 32] = { data := #[119, 111, 114, 107, 101, 100, 32] } from rfl] at ha
      have HA : Hid (toldL s.kind s.q.kind 0 off nx db ge l ps ns = [T]) := Lib.hid (by unfold toldL; rw [if_neg (by simp), if_pos h2, ← hTT, ← hD])
      rw [decide_eq_true h2] at hk2
      clear hB hM hp hn hT hD hTT hl h2
      refine calls_wd ?_
      go_enter Tryz.func19, Tryz.ntmps19
      go_wp2_with (first | (go_at_call 14; ((with_reducible refine (HD.out _).mono ?_); rintro e w1 ⟨rfl, x1, n1, rfl⟩)))
      go_ret
      rw [HA.out]
      exact lines_one (by omega)
    rw [decide_eq_false h2] at hk2
    by_cases h0 : s.kind = 0
    · rw [decide_eq_true h0] at hk0
      have HQ : Hid (∀ W, More w W → Calls Tryz.prog 39 #[.int .u8 s.q.kind, .agg #[.int .u8 k0, .int .i64 er, .int .i64 off, .int .i64 nx, .bool db, .int .i64 ge, .slice ad l.length cap, pv, nv]] W fun x w' => LinesRet W w' x (toldL s.kind s.q.kind 0 off nx db ge l ps ns)) := Lib.hid (fun W hm => by
        by_cases h4 : s.q.kind = 4
        · have e : toldL s.kind s.q.kind 0 off nx db ge l ps ns = fetchL l nx := by unfold toldL; rw [if_neg (by simp), if_neg h2, if_neg (by simp [h0]), if_pos h4]
          rw [e, h4]
          exact rasked4 k0 er off nx db ge ad cap l pv nv W (hB.more hm) hM hT.nx
        · have e : toldL s.kind s.q.kind 0 off nx db ge l ps ns = [askedW s.q.kind off nx db ge ps ns] := by unfold toldL; rw [if_neg (by simp), if_neg h2, if_neg (by simp [h0]), if_neg h4]
          rw [e]
          exact rasked_any s.q.kind h4 k0 er off nx db ge (.slice ad l.length cap) pv nv ps ns W (hp.more hm) (hn.more hm) hT)
      clear hB hM hp hn hT h0 h2 hk4
      refine calls_wd ?_
      go_enter Tryz.func19, Tryz.ntmps19
      go_wp2_with (first | (go_at_call 39; refine (HQ.out _ (more_wd _ _ _)).mono ?_; rintro e w1 hs; obtain ⟨v7, x7, n7, rfl, rfl, hsr⟩ := hs.out; rw [wd_plus] at hsr; have HSR := Lib.hid hsr; clear hs hsr))
      go_ret
      exact lines_of (HSR.out.more (by first | exact more_same _ _ _ _ | exact more_cons (more_same _ _ _ _)))
    · rw [decide_eq_false h0] at hk0
      have HA : Hid (toldL s.kind s.q.kind 0 off nx db ge l ps ns = [[111, 107]]) := Lib.hid (by unfold toldL; rw [if_neg (by simp), if_neg h2, if_pos h0])
      clear hB hM hp hn hT h0 h2
      refine calls_wd ?_
      go_enter Tryz.func19, Tryz.ntmps19
      go_wp2
      go_ret
      rw [HA.out]
      exact lines_one (by decide)
  · have HD := Lib.hid (fun W => rdigI_any e (by omega) (by omega) W)
    have hl := digI_len (n := e) ⟨(by omega), (by omega)⟩
    obtain ⟨D, hD⟩ : ∃ D, digI e = D := ⟨_, rfl⟩
    rw [hD] at HD hl
    obtain ⟨T, hTT⟩ : ∃ T, [101, 114, 114, 111, 114, 32] ++ D = T := ⟨_, rfl⟩
    have hTl : T.length ≤ 100 := by rw [← hTT]; simp; omega
    have ha := saddT (P := Tryz.prog) hTT (by omega)
    rw [show str [101, 114, 114, 111, 114, 32] = { data := #[101, 114, 114, 111, 114, 32] } from rfl] at ha
    have HA : Hid (toldL s.kind s.q.kind e off nx db ge l ps ns = [T]) := Lib.hid (by unfold toldL; rw [if_pos he, ← hTT, ← hD])
    have hne : (e != 0) = true := by simp [he]
    clear hB hM hp hn hT hD hTT hl
    refine calls_wd ?_
    go_enter Tryz.func19, Tryz.ntmps19
    go_wp2_with (first | (go_at_call 14; ((with_reducible refine (HD.out _).mono ?_); rintro e w1 ⟨rfl, x1, n1, rfl⟩)))
    go_ret
    rw [HA.out]
    exact lines_one (by omega)
end Go.Proofs.YtifoekadjnlhcaaGreatDoor
