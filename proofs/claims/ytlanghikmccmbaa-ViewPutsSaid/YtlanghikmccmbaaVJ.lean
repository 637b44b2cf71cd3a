/- bilanderref36.Read: the walk. -/
import Derived.Test.YtlanghikmccmbaaVH
namespace Go.Proofs.Ytlanghikmccmbaa
open Go.ChangeShapes Go.WideShapes Go.ChangeAt Go.RowKit
set_option linter.unusedVariables false
set_option linter.unusedSimpArgs false

theorem info_rrow : (Try.prog.info? 26).map (fun i => (i.zero, i.size, i.bytes)) = some (some (.agg #[.string ⟨#[]⟩, .string ⟨#[]⟩, .int .i64 0, .int .i64 0]), 4, 48) := by kernel_rfl
set_option maxRecDepth 100000 in
set_option maxHeartbeats 6400000 in
theorem rvread_any (v : Value) (l : List UInt8) (w : World) (hv : RB w v l) : Calls Try.prog 24 #[v] w fun x w' => VwRet w w' x (viewGet l) := by
  obtain ⟨i0, hi, hz0, hz1, hz2⟩ := info_parts info_rrow
  have HV := Lib.hid hv
  have HVS := Lib.hid (fun (L : List (Array Obj)) (n : Nat) => (HV.out.more (more_wd w L n)).run_str (P := Try.prog) 48 9 5 Try.underlying48 Try.underlying5 Try.underlying9)
  have HELSE := Lib.hid (fun (k : Nat) hk hne => view_else (l := l) (k := k) hk hne)
  have HSAME := Lib.hid (fun (k : Nat) hk h => view_same (l := l) (k := k) hk h)
  have HNN : Hid (vN l = (max 0 (min (vCnt l) 4097)).toNat) := Lib.hid rfl
  have HD : Hid (∀ k : Nat, viewDec k l = ⟨vNext l, rdRows k (vSt l).1 (vSt l).2⟩) := Lib.hid (fun _ => rfl)
  have hn0 := fun (v1 : Value) (W : World) (h : RB W v1 l) => rnum_any v1 l 0 W h
  have hn1 := fun (v1 : Value) (W : World) (h : RB W v1 (numL l 0)) => rnum_any v1 (numL l 0) (numE l 0) W h
  have e0 : vNext l = numV l 0 := rfl
  have e1 : vCnt l = numV (numL l 0) (numE l 0) := rfl
  have e2 : vSt l = (numL (numL l 0) (numE l 0), numE (numL l 0) (numE l 0)) := rfl
  rw [← e0] at hn0
  rw [← e1] at hn1
  generalize vNext l = d0 at *
  generalize vCnt l = d1 at *
  obtain ⟨l2, q2, hst⟩ : ∃ l2 q2, vSt l = (l2, q2) := ⟨_, _, rfl⟩
  rw [hst] at e2 HELSE HSAME HD
  simp only [Prod.mk.injEq] at e2
  rw [← e2.1, ← e2.2] at hn1
  clear e0 e1 e2 hst
  generalize numL l 0 = l1 at *
  generalize numE l 0 = q1 at *
  dsimp only at *
  generalize vN l = N at *
  have hN : N ≤ 4097 := by rw [HNN.out]; omega
  have hNN : (N = 0 ∨ (N : Int) ≤ d1) ∧ (d1 ≤ N ∨ N = 4097) := by have := HNN.out; omega
  have HN := Lib.hid hNN
  clear hNN HNN
  obtain ⟨a0, cap0, rfl, hcap0, hm0, _⟩ := hv
  refine calls_wd ?_
  go_enter Try.func24, Try.ntmps24
  go_wp2_with (first
    | (go_at_call 52; ((with_reducible refine (hn0 _ _ (HV.out.more (more_wd w _ _))).mono ?_); rintro x w1 ⟨v1, rfl, hb1, y1, z1, rfl⟩; have HB1 := Lib.hid (hb1); clear hb1; obtain ⟨aa1, cc1, rfl, -, -, -⟩ := HB1.out w HV.out))
    | (go_at_call 52; ((with_reducible refine (hn1 _ _ (HB1.out _ (HV.out.more (more_wd w _ _)))).mono ?_); rintro x w1 ⟨v2, rfl, hb2, y2, z2, rfl⟩; have HB2 := Lib.hid (keep_trans HB1.out hb2); clear hb2; obtain ⟨aa2, cc2, rfl, -, -, -⟩ := HB2.out w HV.out)))
  go_loopw [8] (fun i wr => ∃ (k : Nat) (m : Ext) (ra : Option Addr) (rc : Nat) (a : Option Addr) (cap : Nat) (sl : List UInt8) (se : Int), k ≤ N ∧ i = .int .i64 k ∧ Hid (rdSt k l2 q2 = (sl, se)) ∧ Hid (∀ W0, RB W0 (.slice a0 l.length cap0) l → RB W0 (.slice ra sl.length rc) sl) ∧ Hid (rowIn w.heap.size [1, y1.size, 1, 1] m.e 26 4 (.slice a k cap) k ((rdRows k l2 q2).flatMap vrCells)) ∧ wr = wd w [m.e, #[.cells #[.slice ra sl.length rc, .int .i64 se] 95], y1, #[.cells #[.int .i64 d0, .slice a k cap] 24], #[.cells #[.int .i64 0, .slice none 0 0] 24]] m.n) (fun i _ => N - (intOf i).toNat)
  case atStart => exact ⟨0, ⟨_, _⟩, aa2, cc2, none, 0, l2, q2, Nat.zero_le _, rfl, Lib.hid rfl, HB2, Lib.hid (rowIn_nil _ _ _ _ _), rfl⟩
  case round =>
    obtain ⟨k, m, ra, rc, a, cap, sl, se, hk, rfl, HS, HKP, HROW, rfl⟩ := hrel
    have HRA : Hid (∀ n, VRowsAt (wd w [m.e, #[.cells #[.slice ra sl.length rc, .int .i64 se] 95], y1, #[.cells #[.int .i64 d0, .slice a k cap] 24], #[.cells #[.int .i64 0, .slice none 0 0] 24]] n) a (rdRows k l2 q2)) := Lib.hid (fun n => by
      have h := rdrow_of_row (L := [#[.cells #[.slice ra sl.length rc, .int .i64 se] 95], y1, #[.cells #[.int .i64 d0, .slice a k cap] 24], #[.cells #[.int .i64 0, .slice none 0 0] 24]]) (k := n) HROW.out
      have e := rdRows_len k l2 q2
      refine RowAt.of_rd (cap := cap) ?_
      rw [e]; exact h)
    by_cases hgo : k < N ∧ se = 0
    · obtain ⟨hlt, rfl⟩ := hgo
      obtain ⟨lA, eA, lB, eB, lC, eC, lD, eD, K1, V1, O1, T1, hF, hr1, hd1⟩ := rowR_any sl 0
      have HF := Lib.hid hF
      have HN1 : Hid (rdRows (k + 1) l2 q2 = rdRows k l2 q2 ++ [⟨K1, V1, O1, T1⟩]) := Lib.hid (by rw [rdRows_succ, HS.out]; show _ ++ [rdRow sl 0] = _; rw [hr1])
      have HS1 : Hid (rdSt (k + 1) l2 q2 = (lD, eD)) := Lib.hid (by unfold rdSt; rw [HS.out]; exact hd1)
      clear hF hr1 hd1
      have h1 : (k : Int) < d1 := by have := HN.out; omega
      have h2 : (k : Int) ≤ 4096 := by omega
      go_wp2_with (first
        | (go_at_call 53; ((with_reducible refine (HF.out.A _ _ (HKP.out _ (HV.out.more (more_wd w _ _)))).mono ?_); rintro x w1 ⟨t5, rfl, hb, x5, n5, rfl⟩; have HKA := Lib.hid (keep_trans HKP.out hb); clear hb; obtain ⟨b5, c5, rfl, -, -, -⟩ := HKA.out w HV.out))
        | (go_at_call 53; ((with_reducible refine (HF.out.B _ _ (HKA.out _ (HV.out.more (more_wd w _ _)))).mono ?_); rintro x w1 ⟨t6, rfl, hb, x6, n6, rfl⟩; have HKB := Lib.hid (keep_trans HKA.out hb); clear hb; obtain ⟨b6, c6, rfl, -, -, -⟩ := HKB.out w HV.out))
        | (go_at_call 52; ((with_reducible refine (HF.out.C _ _ (HKB.out _ (HV.out.more (more_wd w _ _)))).mono ?_); rintro x w1 ⟨t7, rfl, hb, x7, n7, rfl⟩; have HKC := Lib.hid (keep_trans HKB.out hb); clear hb; obtain ⟨b7, c7, rfl, -, -, -⟩ := HKC.out w HV.out))
        | (go_at_call 52; ((with_reducible refine (HF.out.D _ _ (HKC.out _ (HV.out.more (more_wd w _ _)))).mono ?_); rintro x w1 ⟨t8, rfl, hb, x8, n8, rfl⟩; have HKD := Lib.hid (keep_trans HKC.out hb); clear hb; obtain ⟨b8, c8, rfl, -, -, -⟩ := HKD.out w HV.out))
        | (at_builtin; refine wp_append_rowD [x8, x7, x6, x5, #[.cells _ _]] rfl _ _ _ rfl 26 i0 _ 4 48 Try.underlying22 hi hz0 hz1 hz2 rfl (by decide) (.slice a k cap) k _ rfl HROW.out _ _ 1 1 rfl rfl (by simp [Value.oneCell']) (by unfold maxLen; omega) (by omega) ?_; intro v9 m9 hr9; obtain ⟨a9, c9, rfl⟩ := rowIn_slice hr9))
      go_roundw
      case rel => exact ⟨k + 1, m9, b8, c8, a9, c9, lD, eD, by omega, by go_num, HS1, HKD, Lib.hid (by rw [HN1.out, flat_snoc]; exact hr9), rfl⟩
      case measure => simp [intOf]; omega
    · have hput := fun (W : World) (h : VRowsAt W a (rdRows k l2 q2)) => rvput_any ⟨d0, rdRows k l2 q2⟩ a cap W h (rdRows_small _ _ _) (by show (rdRows _ _ _).length ≤ _; rw [rdRows_len]; unfold maxLen; omega)
      dsimp only at hput
      rw [rdRows_len] at hput
      have HOUT : Hid (viewPut ⟨d0, rdRows k l2 q2⟩ ≠ (l, 0) → ∀ b, viewPut b ≠ (l, 0)) := Lib.hid (fun hne => HELSE.out k (by
        by_cases h : k < N
        · exact .inr ⟨h, by rw [HS.out]; intro h0; exact hgo ⟨h, h0⟩⟩
        · exact .inl (by omega)) (by rw [HD.out]; exact hne))
      have HIN : Hid (viewPut ⟨d0, rdRows k l2 q2⟩ = (l, 0) → viewGet l = (⟨d0, rdRows k l2 q2⟩, 0)) := Lib.hid (fun h => viewGet_put h)
      obtain ⟨pp, hpp⟩ : ∃ pp, viewPut ⟨d0, rdRows k l2 q2⟩ = pp := ⟨_, rfl⟩
      rw [hpp] at hput HOUT HIN
      clear hpp
      obtain ⟨pl, pe⟩ := pp
      have HPUT := Lib.hid hput
      clear hput
      have hcs : (d1 ≤ k) ∨ ((k : Int) < d1 ∧ 4097 ≤ (k : Int)) ∨ ((k : Int) < d1 ∧ (k : Int) < 4097 ∧ se ≠ 0) := by
        have := HN.out
        by_cases h : k < N
        · have : se ≠ 0 := fun h0 => hgo ⟨h, h0⟩
          omega
        · omega
      have hk32 : k ≤ 4097 := by omega
      clear hgo
      by_cases hpe : pe = 0
      · by_cases hpl : pl = l
        · have HX := Lib.hid (HIN.out (by rw [hpl, hpe]))
          subst hpe
          have hq1 : ((str pl).toList == (str l).toList) = true := (str_beq _ _).trans (decide_eq_true hpl)
          have hq2 : ((str pl).toList != (str l).toList) = false := by rw [bne, hq1]; rfl
          clear hpl
          rcases hcs with hc1 | ⟨hc1, hc2⟩ | ⟨hc1, hc2, hc3⟩
          all_goals
            (try have hc4 : (se == 0) = false := by rw [beq_eq_false_iff_ne]; exact hc3)
            go_wp2_with (first
              | (go_at_call 22; ((with_reducible refine (HPUT.out _ (HRA.out _)).mono ?_); rintro e w2 ⟨u9, rfl, hm9⟩; obtain ⟨p9, rfl, hs9⟩ := hm9.wd; clear hm9; have hu := (RB.of_row (L := [m.e, #[.cells #[.slice ra sl.length rc, .int .i64 se] 95], y1, #[.cells #[.int .i64 d0, .slice a k cap] 24], #[.cells #[.int .i64 0, .slice none 0 0] 24]]) (k := p9.n) hs9 _ rfl).run_str (P := Try.prog) 48 9 5 Try.underlying48 Try.underlying5 Try.underlying9; have hv9 := HVS.out [p9.e, m.e, #[.cells #[.slice ra sl.length rc, .int .i64 se] 95], y1, #[.cells #[.int .i64 d0, .slice a k cap] 24], #[.cells #[.int .i64 0, .slice none 0 0] 24]] p9.n; clear hs9)))
            have HRF := Lib.hid (rdrow_of_row (L := [#[.cells #[.slice ra sl.length rc, .int .i64 se] 95], y1, #[.cells #[.int .i64 d0, .slice a k cap] 24], #[.cells #[.int .i64 d0, .slice a k cap] 24]]) (k := 0) HROW.out)
            refine bodyPost_ret (v := .tuple #[.agg #[.int .i64 d0, .slice a k cap], .int .i64 0]) (by simp [results, Try.results24, go_sem]) rfl ⟨a, cap, by rw [HX.out, rdRows_len], ?_, more_wd _ _ _, by rw [HX.out]; exact from_row HROW.out (rdRows_len _ _ _)⟩
            rw [HX.out]
            refine (RowAt.of_rd (cap := cap) ?_ : VRowsAt (wd w [m.e, #[.cells #[.slice ra sl.length rc, .int .i64 se] 95], y1, #[.cells #[.int .i64 d0, .slice a k cap] 24], #[.cells #[.int .i64 d0, .slice a k cap] 24]] 0) a (rdRows k l2 q2)).more (more_cons (more_same _ _ _ _))
            rw [rdRows_len]; exact HRF.out
        · have HNB := Lib.hid (HOUT.out (by intro h; exact hpl (congrArg Prod.fst h)))
          subst hpe
          have hq1 : ((str pl).toList == (str l).toList) = false := (str_beq _ _).trans (decide_eq_false hpl)
          have hq2 : ((str pl).toList != (str l).toList) = true := by rw [bne, hq1]; rfl
          clear hpl
          rcases hcs with hc1 | ⟨hc1, hc2⟩ | ⟨hc1, hc2, hc3⟩
          all_goals
            (try have hc4 : (se == 0) = false := by rw [beq_eq_false_iff_ne]; exact hc3)
            go_wp2_with (first
              | (go_at_call 22; ((with_reducible refine (HPUT.out _ (HRA.out _)).mono ?_); rintro e w2 ⟨u9, rfl, hm9⟩; obtain ⟨p9, rfl, hs9⟩ := hm9.wd; clear hm9; have hu := (RB.of_row (L := [m.e, #[.cells #[.slice ra sl.length rc, .int .i64 se] 95], y1, #[.cells #[.int .i64 d0, .slice a k cap] 24], #[.cells #[.int .i64 0, .slice none 0 0] 24]]) (k := p9.n) hs9 _ rfl).run_str (P := Try.prog) 48 9 5 Try.underlying48 Try.underlying5 Try.underlying9; have hv9 := HVS.out [p9.e, m.e, #[.cells #[.slice ra sl.length rc, .int .i64 se] 95], y1, #[.cells #[.int .i64 d0, .slice a k cap] 24], #[.cells #[.int .i64 0, .slice none 0 0] 24]] p9.n; clear hs9)))
            exact bodyPost_ret (v := .tuple #[.agg #[.int .i64 0, .slice none 0 0], .int .i64 4]) (by simp [results, Try.results24, go_sem]) rfl (vwret_no HNB.out rfl)
      · have HNB := Lib.hid (HOUT.out (by intro h; exact hpe (congrArg Prod.snd h)))
        have hne : (pe == 0) = false := by rw [beq_eq_false_iff_ne]; exact hpe
        rcases hcs with hc1 | ⟨hc1, hc2⟩ | ⟨hc1, hc2, hc3⟩
        all_goals
          (try have hc4 : (se == 0) = false := by rw [beq_eq_false_iff_ne]; exact hc3)
          go_wp2_with (first
            | (go_at_call 22; ((with_reducible refine (HPUT.out _ (HRA.out _)).mono ?_); rintro e w2 ⟨u9, rfl, hm9⟩; obtain ⟨p9, rfl, hs9⟩ := hm9.wd; clear hm9; have hu := (RB.of_row (L := [m.e, #[.cells #[.slice ra sl.length rc, .int .i64 se] 95], y1, #[.cells #[.int .i64 d0, .slice a k cap] 24], #[.cells #[.int .i64 0, .slice none 0 0] 24]]) (k := p9.n) hs9 _ rfl).run_str (P := Try.prog) 48 9 5 Try.underlying48 Try.underlying5 Try.underlying9; have hv9 := HVS.out [p9.e, m.e, #[.cells #[.slice ra sl.length rc, .int .i64 se] 95], y1, #[.cells #[.int .i64 d0, .slice a k cap] 24], #[.cells #[.int .i64 0, .slice none 0 0] 24]] p9.n; clear hs9)))
          all_goals exact bodyPost_ret (v := .tuple #[.agg #[.int .i64 0, .slice none 0 0], .int .i64 4]) (by simp [results, Try.results24, go_sem]) rfl (vwret_no HNB.out rfl)
end Go.Proofs.Ytlanghikmccmbaa
