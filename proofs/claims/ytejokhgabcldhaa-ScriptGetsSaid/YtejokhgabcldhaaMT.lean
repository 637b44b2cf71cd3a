/- batch, the reference: Get. -/
import Derived.Test.YtejokhgabcldhaaMF
import Derived.Test.YtejokhgabcldhaaMP
namespace Go.Proofs.Ytejokhgabcldhaa
open Go.ChangeShapes Go.WideShapes Go.ChangeAt Go.RowKit
set_option linter.unusedVariables false
set_option linter.unusedSimpArgs false

set_option maxRecDepth 100000 in
set_option maxHeartbeats 6400000 in
theorem rget_bat (v : Value) (l : List UInt8) (w : World) (hv : RB w v l) : Calls Try.prog 143 #[v] w fun x w' => BatRet w w' x (batGet l) := by
  obtain ⟨i0, hi, hz0, hz1, hz2⟩ := info_parts info_rec
  have HV := Lib.hid hv
  have HNO3 : Hid (8192 < l.length → ∀ b, batPut b ≠ (l, 0)) := Lib.hid (fun h b hb => by have := (bat_facts hb).1; omega)
  have HNO4 : Hid (∀ k, (k = batN l ∨ (k < batN l ∧ (recSt k (numSt 6 l 0).1 (numSt 6 l 0).2).2 ≠ 0)) → batPut ⟨numAt 0 l 0, numAt 1 l 0, numAt 2 l 0, numAt 3 l 0, numAt 4 l 0, recsOf k (numSt 6 l 0).1 (numSt 6 l 0).2⟩ ≠ (l, 0) → ∀ b, batPut b ≠ (l, 0)) := Lib.hid (fun k hk hne b hb => by
    obtain ⟨_, f1, f2, f3, _⟩ := bat_facts hb
    rcases hk with rfl | ⟨hk, hs⟩
    · have f4 : batDec l = ⟨numAt 0 l 0, numAt 1 l 0, numAt 2 l 0, numAt 3 l 0, numAt 4 l 0, recsOf (batN l) (numSt 6 l 0).1 (numSt 6 l 0).2⟩ := rfl
      rw [← f4, f1] at hne; exact hne hb
    · exact hs (f3 k (by omega)))
  have HNO : Hid ((∃ k, k < batN l ∧ (recAt k (numSt 6 l 0).1 (numSt 6 l 0).2).2.2.2 ≠ 0) → ∀ b, batPut b ≠ (l, 0)) := Lib.hid (fun ⟨k, hk, hne⟩ b hb => hne ((bat_facts hb).2.2.2.2 k hk))
  have HG : Hid (batGet l = if batPut (batDec l) = (l, 0) then (batDec l, 0) else (Bat.zero, 4)) := Lib.hid rfl
  have HNO2 : Hid (batPut (batDec l) ≠ (l, 0) → ∀ b, batPut b ≠ (l, 0)) := Lib.hid (fun h b hb => h (by rw [(bat_facts hb).2.1]; exact hb))
  have HD : Hid (batDec l = ⟨numAt 0 l 0, numAt 1 l 0, numAt 2 l 0, numAt 3 l 0, numAt 4 l 0, recsOf (batN l) (numSt 6 l 0).1 (numSt 6 l 0).2⟩) := Lib.hid rfl
  have HNN : Hid (batN l = (max 0 (min (numAt 5 l 0) 32)).toNat) := Lib.hid rfl
  clear hv
  -- the six numbers
  have hn0 := fun (v1 : Value) (W : World) (h : RB W v1 l) => rnum_any v1 l 0 W h
  have e0 : numAt 0 l 0 = numV l 0 := rfl
  have e1 : numAt 1 l 0 = numV (numSt 1 l 0).1 (numSt 1 l 0).2 := rfl
  have e2 : numAt 2 l 0 = numV (numSt 2 l 0).1 (numSt 2 l 0).2 := rfl
  have e3 : numAt 3 l 0 = numV (numSt 3 l 0).1 (numSt 3 l 0).2 := rfl
  have e4 : numAt 4 l 0 = numV (numSt 4 l 0).1 (numSt 4 l 0).2 := rfl
  have e5 : numAt 5 l 0 = numV (numSt 5 l 0).1 (numSt 5 l 0).2 := rfl
  have s1 : numSt 1 l 0 = (numL l 0, numE l 0) := rfl
  have s2 : numSt 2 l 0 = (numL (numSt 1 l 0).1 (numSt 1 l 0).2, numE (numSt 1 l 0).1 (numSt 1 l 0).2) := rfl
  have s3 : numSt 3 l 0 = (numL (numSt 2 l 0).1 (numSt 2 l 0).2, numE (numSt 2 l 0).1 (numSt 2 l 0).2) := rfl
  have s4 : numSt 4 l 0 = (numL (numSt 3 l 0).1 (numSt 3 l 0).2, numE (numSt 3 l 0).1 (numSt 3 l 0).2) := rfl
  have s5 : numSt 5 l 0 = (numL (numSt 4 l 0).1 (numSt 4 l 0).2, numE (numSt 4 l 0).1 (numSt 4 l 0).2) := rfl
  have s6 : numSt 6 l 0 = (numL (numSt 5 l 0).1 (numSt 5 l 0).2, numE (numSt 5 l 0).1 (numSt 5 l 0).2) := rfl
  generalize numSt 6 l 0 = S6 at *
  generalize numSt 5 l 0 = S5 at *
  generalize numSt 4 l 0 = S4 at *
  generalize numSt 3 l 0 = S3 at *
  generalize numSt 2 l 0 = S2 at *
  generalize numSt 1 l 0 = S1 at *
  have hn1 := fun (v1 : Value) (W : World) (h : RB W v1 S1.1) => rnum_any v1 S1.1 S1.2 W h
  have hn2 := fun (v1 : Value) (W : World) (h : RB W v1 S2.1) => rnum_any v1 S2.1 S2.2 W h
  have hn3 := fun (v1 : Value) (W : World) (h : RB W v1 S3.1) => rnum_any v1 S3.1 S3.2 W h
  have hn4 := fun (v1 : Value) (W : World) (h : RB W v1 S4.1) => rnum_any v1 S4.1 S4.2 W h
  have hn5 := fun (v1 : Value) (W : World) (h : RB W v1 S5.1) => rnum_any v1 S5.1 S5.2 W h
  rw [← e0] at hn0
  rw [← e1] at hn1
  rw [← e2] at hn2
  rw [← e3] at hn3
  rw [← e4] at hn4
  rw [← e5] at hn5
  obtain ⟨l1, q1⟩ := S1
  obtain ⟨l2, q2⟩ := S2
  obtain ⟨l3, q3⟩ := S3
  obtain ⟨l4, q4⟩ := S4
  obtain ⟨l5, q5⟩ := S5
  obtain ⟨l6, q6⟩ := S6
  simp only [Prod.mk.injEq] at s1 s2 s3 s4 s5 s6
  rw [← s1.1, ← s1.2] at hn0
  rw [← s2.1, ← s2.2] at hn1
  rw [← s3.1, ← s3.2] at hn2
  rw [← s4.1, ← s4.2] at hn3
  rw [← s5.1, ← s5.2] at hn4
  rw [← s6.1, ← s6.2] at hn5
  clear e0 e1 e2 e3 e4 e5 s1 s2 s3 s4 s5 s6
  generalize numAt 0 l 0 = d0 at *
  generalize numAt 1 l 0 = d1 at *
  generalize numAt 2 l 0 = d2 at *
  generalize numAt 3 l 0 = d3 at *
  generalize numAt 4 l 0 = d4 at *
  generalize numAt 5 l 0 = d5 at *
  dsimp only at *
  generalize batN l = N at *
  clear HG HNO2 HNO
  have HVS := Lib.hid (fun (L : List (Array Obj)) (n : Nat) => (HV.out.more (more_wd w L n)).run_str (P := Try.prog) 28 9 5 Try.underlying28 Try.underlying5 Try.underlying9)
  obtain ⟨a0, cap0, rfl, hcap0, hm0, -⟩ := HV.out
  unfold maxLen at hm0
  have hN32 : N ≤ 32 := by have := HNN.out; omega
  have hNN : (N = 0 ∨ (N : Int) ≤ d5) ∧ (d5 ≤ N ∨ N = 32) := by have := HNN.out; omega
  have HN := Lib.hid hNN
  clear hNN HNN HD
  by_cases hlen : 8192 < l.length
  · have HNB := Lib.hid (HNO3.out hlen)
    refine calls_wd ?_
    go_enter Try.func143, Try.ntmps143
    go_wp2
    exact bodyPost_ret (v := .tuple #[.agg #[.int .i64 0, .int .i64 0, .int .i64 0, .int .i64 0, .int .i64 0, .slice none 0 0], .int .i64 4]) (by simp [results, Try.results143, go_sem]) rfl (batret_no HNB.out rfl)
  · refine calls_wd ?_
    go_enter Try.func143, Try.ntmps143
    go_wp2_with (first
      | (go_at_call 67; ((with_reducible refine (hn0 _ _ (HV.out.more (more_wd w _ _))).mono ?_); rintro x w1 ⟨v1, rfl, hb1, y1, z1, rfl⟩; have HB1 := Lib.hid (hb1); clear hb1; obtain ⟨aa1, cc1, rfl, -, -, -⟩ := HB1.out w HV.out))
      | (go_at_call 67; ((with_reducible refine (hn1 _ _ (HB1.out _ (HV.out.more (more_wd w _ _)))).mono ?_); rintro x w1 ⟨v2, rfl, hb2, y2, z2, rfl⟩; have HB2 := Lib.hid (keep_trans HB1.out hb2); clear hb2; obtain ⟨aa2, cc2, rfl, -, -, -⟩ := HB2.out w HV.out))
      | (go_at_call 67; ((with_reducible refine (hn2 _ _ (HB2.out _ (HV.out.more (more_wd w _ _)))).mono ?_); rintro x w1 ⟨v3, rfl, hb3, y3, z3, rfl⟩; have HB3 := Lib.hid (keep_trans HB2.out hb3); clear hb3; obtain ⟨aa3, cc3, rfl, -, -, -⟩ := HB3.out w HV.out))
      | (go_at_call 67; ((with_reducible refine (hn3 _ _ (HB3.out _ (HV.out.more (more_wd w _ _)))).mono ?_); rintro x w1 ⟨v4, rfl, hb4, y4, z4, rfl⟩; have HB4 := Lib.hid (keep_trans HB3.out hb4); clear hb4; obtain ⟨aa4, cc4, rfl, -, -, -⟩ := HB4.out w HV.out))
      | (go_at_call 67; ((with_reducible refine (hn4 _ _ (HB4.out _ (HV.out.more (more_wd w _ _)))).mono ?_); rintro x w1 ⟨v5, rfl, hb5, y5, z5, rfl⟩; have HB5 := Lib.hid (keep_trans HB4.out hb5); clear hb5; obtain ⟨aa5, cc5, rfl, -, -, -⟩ := HB5.out w HV.out))
      | (go_at_call 67; ((with_reducible refine (hn5 _ _ (HB5.out _ (HV.out.more (more_wd w _ _)))).mono ?_); rintro x w1 ⟨v6, rfl, hb6, y6, z6, rfl⟩; have HB6 := Lib.hid (keep_trans HB5.out hb6); clear hb6; obtain ⟨aa6, cc6, rfl, -, -, -⟩ := HB6.out w HV.out)))
    go_loopw [7] (fun i wr => ∃ (k : Nat) (m : Ext) (ra : Option Addr) (rc : Nat) (a : Option Addr) (cap : Nat) (sl : List UInt8) (se : Int), k ≤ N ∧ i = .int .i64 k ∧ Hid (recSt k l6 q6 = (sl, se)) ∧ Hid (∀ W0, RB W0 (.slice a0 l.length cap0) l → RB W0 (.slice ra sl.length rc) sl) ∧ Hid (rowIn w.heap.size [1, 1, 1] m.e 99 6 (.slice a k cap) k ((recsOf k l6 q6).flatMap recCells)) ∧
      wr = wd w [m.e, #[.cells #[.slice ra sl.length rc, .int .i64 se] 118], #[.cells #[.int .i64 d0, .int .i64 d1, .int .i64 d2, .int .i64 d3, .int .i64 d4, .slice a k cap] 25], #[.cells #[.int .i64 0, .int .i64 0, .int .i64 0, .int .i64 0, .int .i64 0, .slice none 0 0] 25]] m.n) (fun i _ => N - (intOf i).toNat)
    case atStart => exact ⟨0, ⟨_, _⟩, aa6, cc6, none, 0, l6, q6, Nat.zero_le _, rfl, Lib.hid rfl, HB6, Lib.hid (rowIn_nil _ _ _ _ _), by rw [wd_merge, wd_merge, wd_merge, wd_merge, wd_merge]⟩
    case round =>
      obtain ⟨k, m, ra, rc, a, cap, sl, se, hk, rfl, HS, HKP, HROW, rfl⟩ := hrel
      have HRA : Hid (∀ n, RecsAt (wd w [m.e, #[.cells #[.slice ra sl.length rc, .int .i64 se] 118], #[.cells #[.int .i64 d0, .int .i64 d1, .int .i64 d2, .int .i64 d3, .int .i64 d4, .slice a k cap] 25], #[.cells #[.int .i64 0, .int .i64 0, .int .i64 0, .int .i64 0, .int .i64 0, .slice none 0 0] 25]] n) a (recsOf k l6 q6)) := Lib.hid (fun n => by
        have h := rdrow_of_row (L := [#[.cells #[.slice ra sl.length rc, .int .i64 se] 118], #[.cells #[.int .i64 d0, .int .i64 d1, .int .i64 d2, .int .i64 d3, .int .i64 d4, .slice a k cap] 25], #[.cells #[.int .i64 0, .int .i64 0, .int .i64 0, .int .i64 0, .int .i64 0, .slice none 0 0] 25]]) (k := n) HROW.out
        have e := recsOf_len k l6 q6
        refine RowAt.of_rd (cap := cap) ?_
        rw [e]; exact h)
      by_cases hgo : k < N ∧ se = 0
      · obtain ⟨hlt, rfl⟩ := hgo
        obtain ⟨g, hg⟩ : ∃ g, recGet sl 0 = g := ⟨_, rfl⟩
        have HAT : Hid (recAt k l6 q6 = g) := Lib.hid (by unfold recAt; rw [HS.out]; exact hg)
        have hrec := fun (v1 : Value) (W : World) (h : RB W v1 sl) => hg ▸ rrecget_any v1 sl 0 W h
        clear hg
        obtain ⟨gl, ge, gr, ger⟩ := g
        obtain ⟨rd, rt, rky, rkey, rdd, rval⟩ := gr
        have h1 : (k : Int) < d5 := by have := HN.out; omega
        have h2 : (k : Int) < 32 := by omega
        go_wp2_with (first
          | (go_at_call 164; ((with_reducible refine (hrec _ _ (HKP.out _ (HV.out.more (more_wd w _ _)))).mono ?_); rintro x w1 ⟨vk, rfl, hbk, yk, zk, rfl⟩; have HBK := Lib.hid (keep_trans HKP.out hbk); clear hbk; obtain ⟨ak, ck, rfl, -, -, -⟩ := HBK.out w HV.out))
          | (at_builtin; refine wp_append_rowD [#[.cells _ _], #[.cells _ _], yk] rfl _ _ _ rfl 99 i0 _ 6 64 Try.underlying23 hi hz0 hz1 hz2 rfl (by decide) (.slice a k cap) k _ rfl HROW.out _ _ 1 1 rfl rfl (by simp [Value.oneCell']) (by unfold maxLen; omega) (by omega) ?_; intro v9 m9 hr9; obtain ⟨a9, c9, rfl⟩ := rowIn_slice hr9))
        go_roundw
        case rel => exact ⟨k + 1, m9, ak, ck, a9, c9, gl, ge, by omega, by go_num, Lib.hid (by unfold recSt; rw [HS.out]; have h := HAT.out; unfold recAt at h; rw [HS.out] at h; rw [h]), HBK, Lib.hid (by rw [recsOf_succ, HAT.out, flat_snoc]; exact hr9), rfl⟩
        case measure => simp [intOf]; omega
      · have hput := fun (W : World) (h : RecsAt W a (recsOf k l6 q6)) => rput_bat ⟨d0, d1, d2, d3, d4, recsOf k l6 q6⟩ a cap W h (by rw [recsOf_len]; unfold maxLen; omega)
        dsimp only at hput
        rw [recsOf_len] at hput
        have HOUT : Hid (batPut ⟨d0, d1, d2, d3, d4, recsOf k l6 q6⟩ ≠ (l, 0) → ∀ b, batPut b ≠ (l, 0)) := Lib.hid (HNO4.out k (by
          by_cases h : k < N
          · exact .inr ⟨h, by rw [HS.out]; intro h0; exact hgo ⟨h, h0⟩⟩
          · exact .inl (by omega)))
        have HIN : Hid (batPut ⟨d0, d1, d2, d3, d4, recsOf k l6 q6⟩ = (l, 0) → batGet l = (⟨d0, d1, d2, d3, d4, recsOf k l6 q6⟩, 0)) := Lib.hid (fun h => batGet_put h)
        obtain ⟨pp, hpp⟩ : ∃ pp, batPut ⟨d0, d1, d2, d3, d4, recsOf k l6 q6⟩ = pp := ⟨_, rfl⟩
        rw [hpp] at hput HOUT HIN
        clear hpp
        obtain ⟨pl, pe⟩ := pp
        have HPUT := Lib.hid hput
        clear hput
        have hcs : (d5 ≤ k) ∨ ((k : Int) < d5 ∧ 32 ≤ (k : Int)) ∨ ((k : Int) < d5 ∧ (k : Int) < 32 ∧ se ≠ 0) := by
          have := HN.out
          by_cases h : k < N
          · have : se ≠ 0 := fun h0 => hgo ⟨h, h0⟩
            omega
          · omega
        have hk32 : k ≤ 32 := by omega
        clear hgo
        by_cases hpe : pe = 0
        · by_cases hpl : pl = l
          · have HX := Lib.hid (HIN.out (by rw [hpl, hpe]))
            subst hpe
            have hq1 : ((str pl).toList == (str l).toList) = true := (str_beq _ _).trans (decide_eq_true hpl)
            have hq2 : ((str pl).toList != (str l).toList) = false := by rw [bne, hq1]; rfl
            clear hpl
            rcases hcs with hc1 | ⟨hc1, hc2⟩ | ⟨hc1, hc2, hc3⟩
            all_goals
              (try have hc4 : (se == 0) = false := by rw [beq_eq_false_iff_ne]; exact hc3)
              go_wp2_with (first
                | (go_at_call 102; ((with_reducible refine (HPUT.out _ (HRA.out _)).mono ?_); rintro e w2 ⟨u9, rfl, hm9⟩; obtain ⟨p9, rfl, hs9⟩ := hm9.wd; clear hm9; have hu := (RB.of_row (L := [m.e, #[.cells #[.slice ra sl.length rc, .int .i64 se] 118], #[.cells #[.int .i64 d0, .int .i64 d1, .int .i64 d2, .int .i64 d3, .int .i64 d4, .slice a k cap] 25], #[.cells #[.int .i64 0, .int .i64 0, .int .i64 0, .int .i64 0, .int .i64 0, .slice none 0 0] 25]]) (k := p9.n) hs9 _ rfl).run_str (P := Try.prog) 28 9 5 Try.underlying28 Try.underlying5 Try.underlying9; have hv9 := HVS.out [p9.e, m.e, #[.cells #[.slice ra sl.length rc, .int .i64 se] 118], #[.cells #[.int .i64 d0, .int .i64 d1, .int .i64 d2, .int .i64 d3, .int .i64 d4, .slice a k cap] 25], #[.cells #[.int .i64 0, .int .i64 0, .int .i64 0, .int .i64 0, .int .i64 0, .slice none 0 0] 25]] p9.n; clear hs9)))
              have HRF := Lib.hid (rdrow_of_row (L := [#[.cells #[.slice ra sl.length rc, .int .i64 se] 118], #[.cells #[.int .i64 d0, .int .i64 d1, .int .i64 d2, .int .i64 d3, .int .i64 d4, .slice a k cap] 25], #[.cells #[.int .i64 d0, .int .i64 d1, .int .i64 d2, .int .i64 d3, .int .i64 d4, .slice a k cap] 25]]) (k := 0) HROW.out)
              refine bodyPost_ret (v := .tuple #[.agg #[.int .i64 d0, .int .i64 d1, .int .i64 d2, .int .i64 d3, .int .i64 d4, .slice a k cap], .int .i64 0]) (by simp [results, Try.results143, go_sem]) rfl ⟨a, cap, by rw [HX.out, recsOf_len], ?_, more_wd _ _ _, by rw [HX.out]; exact from_row HROW.out (recsOf_len _ _ _)⟩
              rw [HX.out]
              refine (RowAt.of_rd (cap := cap) ?_ : RecsAt (wd w [m.e, #[.cells #[.slice ra sl.length rc, .int .i64 se] 118], #[.cells #[.int .i64 d0, .int .i64 d1, .int .i64 d2, .int .i64 d3, .int .i64 d4, .slice a k cap] 25], #[.cells #[.int .i64 d0, .int .i64 d1, .int .i64 d2, .int .i64 d3, .int .i64 d4, .slice a k cap] 25]] 0) a (recsOf k l6 q6)).more (more_cons (more_same _ _ _ _))
              rw [recsOf_len]; exact HRF.out
          · have HNB := Lib.hid (HOUT.out (by intro h; exact hpl (congrArg Prod.fst h)))
            subst hpe
            have hq1 : ((str pl).toList == (str l).toList) = false := (str_beq _ _).trans (decide_eq_false hpl)
            have hq2 : ((str pl).toList != (str l).toList) = true := by rw [bne, hq1]; rfl
            clear hpl
            rcases hcs with hc1 | ⟨hc1, hc2⟩ | ⟨hc1, hc2, hc3⟩
            all_goals
              (try have hc4 : (se == 0) = false := by rw [beq_eq_false_iff_ne]; exact hc3)
              go_wp2_with (first
                | (go_at_call 102; ((with_reducible refine (HPUT.out _ (HRA.out _)).mono ?_); rintro e w2 ⟨u9, rfl, hm9⟩; obtain ⟨p9, rfl, hs9⟩ := hm9.wd; clear hm9; have hu := (RB.of_row (L := [m.e, #[.cells #[.slice ra sl.length rc, .int .i64 se] 118], #[.cells #[.int .i64 d0, .int .i64 d1, .int .i64 d2, .int .i64 d3, .int .i64 d4, .slice a k cap] 25], #[.cells #[.int .i64 0, .int .i64 0, .int .i64 0, .int .i64 0, .int .i64 0, .slice none 0 0] 25]]) (k := p9.n) hs9 _ rfl).run_str (P := Try.prog) 28 9 5 Try.underlying28 Try.underlying5 Try.underlying9; have hv9 := HVS.out [p9.e, m.e, #[.cells #[.slice ra sl.length rc, .int .i64 se] 118], #[.cells #[.int .i64 d0, .int .i64 d1, .int .i64 d2, .int .i64 d3, .int .i64 d4, .slice a k cap] 25], #[.cells #[.int .i64 0, .int .i64 0, .int .i64 0, .int .i64 0, .int .i64 0, .slice none 0 0] 25]] p9.n; clear hs9)))
              exact bodyPost_ret (v := .tuple #[.agg #[.int .i64 0, .int .i64 0, .int .i64 0, .int .i64 0, .int .i64 0, .slice none 0 0], .int .i64 4]) (by simp [results, Try.results143, go_sem]) rfl (batret_no HNB.out rfl)
        · have HNB := Lib.hid (HOUT.out (by intro h; exact hpe (congrArg Prod.snd h)))
          have hne : (pe == 0) = false := by rw [beq_eq_false_iff_ne]; exact hpe
          rcases hcs with hc1 | ⟨hc1, hc2⟩ | ⟨hc1, hc2, hc3⟩
          all_goals
            (try have hc4 : (se == 0) = false := by rw [beq_eq_false_iff_ne]; exact hc3)
            go_wp2_with (first
              | (go_at_call 102; ((with_reducible refine (HPUT.out _ (HRA.out _)).mono ?_); rintro e w2 ⟨u9, rfl, hm9⟩; obtain ⟨p9, rfl, hs9⟩ := hm9.wd; clear hm9; have hu := (RB.of_row (L := [m.e, #[.cells #[.slice ra sl.length rc, .int .i64 se] 118], #[.cells #[.int .i64 d0, .int .i64 d1, .int .i64 d2, .int .i64 d3, .int .i64 d4, .slice a k cap] 25], #[.cells #[.int .i64 0, .int .i64 0, .int .i64 0, .int .i64 0, .int .i64 0, .slice none 0 0] 25]]) (k := p9.n) hs9 _ rfl).run_str (P := Try.prog) 28 9 5 Try.underlying28 Try.underlying5 Try.underlying9; have hv9 := HVS.out [p9.e, m.e, #[.cells #[.slice ra sl.length rc, .int .i64 se] 118], #[.cells #[.int .i64 d0, .int .i64 d1, .int .i64 d2, .int .i64 d3, .int .i64 d4, .slice a k cap] 25], #[.cells #[.int .i64 0, .int .i64 0, .int .i64 0, .int .i64 0, .int .i64 0, .slice none 0 0] 25]] p9.n; clear hs9)))
            all_goals exact bodyPost_ret (v := .tuple #[.agg #[.int .i64 0, .int .i64 0, .int .i64 0, .int .i64 0, .int .i64 0, .slice none 0 0], .int .i64 4]) (by simp [results, Try.results143, go_sem]) rfl (batret_no HNB.out rfl)
end Go.Proofs.Ytejokhgabcldhaa
