/- law 36: own, back; whether two views are one, by the document. -/
import Derived.Test.YtlanghikmccmbaaVK
import Derived.Test.YtlanghikmccmbaaMF
namespace Go.Proofs.Ytlanghikmccmbaa
open Go.ChangeShapes Go.WideShapes Go.ChangeAt Go.RowKit
set_option linter.unusedVariables false
set_option linter.unusedSimpArgs false
set_option maxRecDepth 100000 in
set_option maxHeartbeats 3200000 in
theorem own_any (v : Vw) (a : Option Addr) (cap : Nat) (w : World) (hr : VRowsAt w a v.rows) (hl : v.rows.length ≤ 1000000) :
    Calls Try.prog 10 #[.agg #[.int .i64 v.next, .slice a v.rows.length cap]] w fun x w' => VwOne w w' x v := by
  obtain ⟨i0, hi, hz0, hz1, hz2⟩ := info_parts info_vrow
  have HA := Lib.hid hr
  obtain ⟨nx, l⟩ := v
  dsimp only at HA hl ⊢
  obtain ⟨N, hN⟩ : ∃ N, l.length = N := ⟨_, rfl⟩
  have HN := Lib.hid hN
  rw [hN] at hl ⊢
  clear hr hN
  refine calls_wd ?_
  go_enter Try.func10, Try.ntmps10
  go_wp2
  go_loopw [4] (fun i wr => ∃ (k : Nat) (m : Ext) (a' : Option Addr) (c' : Nat), k ≤ N ∧ i = .int .i64 k ∧ rowIn w.heap.size [1, 1, 1] m.e 34 4 (.slice a' k c') k ((l.take k).flatMap vrCells) ∧
    wr = wd w [m.e, #[.cells #[.int .i64 nx, .slice a' k c'] 32], #[.cells #[.int .i64 0, .slice none 0 0] 32], #[.cells #[.int .i64 nx, .slice a N cap] 24]] m.n) (fun i _ => N - (intOf i).toNat)
  case atStart => exact ⟨0, ⟨#[], _⟩, none, 0, Nat.zero_le _, rfl, rowIn_nil _ _ _ _ _, (wd_empty _ _ _).symm⟩
  case round =>
    obtain ⟨k, m, a', c', hkl, rfl, hrow, rfl⟩ := hrel
    have HROW := Lib.hid hrow
    clear hrow
    by_cases hlt : k < N
    · obtain ⟨x, hx⟩ : ∃ x, l[k]? = some x := ⟨_, List.getElem?_eq_getElem (by rw [HN.out]; exact hlt)⟩
      obtain ⟨bb, off, rfl, hb, c0, c1, c2, c3⟩ := vrows_at HA.out k x hx
      have HS := Lib.hid (vflat_snoc l k x hx)
      obtain ⟨xk, xv, xo, xt⟩ := x
      simp only at c0 c1 c2 c3
      clear hx
      go_wp2
      refine wp_region_mixg (fun (s : Ext) => wd w [s.e, #[.cells #[.int .i64 nx, .slice a' k c'] 32], #[.cells #[.int .i64 0, .slice none 0 0] 32], #[.cells #[.int .i64 nx, .slice (some ⟨bb, off, none⟩) N cap] 24]] s.n) (⟨m.e, m.n + 1⟩) [0, 1, 2, 3, 4, 5, 6] [7, 8, 9] 10 _ [true, true, true, true, true, true, true] [false, false, false, false, false, false, false, true, true, true] rfl rfl ⟨rfl, rfl⟩ (by kernel_rfl) (by kernel_rfl) (fun _ _ d _ _ h => by cases d <;> exact h) ?_
      apply Exists.intro
      refine ⟨?_, ?_⟩
      · intro E
        simp only [sel_t, sel_f, sel_n]
        repeat (go_big_quiet_step ((fail)))
        exact wpQuiet_nil rfl
      simp only [sel_t, sel_f, sel_n, loudR_cons, loudR_nil]
      go_wp2
      refine ⟨⟨⟨_ ++ #[_], _⟩, by rw [wd_merge]⟩, ?_⟩
      rw [loudR_cons]
      go_wp2_with (first
        | (at_builtin; refine wp_append_row rfl _ _ _ rfl 34 i0 _ 4 48 Try.underlying30 hi hz0 hz1 hz2 rfl (by decide) (.slice a' k c') k _ rfl HROW.out _ _ 1 1 rfl rfl (by simp [Value.oneCell']) (by unfold maxLen; omega) (by omega) ?_; intro v9 m9 hr9; obtain ⟨a9, c9, rfl⟩ := rowIn_slice hr9))
      refine ⟨⟨⟨m9.e, m9.n⟩, rfl⟩, ?_⟩
      rw [loudR_cons]
      go_wp2
      refine ⟨⟨⟨m9.e, m9.n⟩, rfl⟩, ?_⟩
      rw [loudR_nil]
      go_wp2
      refine ⟨trivial, ?_⟩
      go_wp2
      go_roundw
      case rel => exact ⟨k + 1, ⟨m9.e, m9.n⟩, a9, c9, by omega, by go_num, by rw [HS.out]; exact hr9, rfl⟩
      case measure => simp [intOf]; omega
    · obtain rfl : k = N := by omega
      have HR : Hid (rowIn w.heap.size [1, 1, 1] m.e 34 4 (.slice a' k c') k (l.flatMap vrCells)) := Lib.hid (by have := HROW.out; rwa [List.take_of_length_le (by rw [HN.out]; exact Nat.le_refl _)] at this)
      clear HROW
      go_wp2
      refine bodyPost_ret (v := .agg #[.int .i64 nx, .slice a' k c']) (by simp [results, Try.results10, go_sem]) rfl ⟨a', c', ?_, ?_, more_wd _ _ _⟩
      · show _ = Ending.returned (.agg #[.int .i64 nx, .slice a' l.length c'])
        rw [HN.out]
      · exact vrows_of_row (L := [_, _, _]) HN.out HR.out _
set_option maxRecDepth 100000 in
set_option maxHeartbeats 1600000 in
theorem back_any (v : Vw) (a : Option Addr) (cap : Nat) (w : World) (hr : VRowsAt w a v.rows) (hl : v.rows.length ≤ 1000000) :
    Calls Try.prog 25 #[.agg #[.int .i64 v.next, .slice a v.rows.length cap]] w fun x w' => VwOne w w' x v := by
  have HAS := Lib.hid (fun W hm => as_any v.rows a cap W (hr.more (w' := W) hm) hl)
  obtain ⟨nx, l⟩ := v
  dsimp only at HAS hl ⊢
  obtain ⟨N, hN⟩ : ∃ N, l.length = N := ⟨_, rfl⟩
  have HN := Lib.hid hN
  rw [hN] at hl HAS ⊢
  clear hr hN
  refine calls_wd ?_
  go_enter Try.func25, Try.ntmps25
  go_wp2
  refine wp_region_mixf (fun (s : Ext × Array Value) => wd w [s.1.e, #[.cells s.2 24], #[.cells #[.int .i64 nx, .slice a N cap] 32]] s.1.n) ((⟨#[], _⟩, _)) [0, 1, 2, 3] [4, 5, 6] [true, true, true, true] [false, false, false, false, true, true, true] rfl ⟨rfl, rfl⟩ (by kernel_rfl) (by kernel_rfl) (fun _ _ d _ _ h => by cases d <;> exact h) ?_
  apply Exists.intro
  refine ⟨?_, ?_⟩
  · intro E
    simp only [sel_t, sel_f, sel_n]
    repeat (go_big_quiet_step ((fail)))
    exact wpQuiet_nil rfl
  simp only [sel_t, sel_f, sel_n, loudly_cons, loudly_nil]
  go_wp2_with (first | (go_at_call 14; ((with_reducible refine (HAS.out _ (more_wd _ _ _)).mono ?_); rintro e w1 hs; obtain ⟨a', c', rfl, hrows, ⟨x9, n9, rfl⟩, hfr⟩ := hs.out; rw [wd_plus, wd_merge, Array.empty_append] at hrows; rw [wd_size] at hfr; have HROWS := Lib.hid hrows; have HFR := Lib.hid hfr; clear hs hrows hfr)))
  refine ⟨⟨(⟨x9, n9⟩, _), rfl⟩, ?_⟩
  rw [loudly_cons]
  go_wp2
  refine ⟨⟨(⟨x9, n9⟩, _), rfl⟩, ?_⟩
  rw [loudly_cons]
  go_wp2
  refine ⟨⟨(⟨x9, n9⟩, _), rfl⟩, ?_⟩
  rw [loudly_nil]
  go_wp2
  refine bodyPost_ret (v := .agg #[.int .i64 nx, .slice a' l.length c']) (by simp [results, Try.results25, go_sem]) rfl ⟨a', c', rfl, ?_, more_wd _ _ _⟩
  rw [wd_merge, Array.empty_append]
  refine vrows_shift (hS := ?_) HROWS.out HFR.out (by simp [shape, sz])
  rfl
theorem vrow_neq (k v : List UInt8) (o t : Int) (k' v' : List UInt8) (o' t' : Int) (W : World) :
    (binOp .neq 26 (.agg #[.string (str k), .string (str v), .int .i64 o, .int .i64 t]) (.agg #[.string (str k'), .string (str v'), .int .i64 o', .int .i64 t'])).run Try.prog W = .ok (.bool (!decide ((⟨k, v, o, t⟩ : VRow) = ⟨k', v', o', t'⟩))) W := by
  rw [run_neq_struct]
  go_simp
  simp only [str_toList]
  (repeat' split) <;> simp_all
set_option maxRecDepth 100000 in
set_option maxHeartbeats 1600000 in
theorem rsamerows_any (a1 a2 : Option Addr) (c1 c2 : Nat) (l1 l2 : List VRow) (w : World) (h1 : VRowsAt w a1 l1) (h2 : VRowsAt w a2 l2) (hm1 : l1.length ≤ maxLen) (hm2 : l2.length ≤ maxLen) :
    Calls Try.prog 13 #[.slice a1 l1.length c1, .slice a2 l2.length c2] w fun e w' => e = .returned (.bool (decide (l1 = l2))) ∧ More w w' := by
  have H1 := Lib.hid h1
  have H2 := Lib.hid h2
  clear h1 h2
  unfold maxLen at hm1 hm2
  by_cases hl : l1.length = l2.length
  · have HL := Lib.hid hl
    rw [← hl]
    clear hl hm2
    refine calls_wd ?_
    go_enter Try.func13, Try.ntmps13
    go_wp2
    go_loopw [5] (fun i wr => ∃ (k : Nat) (m : Ext), k ≤ l1.length ∧ i = .int .i64 k ∧ (∀ j, j < k → l1[j]? = l2[j]?) ∧ wr = wd w [m.e] m.n) (fun i _ => l1.length - (intOf i).toNat)
    case atStart => exact ⟨0, ⟨#[], w.drawn⟩, Nat.zero_le _, rfl, fun j hj => by omega, (wd_empty _ _ _).symm⟩
    case round =>
      obtain ⟨k, m, hk, rfl, hall, rfl⟩ := hrel
      have HA := Lib.hid hall
      clear hall
      by_cases hlt : k < l1.length
      · obtain ⟨x, hx⟩ : ∃ x, l1[k]? = some x := ⟨_, List.getElem?_eq_getElem hlt⟩
        obtain ⟨y, hy⟩ : ∃ y, l2[k]? = some y := ⟨_, List.getElem?_eq_getElem (by have := HL.out; omega)⟩
        obtain ⟨b1, o1, rfl, hb1, p0, p1, p2, p3⟩ := vrows_at H1.out k x hx
        obtain ⟨b2, o2, rfl, hb2, q0, q1, q2, q3⟩ := vrows_at H2.out k y hy
        have HX := Lib.hid hx
        have HY := Lib.hid hy
        clear hx hy
        obtain ⟨xk, xv, xo, xt⟩ := x
        obtain ⟨yk, yv, yo, yt⟩ := y
        dsimp only at p0 p1 p2 p3 q0 q1 q2 q3
        have QN := fun W => vrow_neq xk xv xo xt yk yv yo yt W
        by_cases hxy : (⟨xk, xv, xo, xt⟩ : VRow) = ⟨yk, yv, yo, yt⟩
        · rw [show decide ((⟨xk, xv, xo, xt⟩ : VRow) = ⟨yk, yv, yo, yt⟩) = true from decide_eq_true hxy] at QN
          have HXY := Lib.hid hxy
          clear hxy
          go_wp2
          refine wp_region_wd (by kernel_rfl) (by kernel_rfl) ?_
          repeat (go_big_quiet_step ((fail)))
          refine wpQuiet_nil ?_
          rintro _ ⟨mx, rfl⟩
          go_wp2
          go_roundw
          case rel => exact ⟨k + 1, ⟨_, _⟩, by omega, by go_num, fun j hj => by rcases Nat.lt_or_eq_of_le (Nat.le_of_lt_succ hj) with h | rfl; exact HA.out j h; rw [HX.out, HY.out, HXY.out], by rw [wd_merge]⟩
          case measure => simp [intOf]; omega
        · rw [show decide ((⟨xk, xv, xo, xt⟩ : VRow) = ⟨yk, yv, yo, yt⟩) = false from decide_eq_false hxy] at QN
          have HNE : Hid (decide (l1 = l2) = false) := Lib.hid (by
            rw [decide_eq_false_iff_not]; intro h; subst h
            have h1 := HX.out
            rw [HY.out] at h1
            exact hxy (Option.some.inj h1).symm)
          clear hxy
          go_wp2
          refine wp_region_wd (by kernel_rfl) (by kernel_rfl) ?_
          repeat (go_big_quiet_step ((fail)))
          refine wpQuiet_nil ?_
          rintro _ ⟨mx, rfl⟩
          go_wp2
          all_goals (go_ret; exact ⟨by rw [HNE.out]; rfl, more_wd _ _ _⟩)
      · have HE : Hid (decide (l1 = l2) = true) := Lib.hid (by rw [decide_eq_true_eq]; exact eq_of_take HL.out (fun j hj => HA.out j (by omega)))
        go_wp2
        go_ret
        exact ⟨by rw [HE.out]; rfl, more_wd _ _ _⟩
  · have hne : ¬ ((l1.length : Int) = (l2.length : Int)) := by omega
    have HNE : Hid (decide (l1 = l2) = false) := Lib.hid (by rw [decide_eq_false_iff_not]; intro h; subst h; exact hl rfl)
    refine calls_wd ?_
    go_enter Try.func13, Try.ntmps13
    go_wp2
    go_ret
    exact ⟨by rw [HNE.out]; rfl, more_wd _ _ _⟩
set_option maxRecDepth 100000 in
set_option maxHeartbeats 1600000 in
theorem rvsame_any (x y : Vw) (a1 a2 : Option Addr) (c1 c2 : Nat) (w : World) (h1 : VRowsAt w a1 x.rows) (h2 : VRowsAt w a2 y.rows) (hm1 : x.rows.length ≤ maxLen) (hm2 : y.rows.length ≤ maxLen) :
    Calls Try.prog 20 #[.agg #[.int .i64 x.next, .slice a1 x.rows.length c1], .agg #[.int .i64 y.next, .slice a2 y.rows.length c2]] w fun e w' => e = .returned (.bool (decide (x = y))) ∧ More w w' := by
  have HS := Lib.hid (fun W hm => rsamerows_any a1 a2 c1 c2 x.rows y.rows W (h1.more (w' := W) hm) (h2.more hm) hm1 hm2)
  have HE := Lib.hid (vw_eq x y)
  obtain ⟨n1, l1⟩ := x
  obtain ⟨n2, l2⟩ := y
  dsimp only at HS HE ⊢
  clear h1 h2 hm1 hm2
  by_cases hn : n1 = n2
  · have HR : Hid (decide ((⟨n1, l1⟩ : Vw) = ⟨n2, l2⟩) = decide (l1 = l2)) := Lib.hid (by
      rw [Bool.eq_iff_iff, decide_eq_true_eq, decide_eq_true_eq, HE.out]
      exact ⟨fun h => h.2, fun h => ⟨hn, h⟩⟩)
    clear HE
    refine calls_wd ?_
    go_enter Try.func20, Try.ntmps20
    go_wp2_with (first | (go_at_call 13; ((with_reducible refine (HS.out _ (more_wd _ _ _)).mono ?_); rintro e w1 ⟨rfl, x1, n1, rfl⟩)))
    go_ret
    exact ⟨by rw [HR.out]; rfl, more_wd _ _ _⟩
  · have HR : Hid (decide ((⟨n1, l1⟩ : Vw) = ⟨n2, l2⟩) = false) := Lib.hid (by
      rw [decide_eq_false_iff_not, HE.out]
      exact fun h => hn h.1)
    clear HE
    refine calls_wd ?_
    go_enter Try.func20, Try.ntmps20
    go_wp2_with (first | (go_at_call 13; ((with_reducible refine (HS.out _ (more_wd _ _ _)).mono ?_); rintro e w1 ⟨rfl, x1, n1, rfl⟩)))
    go_ret
    exact ⟨by rw [HR.out]; rfl, more_wd _ _ _⟩
end Go.Proofs.Ytlanghikmccmbaa
