/- The statement QuotaFills, proved: for every bucket and two times the law answers true, and what was handed in reads as it did. No condition. -/
import Derived.Test.YtlahfjnfidhleaaQuoE
import Derived.Test.YtlahfjnfidhleaaSemi2
namespace Go.Proofs.Ytlahfjnfidhleaa
open Go.ChangeShapes Go.WideShapes Go.ChangeAt Go.RowKit
set_option linter.unusedVariables false
set_option linter.unusedSimpArgs false

theorem fills_plain {s r l a now thn : Int} (h : okB s r l a) (h1 : a ≤ now) (h2 : now ≤ thn) (h3 : thn ≤ 1099511627776) :
    fillL s r (fillL s r l a now) (fillA s r l a now) thn = fillL s r l a thn ∧ fillA s r (fillL s r l a now) (fillA s r l a now) thn = thn ∧ fillA s r l a thn = thn ∧
      fillL s r l a thn ≤ s ∧ l ≤ fillL s r l a thn := by
  have hc := chk_ok h
  obtain ⟨b1, b2, b3, b4, b5, b6, b7, b8⟩ := h
  obtain ⟨eL, eA⟩ := fill_in (now := now) hc h1 (by omega)
  obtain ⟨fL, fA⟩ := fill_in (now := thn) hc (by omega) h3
  have p0 : 0 ≤ r * (now - a) := Int.mul_nonneg b3 (by omega)
  have p1 : 0 ≤ r * (thn - now) := Int.mul_nonneg b3 (by omega)
  have p3 : r * (thn - a) = r * (now - a) + r * (thn - now) := by rw [← Int.mul_add]; congr 1; omega
  have hc2 : chk s r (min s (l + r * (now - a))) now = 0 := chk_ok (by unfold okB; omega)
  obtain ⟨gL, gA⟩ := fill_in (now := thn) hc2 (by omega) h3
  rw [eL, eA, fL, fA, gL, gA]
  refine ⟨by omega, rfl, rfl, by omega, by omega⟩

set_option maxRecDepth 100000 in
set_option maxHeartbeats 1600000 in
theorem fills_main (s r l a now thn : Int) (w : World) (hok : okB s r l a) (h1 : a ≤ now) (h2 : now ≤ thn) (h3 : thn ≤ 1099511627776) :
    Calls Try.prog 6 #[.agg #[.int .i64 s, .int .i64 r, .int .i64 l, .int .i64 a], .int .i64 now, .int .i64 thn] w fun e w' => e = .returned (.bool true) ∧ More w w' := by
  obtain ⟨f1, f2, f3, f4, f5⟩ := fills_plain hok h1 h2 h3
  have hc := chk_ok hok
  have F1 := Lib.hid f1
  have F2 := Lib.hid f2
  have F3 := Lib.hid f3
  clear f1 f2 f3 hok
  refine calls_wd ?_
  go_enter Try.func6, Try.ntmps6
  go_wp2_with (first | (go_at_call 21; ((with_reducible refine (qchk_any _ _ _ _ _).mono ?_); rintro e w1 ⟨rfl, x1, n1, rfl⟩)))
  refine wp_region_new2 [0, 1, 2, 3, 4, 5, 6, 7] 8 8 9 9 [10, 11] [true, true, true, true, true, true, true, true] [false, false, false, false, false, false, false, false, false, false, true, true] (fun b => .pointer (some ⟨b, 0, none⟩)) (fun b => .pointer (some ⟨b, 0, none⟩)) (.cells #[.int .i64 0, .int .i64 0, .int .i64 0, .int .i64 0] 39) (.cells #[.int .i64 0, .int .i64 0, .int .i64 0, .int .i64 0] 39) ⟨rfl, rfl⟩ (by kernel_rfl) (by kernel_rfl) (fun _ _ d _ _ h => by cases d <;> exact h) (by decide) ⟨_, _, _, _, rfl⟩ ⟨_, _, _, _, rfl⟩ ?_
  apply Exists.intro
  refine ⟨?_, ?_, ?_, ?_, ?_⟩
  · intro E
    simp only [sel_t, sel_f, sel_n]
    repeat (go_big_quiet_step ((first | (go_at_call 19; with_reducible exact Calls.wd_of (qfill_any _ _ _ _ _ _)))))
    exact wpQuiet_nil rfl
  · intro o ho w0; obtain rfl := Option.some.inj ho; go_simp
  · intro o ho v0 w0; obtain rfl := Option.some.inj ho; go_simp
  all_goals
    intro e0 e1 m0
    simp only [sel_t, sel_f, sel_n, put_lit, List.set_cons_succ, List.set_cons_zero, shape_cons, shape_nil]
    rw [F1.out, F2.out, F3.out]
    go_wp2_with (first | (go_at_call 23; ((with_reducible refine (qawake _).mono ?_); rintro e w1 ⟨rfl, x1, n1, rfl⟩)))
    go_ret
    exact ⟨rfl, more_wd _ _ _⟩
set_option maxHeartbeats 1600000 in
theorem fills_walk (s r l a now thn : Int) (w : World) :
    Calls Try.prog 6 #[.agg #[.int .i64 s, .int .i64 r, .int .i64 l, .int .i64 a], .int .i64 now, .int .i64 thn] w fun e w' => e = .returned (.bool true) ∧ More w w' := by
  rcases chk_cases s r l a with ⟨hc, hok⟩ | ⟨hc, hnok⟩
  · by_cases h1 : now < a
    · refine calls_wd ?_
      go_enter Try.func6, Try.ntmps6
      go_wp2_with (first | (go_at_call 21; ((with_reducible refine (qchk_any _ _ _ _ _).mono ?_); rintro e w1 ⟨rfl, x1, n1, rfl⟩)) | (go_at_call 23; ((with_reducible refine (qawake _).mono ?_); rintro e w1 ⟨rfl, x1, n1, rfl⟩)))
      go_ret
      exact ⟨rfl, more_wd _ _ _⟩
    by_cases h2 : thn < now
    · refine calls_wd ?_
      go_enter Try.func6, Try.ntmps6
      go_wp2_with (first | (go_at_call 21; ((with_reducible refine (qchk_any _ _ _ _ _).mono ?_); rintro e w1 ⟨rfl, x1, n1, rfl⟩)) | (go_at_call 23; ((with_reducible refine (qawake _).mono ?_); rintro e w1 ⟨rfl, x1, n1, rfl⟩)))
      go_ret
      exact ⟨rfl, more_wd _ _ _⟩
    by_cases h3 : 1099511627776 < thn
    · refine calls_wd ?_
      go_enter Try.func6, Try.ntmps6
      go_wp2_with (first | (go_at_call 21; ((with_reducible refine (qchk_any _ _ _ _ _).mono ?_); rintro e w1 ⟨rfl, x1, n1, rfl⟩)) | (go_at_call 23; ((with_reducible refine (qawake _).mono ?_); rintro e w1 ⟨rfl, x1, n1, rfl⟩)))
      go_ret
      exact ⟨rfl, more_wd _ _ _⟩
    exact fills_main s r l a now thn w hok (by omega) (by omega) (by omega)
  · refine calls_wd ?_
    go_enter Try.func6, Try.ntmps6
    go_wp2_with (first | (go_at_call 21; ((with_reducible refine (qchk_any _ _ _ _ _).mono ?_); rintro e w1 ⟨rfl, x1, n1, rfl⟩)) | (go_at_call 23; ((with_reducible refine (qawake _).mono ?_); rintro e w1 ⟨rfl, x1, n1, rfl⟩)))
    go_ret
    exact ⟨rfl, more_wd _ _ _⟩
theorem fills_rd {base : Nat} {w : World} (v0 v1 v2 : Value) (k0 : Value.okWide Try.prog w .any base 38 v0) (k1 : Value.okWide Try.prog w .any base 3 v1) (k2 : Value.okWide Try.prog w .any base 3 v2)
    (r0 : Rd Try.prog w 38 v0.cells.toList) (r1 : Rd Try.prog w 3 v1.cells.toList) (r2 : Rd Try.prog w 3 v2.cells.toList) :
    Calls Try.prog 6 #[v0, v1, v2] w fun e w' => e = .returned (.bool true) ∧ More w w' := by
  obtain ⟨s, r, l, a, rfl⟩ := bucket_rd k0 r0
  obtain ⟨n, rfl, _⟩ := Rd.one_int Try.underlying3 k1 r1
  obtain ⟨m, rfl, _⟩ := Rd.one_int Try.underlying3 k2 r2
  exact fills_walk s r l a n m w

set_option maxRecDepth 100000 in
theorem liftedQuotaFills (os : Os) (started : os.Started) (H : Type) (enc : TypeId × Value → H) :
    ReturnsInHanded {} Try.checked os 6 .any (Rows.quotaFillsSpec.pre6 enc Try.prog Try.f6 Rows.quotaFillsRow.domain false) (Rows.quotaFillsSpec.post enc Try.prog Try.f6 false true false false) := by
  refine returnsInHanded_of_change (C := Try.checked) own started (by kernel_rfl) Try.func6
    (ChangeSpec.witness6 (enc := enc) (C := Try.checked) false ⟨#[], #[.agg #[.int .i64 0, .int .i64 0, .int .i64 0, .int .i64 0], .int .i64 0, .int .i64 0], []⟩ 8 (by kernel_rfl) (by kernel_rfl) (by kernel_rfl) (by kernel_rfl)) ?_
  intro W base args ds gs before hval0 hW hcnd _
  have hval : ∀ (j : Nat) t v, Try.f6.params[j]? = some t → args[j]? = some v → Value.okWide Try.prog W .any base t v := hval0
  have hW' := hW
  obtain ⟨p, q, hA0, hV, rfl, hfz, hnd⟩ := hW
  have hA : DataW.TrodAll enc Try.prog W 0 (fun _ => true) true Try.f6.params.toList args.toList ds p := hA0
  rw [Try.params6] at hA hval
  obtain ⟨v0, vs0, d0, ds0, p0, q0, hargs, rfl, rfl, h0, r0⟩ := trodAll_cons hA
  obtain ⟨v1, vs1, d1, ds1, p1, q1, rfl, rfl, rfl, h1, r1⟩ := trodAll_cons r0
  obtain ⟨v2, vs2, d2, ds2, p2, q2, rfl, rfl, rfl, h2, r2⟩ := trodAll_cons r1
  obtain ⟨rfl, rfl, rfl⟩ := trodAll_nil r2
  obtain rfl : args = #[v0, v1, v2] := by cases args; simp_all
  obtain ⟨rfl, rfl⟩ := trodVars_none hV
  have lt0 : ∀ x ∈ p0, x.block < W.heap.size := by obtain ⟨m, hm⟩ := h0; exact DataW.trod_lt m _ _ _ hm
  have rd0 : Rd Try.prog W 38 v0.cells.toList := by obtain ⟨m, hm⟩ := h0; exact ⟨H, enc, m, _, hm⟩
  have lt1 : ∀ x ∈ p1, x.block < W.heap.size := by obtain ⟨m, hm⟩ := h1; exact DataW.trod_lt m _ _ _ hm
  have rd1 : Rd Try.prog W 3 v1.cells.toList := by obtain ⟨m, hm⟩ := h1; exact ⟨H, enc, m, _, hm⟩
  have lt2 : ∀ x ∈ p2, x.block < W.heap.size := by obtain ⟨m, hm⟩ := h2; exact DataW.trod_lt m _ _ _ hm
  have rd2 : Rd Try.prog W 3 v2.cells.toList := by obtain ⟨m, hm⟩ := h2; exact ⟨H, enc, m, _, hm⟩
  clear hA0 hval0
  refine (fills_rd v0 v1 v2 (hval 0 38 v0 rfl rfl) (hval 1 3 v1 rfl rfl) (hval 2 3 v2 rfl rfl) rd0 rd1 rd2).mono fun e W' ⟨he, hmore⟩ => ?_
  subst he
  have bel := hmore.below
  exact ⟨_, rfl, _, _, _, [], _, [], hW', trodAll_mk1 (shut_bool Try.underlying4 _), (trodAll_cons_mk (Below.trod laidOut (by kernel_rfl) (of_decide_eq_true (by kernel_rfl)) h0 bel lt0) (trodAll_cons_mk (Below.trod laidOut (by kernel_rfl) (of_decide_eq_true (by kernel_rfl)) h1 bel lt1) (trodAll_cons_mk (Below.trod laidOut (by kernel_rfl) (of_decide_eq_true (by kernel_rfl)) h2 bel lt2) trodAll_mk0))), rfl, bel.frame _, fun h => by cases h⟩

theorem overQuotaFills : Rows.quotaFillsRow.holds Try.pinned (OpenSpec.ofChange Rows.quotaFillsSpec) :=
  OpenClaim.holds_of_wide 6 Try.f6 rfl rfl rfl rfl rfl rfl rfl ⟨rfl, rfl, rfl, rfl, rfl⟩ rfl rfl rfl rfl rfl (by kernel_rfl) Try.func6 (by kernel_rfl)
    (of_decide_eq_true (by kernel_rfl)) (by unfold Func.isWrapper; first | (rw [if_pos (by decide +kernel)]; kernel_rfl) | (rw [if_neg (by decide +kernel)]; exact ⟨rfl, rfl⟩))
    (fun os started H enc _ => liftedQuotaFills os started H enc)

/-- THE STATEMENT. -/
theorem provedQuotaFills : Rows.QuotaFillsSaid := overQuotaFills
#print axioms provedQuotaFills
end Go.Proofs.Ytlahfjnfidhleaa
