/- dump: Line, first. -/
import Derived.Test.YtejokhgabcldhaaDoorNF
import Derived.Test.YtejokhgabcldhaaDoorNH
import Derived.Test.YtejokhgabcldhaaDoorME
namespace Go.Proofs.YtejokhgabcldhaaDoor
open Go.ChangeShapes Go.WideShapes Go.ChangeAt Go.RowKit
set_option linter.unusedVariables false
set_option linter.unusedSimpArgs false

/-- A record that can be told. -/
structure RecFit (r : Rec) : Prop where
  d1 : -1 ≤ r.delta
  d2 : r.delta ≤ 4611686018427387910
  t1 : -1 ≤ r.time
  t2 : r.time ≤ 4611686018427387910
  k : r.key.length ≤ 1000000
  v : r.value.length ≤ 1000000
theorem recFit_of {r : Rec} (h : recCheck r = 0) : RecFit r := by
  obtain ⟨⟨h1, h2, h3, h4⟩, ⟨h5, h6⟩, _⟩ := recCheck_ok h
  exact ⟨by omega, by omega, by omega, by omega, by omega, by omega⟩
theorem join3 (a b c : List UInt8) : joinC 32 [a, b, c] = a ++ 32 :: (b ++ 32 :: c) := rfl
theorem join_join3 (a b c x y : List UInt8) : joinC 32 [joinC 32 [a, b, c], x, y] = joinC 32 [a, b, c, x, y] := by simp [joinC]
theorem join_join4 (a b c x y z : List UInt8) : joinC 32 [joinC 32 [a, b, c], x, y, z] = joinC 32 [a, b, c, x, y, z] := by simp [joinC]
theorem recLine_dead {r : Rec} (h : r.dead = true) : recLine r = joinC 32 [joinC 32 [recWord, digN r.delta, digN r.time], [100], quote r.key] := by
  rw [join_join3]; unfold recLine recWords recTail; rw [h]; rfl
theorem recLine_keyed {r : Rec} (h : r.dead = false) (hk : r.keyed = true) : recLine r = joinC 32 [joinC 32 [recWord, digN r.delta, digN r.time], [107], quote r.key, quote r.value] := by
  rw [join_join4]; unfold recLine recWords recTail; rw [h, hk]; rfl
theorem recLine_value {r : Rec} (h : r.dead = false) (hk : r.keyed = false) : recLine r = joinC 32 [joinC 32 [recWord, digN r.delta, digN r.time], [118], quote r.value] := by
  rw [join_join3]; unfold recLine recWords recTail; rw [h, hk]; rfl
/-- A literal of texts, laid just now. -/
theorem lit_strs (w : World) (L : List (Array Obj)) (n : Nat) (C : Array Value) (t : TypeId) (ws : List (List UInt8)) (hC : C.toList = ws.flatMap strCell) : StrsAt (wd w (#[.cells C t] :: L) n) (some ⟨sz w.heap.size (shape L), 0, none⟩) ws := by
  refine ⟨fun hne => ⟨_, 0, rfl, ?_, fun i hi => ?_⟩⟩
  · rw [wd_size, shape_cons]; simp only [sz]; show _ < _ + 1; omega
  · rw [Nat.zero_add, wd_cell w L n _ i _ C t (0, 0) rfl rfl, ← hC]
    simp
set_option maxRecDepth 100000 in
set_option maxHeartbeats 3200000 in
theorem line_in (b : Bat) (a : Option Addr) (cap : Nat) (i : Nat) (r : Rec) (w : World) (hr : RecsAt w a b.recs) (hx : b.recs[i]? = some r) (hl : b.recs.length ≤ maxLen) (hf : RecFit r) :
    Calls Tryd.prog 15 #[.agg #[.int .i64 b.base, .int .i64 b.count, .int .i64 b.producer, .int .i64 b.epoch, .int .i64 b.seq, .slice a b.recs.length cap], .int .i64 i] w fun x w' => x = .returned (.string (str (recLine r))) ∧ More w w' := by
  obtain ⟨base, count, producer, epoch, seq, recs⟩ := b
  dsimp only at hr hx hl ⊢
  unfold maxLen at hl
  obtain ⟨bb, off, rfl, hb, c0, c1, c2, c3, c4, c5⟩ := recs_at hr i r hx
  have hi : i < recs.length := (List.getElem?_eq_some_iff.1 hx).1
  have hi' : (i : Int) < recs.length := by omega
  have HL := Lib.hid (⟨fun h => recLine_dead h, fun h h2 => recLine_keyed h h2, fun h h2 => recLine_value h h2⟩ : (r.dead = true → _) ∧ (r.dead = false → r.keyed = true → _) ∧ (r.dead = false → r.keyed = false → _))
  obtain ⟨d, t, ky, key, dd, val⟩ := r
  obtain ⟨f1, f2, f3, f4, f5, f6⟩ := hf
  dsimp only at *
  clear hr hx
  have l1 := digN_len f1 (by omega)
  have l2 := digN_len f3 (by omega)
  have HQ := Lib.hid (fun W => quote_any key W (by omega))
  have HV := Lib.hid (fun W => quote_any val W (by omega))
  have q1 := quote_len key
  have q2 := quote_len val
  have hjl : (joinC 32 [recWord, digN d, digN t]).length ≤ 50 := by rw [join3]; simp [recWord]; omega
  obtain ⟨S, hS⟩ : ∃ S, joinC 32 [recWord, digN d, digN t] = S := ⟨_, rfl⟩
  have HS := Lib.hid (fun a W (h : StrsAt W a [recWord, digN d, digN t]) => hS ▸ line_any a 3 [recWord, digN d, digN t] W h (by show 3 ≤ 3; omega) (by show 3 ≤ _; omega) (by omega))
  have HD := Lib.hid (fun W => dig_any d f1 f2 W)
  have HT := Lib.hid (fun W => dig_any t f3 f4 W)
  rw [hS] at HL hjl
  have hq1 : (quote key).length ≤ 3000002 := by omega
  have hq2 : (quote val).length ≤ 3000002 := by omega
  clear hS f1 f2 f3 f4 f5 f6 l1 l2 q1 q2
  obtain ⟨Q, hQ⟩ : ∃ Q, quote key = Q := ⟨_, rfl⟩
  obtain ⟨V, hV⟩ : ∃ V, quote val = V := ⟨_, rfl⟩
  rw [hQ] at HQ HL hq1
  rw [hV] at HV HL hq2
  clear hQ hV
  refine calls_wd ?_
  go_enter Tryd.func15, Tryd.ntmps15
  go_wp2
  refine wp_region_mix [0, 1, 3, 4] [2, 5, 6, 7, 8] [true, true, false, true, true] [false, false, true, false, false, true, true, true, true] ⟨rfl, rfl⟩ (by kernel_rfl) (by kernel_rfl) (fun _ _ d _ _ h => by cases d <;> exact h) ?_
  apply Exists.intro
  refine ⟨?_, ?_⟩
  · intro E
    simp only [sel_t, sel_f, sel_n]
    repeat (go_big_quiet_step ((fail)))
    exact wpQuiet_nil rfl
  simp only [sel_t, sel_f, sel_n, loudly_cons, loudly_nil]
  go_wp2_with (first | (go_at_call 34; ((with_reducible refine (HD.out _).mono ?_); rintro e w1 ⟨rfl, x1, n1, rfl⟩)))
  refine ⟨over_cons _ (over_refl _ _ _), ?_⟩
  rw [loudly_cons]
  go_wp2_with (first | (go_at_call 34; ((with_reducible refine (HT.out _).mono ?_); rintro e w1 ⟨rfl, x2, n2, rfl⟩)))
  refine ⟨over_cons _ (over_cons _ (over_refl _ _ _)), ?_⟩
  rw [loudly_cons]
  go_wp2
  refine ⟨over_cons _ (over_cons _ (over_cons _ (over_refl _ _ _))), ?_⟩
  rw [loudly_cons]
  go_wp2_with (first | (go_at_call 33; refine (HS.out _ _ (lit_strs w _ _ _ _ _ rfl)).mono ?_; rintro e w1 ⟨rfl, x3, n3, rfl⟩))
  refine ⟨over_cons _ (over_cons _ (over_cons _ (over_cons _ (over_refl _ _ _)))), ?_⟩
  rw [loudly_cons]
  go_wp2
  refine ⟨over_cons _ (over_cons _ (over_cons _ (over_cons _ (over_refl _ _ _)))), ?_⟩
  rw [loudly_nil]
  cases dd with
  | true =>
    have hj2 : (joinC 32 [S, [100], Q]).length ≤ 1000000000 := by simp [joinC]; omega
    have HS2 := Lib.hid (fun a W (h : StrsAt W a [S, [100], Q]) => HL.out.1 rfl ▸ line_any a 3 [S, [100], Q] W h (by show 3 ≤ 3; omega) (by show 3 ≤ _; omega) hj2)
    go_wp2_with (first
      | (go_at_call 10; ((with_reducible refine (HQ.out _).mono ?_); rintro e w1 ⟨rfl, x4, n4, rfl⟩))
      | (go_at_call 33; refine (HS2.out _ _ (lit_strs w _ _ _ _ _ rfl)).mono ?_; rintro e w1 ⟨rfl, x5, n5, rfl⟩))
    go_ret
    exact ⟨rfl, more_wd _ _ _⟩
  | false =>
    cases ky with
    | true =>
      have hj2 : (joinC 32 [S, [107], Q, V]).length ≤ 1000000000 := by simp [joinC]; omega
      have HS2 := Lib.hid (fun a W (h : StrsAt W a [S, [107], Q, V]) => HL.out.2.1 rfl rfl ▸ line_any a 4 [S, [107], Q, V] W h (by show 4 ≤ 4; omega) (by show 4 ≤ _; omega) hj2)
      go_wp2
      refine wp_region_mix [0, 1, 2, 4, 5] [3, 6, 7, 8, 9] [true, true, true, false, true, true] [false, false, false, true, false, false, true, true, true, true] ⟨rfl, rfl⟩ (by kernel_rfl) (by kernel_rfl) (fun _ _ d _ _ h => by cases d <;> exact h) ?_
      apply Exists.intro
      refine ⟨?_, ?_⟩
      · intro E
        simp only [sel_t, sel_f, sel_n]
        repeat (go_big_quiet_step ((fail)))
        exact wpQuiet_nil rfl
      simp only [sel_t, sel_f, sel_n, loudly_cons, loudly_nil]
      go_wp2_with (first | (go_at_call 10; ((with_reducible refine (HQ.out _).mono ?_); rintro e w1 ⟨rfl, x4, n4, rfl⟩)))
      refine ⟨over_cons _ (over_refl _ _ _), ?_⟩
      rw [loudly_cons]
      go_wp2_with (first | (go_at_call 10; ((with_reducible refine (HV.out _).mono ?_); rintro e w1 ⟨rfl, x5, n5, rfl⟩)))
      refine ⟨over_cons _ (over_cons _ (over_refl _ _ _)), ?_⟩
      rw [loudly_cons]
      go_wp2
      refine ⟨over_cons _ (over_cons _ (over_cons _ (over_refl _ _ _))), ?_⟩
      rw [loudly_cons]
      go_wp2_with (first | (go_at_call 33; refine (HS2.out _ _ (lit_strs w _ _ _ _ _ rfl)).mono ?_; rintro e w1 ⟨rfl, x6, n6, rfl⟩))
      refine ⟨over_cons _ (over_cons _ (over_cons _ (over_cons _ (over_refl _ _ _)))), ?_⟩
      rw [loudly_cons]
      go_wp2
      refine ⟨over_cons _ (over_cons _ (over_cons _ (over_cons _ (over_refl _ _ _)))), ?_⟩
      rw [loudly_nil]
      go_wp2
      go_ret
      exact ⟨rfl, more_wd _ _ _⟩
    | false =>
      have hj2 : (joinC 32 [S, [118], V]).length ≤ 1000000000 := by simp [joinC]; omega
      have HS2 := Lib.hid (fun a W (h : StrsAt W a [S, [118], V]) => HL.out.2.2 rfl rfl ▸ line_any a 3 [S, [118], V] W h (by show 3 ≤ 3; omega) (by show 3 ≤ _; omega) hj2)
      go_wp2_with (first
        | (go_at_call 10; ((with_reducible refine (HV.out _).mono ?_); rintro e w1 ⟨rfl, x4, n4, rfl⟩))
        | (go_at_call 33; refine (HS2.out _ _ (lit_strs w _ _ _ _ _ rfl)).mono ?_; rintro e w1 ⟨rfl, x5, n5, rfl⟩))
      go_ret
      exact ⟨rfl, more_wd _ _ _⟩
set_option maxRecDepth 100000 in
set_option maxHeartbeats 3200000 in
theorem line_out (b : Bat) (a : Option Addr) (cap : Nat) (i : Int) (w : World) (hx : i < 0 ∨ (b.recs.length : Int) ≤ i) (hl : b.recs.length ≤ maxLen) :
    Calls Tryd.prog 15 #[.agg #[.int .i64 b.base, .int .i64 b.count, .int .i64 b.producer, .int .i64 b.epoch, .int .i64 b.seq, .slice a b.recs.length cap], .int .i64 i] w fun x w' => x = .returned (.string (str [])) ∧ More w w' := by
  obtain ⟨base, count, producer, epoch, seq, recs⟩ := b
  dsimp only at hx hl ⊢
  unfold maxLen at hl
  rcases hx with hx | hx
  · refine calls_wd ?_
    go_enter Tryd.func15, Tryd.ntmps15
    go_wp2
    go_ret
    exact ⟨rfl, more_wd _ _ _⟩
  · by_cases h0 : i < 0
    · refine calls_wd ?_
      go_enter Tryd.func15, Tryd.ntmps15
      go_wp2
      go_ret
      exact ⟨rfl, more_wd _ _ _⟩
    · refine calls_wd ?_
      go_enter Tryd.func15, Tryd.ntmps15
      go_wp2
      go_ret
      exact ⟨rfl, more_wd _ _ _⟩
end Go.Proofs.YtejokhgabcldhaaDoor
