/- dump: the reference's Line. -/
import Derived.Test.YtejokhgabcldhaaDoorNI
namespace Go.Proofs.YtejokhgabcldhaaDoor
open Go.ChangeShapes Go.WideShapes Go.ChangeAt Go.RowKit
set_option linter.unusedVariables false
set_option linter.unusedSimpArgs false

theorem sadd' {P : Program} {a b T : List UInt8} (hT : a ++ b = T) (h : T.length ≤ 9223372036854775807) (W : World) : (Op.stringOp .add (str a) (str b)).run P W = .ok (.string (str T)) W := by
  subst hT
  exact sadd a b (by rw [List.length_append] at h; exact h) W
set_option maxRecDepth 100000 in
set_option maxHeartbeats 3200000 in
theorem rline_in (b : Bat) (a : Option Addr) (cap : Nat) (i : Nat) (r : Rec) (w : World) (hr : RecsAt w a b.recs) (hx : b.recs[i]? = some r) (hl : b.recs.length ≤ maxLen) (hf : RecFit r) :
    Calls Tryd.prog 16 #[.agg #[.int .i64 b.base, .int .i64 b.count, .int .i64 b.producer, .int .i64 b.epoch, .int .i64 b.seq, .slice a b.recs.length cap], .int .i64 i] w fun x w' => x = .returned (.string (str (recLine r))) ∧ More w w' := by
  obtain ⟨base, count, producer, epoch, seq, recs⟩ := b
  dsimp only at hr hx hl ⊢
  unfold maxLen at hl
  obtain ⟨bb, off, rfl, hb, c0, c1, c2, c3, c4, c5⟩ := recs_at hr i r hx
  have hi : i < recs.length := (List.getElem?_eq_some_iff.1 hx).1
  have hi' : (i : Int) < recs.length := by omega
  have HL := Lib.hid (⟨fun h => recLine_dead h, fun h h2 => recLine_keyed h h2, fun h h2 => recLine_value h h2⟩ : (r.dead = true → _) ∧ (r.dead = false → r.keyed = true → _) ∧ (r.dead = false → r.keyed = false → _))
  obtain ⟨d, t, ky, key, dd, val⟩ := r
  obtain ⟨f1, f2, f3, f4, f5, f6⟩ := hf
  dsimp only at *
  clear hr hx
  have l1 := digN_len f1 (by omega)
  have l2 := digN_len f3 (by omega)
  have HQ := Lib.hid (fun W => rquote_any key W (by omega))
  have HV := Lib.hid (fun W => rquote_any val W (by omega))
  have q1 := quote_len key
  have q2 := quote_len val
  have hq1 : (quote key).length ≤ 3000002 := by omega
  have hq2 : (quote val).length ≤ 3000002 := by omega
  have HD := Lib.hid (fun W => rdig_any d f1 f2 W)
  have HT := Lib.hid (fun W => rdig_any t f3 f4 W)
  obtain ⟨D, hD⟩ : ∃ D, digN d = D := ⟨_, rfl⟩
  obtain ⟨T, hT⟩ : ∃ T, digN t = T := ⟨_, rfl⟩
  rw [hD] at HD HL l1
  rw [hT] at HT HL l2
  obtain ⟨Q, hQ⟩ : ∃ Q, quote key = Q := ⟨_, rfl⟩
  obtain ⟨V, hV⟩ : ∃ V, quote val = V := ⟨_, rfl⟩
  rw [hQ] at HQ HL hq1
  rw [hV] at HV HL hq2
  clear hQ hV hD hT q1 q2 f1 f2 f3 f4 f5 f6
  obtain ⟨A, hA⟩ : ∃ A, [114, 101, 99, 111, 114, 100, 32] ++ D = A := ⟨_, rfl⟩
  obtain ⟨B, hB⟩ : ∃ B, A ++ [32] = B := ⟨_, rfl⟩
  obtain ⟨S, hS⟩ : ∃ S, B ++ T = S := ⟨_, rfl⟩
  have lA : A.length = 7 + D.length := by rw [← hA]; simp; omega
  have lB : B.length = A.length + 1 := by rw [← hB]; simp
  have lS : S.length = B.length + T.length := by rw [← hS]; simp
  have hSS : joinC 32 [recWord, D, T] = S := by rw [← hS, ← hB, ← hA]; simp [joinC, recWord]
  rw [hSS] at HL
  have e1 := sadd' (P := Tryd.prog) hA (by omega)
  have e2 := sadd' (P := Tryd.prog) hB (by omega)
  have e3 := sadd' (P := Tryd.prog) hS (by omega)
  rw [show str [114, 101, 99, 111, 114, 100, 32] = { data := #[114, 101, 99, 111, 114, 100, 32] } from rfl] at e1
  rw [show str [32] = { data := #[32] } from rfl] at e2
  clear hA hB hS hSS
  refine calls_wd ?_
  go_enter Tryd.func16, Tryd.ntmps16
  go_wp2
  refine wp_region_wd (by kernel_rfl) (by kernel_rfl) ?_
  repeat (go_big_quiet_step ((first | (go_at_call 32; with_reducible exact Calls.wd_of (HD.out _)) | (go_at_call 32; with_reducible exact Calls.wd_of (HT.out _)))))
  refine wpQuiet_nil ?_
  rintro _ ⟨mx, rfl⟩
  clear e1 e2 e3
  cases dd with
  | true =>
    obtain ⟨U, hU⟩ : ∃ U, S ++ [32, 100, 32] = U := ⟨_, rfl⟩
    obtain ⟨F, hF⟩ : ∃ F, U ++ Q = F := ⟨_, rfl⟩
    have lU : U.length = S.length + 3 := by rw [← hU]; simp
    have lF : F.length = U.length + Q.length := by rw [← hF]; simp
    have hE := Lib.hid ((HL.out.1 rfl).trans (show _ = F by rw [← hF, ← hU]; simp [joinC]))
    have e4 := sadd' (P := Tryd.prog) hU (by omega)
    have e5 := sadd' (P := Tryd.prog) hF (by omega)
    rw [show str [32, 100, 32] = { data := #[32, 100, 32] } from rfl] at e4
    clear hU hF HL
    go_wp2_with (first | (go_at_call 11; ((with_reducible refine (HQ.out _).mono ?_); rintro e w1 ⟨rfl, x4, n4, rfl⟩)))
    go_ret
    exact ⟨by rw [hE.out]; rfl, more_wd _ _ _⟩
  | false =>
    cases ky with
    | true =>
      obtain ⟨U, hU⟩ : ∃ U, S ++ [32, 107, 32] = U := ⟨_, rfl⟩
      obtain ⟨X, hX⟩ : ∃ X, U ++ Q = X := ⟨_, rfl⟩
      obtain ⟨Y, hY⟩ : ∃ Y, X ++ [32] = Y := ⟨_, rfl⟩
      obtain ⟨F, hF⟩ : ∃ F, Y ++ V = F := ⟨_, rfl⟩
      have lU : U.length = S.length + 3 := by rw [← hU]; simp
      have lX : X.length = U.length + Q.length := by rw [← hX]; simp
      have lY : Y.length = X.length + 1 := by rw [← hY]; simp
      have lF : F.length = Y.length + V.length := by rw [← hF]; simp
      have hE := Lib.hid ((HL.out.2.1 rfl rfl).trans (show _ = F by rw [← hF, ← hY, ← hX, ← hU]; simp [joinC]))
      have e4 := sadd' (P := Tryd.prog) hU (by omega)
      have e5 := sadd' (P := Tryd.prog) hX (by omega)
      have e6 := sadd' (P := Tryd.prog) hY (by omega)
      have e7 := sadd' (P := Tryd.prog) hF (by omega)
      rw [show str [32, 107, 32] = { data := #[32, 107, 32] } from rfl] at e4
      rw [show str [32] = { data := #[32] } from rfl] at e6
      clear hU hX hY hF HL
      go_wp2
      refine wp_region_wd (by kernel_rfl) (by kernel_rfl) ?_
      repeat (go_big_quiet_step ((first | (go_at_call 11; with_reducible exact Calls.wd_of (HQ.out _)) | (go_at_call 11; with_reducible exact Calls.wd_of (HV.out _)))))
      refine wpQuiet_nil ?_
      rintro _ ⟨mx, rfl⟩
      go_wp2
      go_ret
      exact ⟨by rw [hE.out]; rfl, more_wd _ _ _⟩
    | false =>
      obtain ⟨U, hU⟩ : ∃ U, S ++ [32, 118, 32] = U := ⟨_, rfl⟩
      obtain ⟨F, hF⟩ : ∃ F, U ++ V = F := ⟨_, rfl⟩
      have lU : U.length = S.length + 3 := by rw [← hU]; simp
      have lF : F.length = U.length + V.length := by rw [← hF]; simp
      have hE := Lib.hid ((HL.out.2.2 rfl rfl).trans (show _ = F by rw [← hF, ← hU]; simp [joinC]))
      have e4 := sadd' (P := Tryd.prog) hU (by omega)
      have e5 := sadd' (P := Tryd.prog) hF (by omega)
      rw [show str [32, 118, 32] = { data := #[32, 118, 32] } from rfl] at e4
      clear hU hF HL
      go_wp2_with (first | (go_at_call 11; ((with_reducible refine (HV.out _).mono ?_); rintro e w1 ⟨rfl, x4, n4, rfl⟩)))
      go_ret
      exact ⟨by rw [hE.out]; rfl, more_wd _ _ _⟩
set_option maxRecDepth 100000 in
set_option maxHeartbeats 3200000 in
theorem rline_out (b : Bat) (a : Option Addr) (cap : Nat) (i : Int) (w : World) (hx : i < 0 ∨ (b.recs.length : Int) ≤ i) (hl : b.recs.length ≤ maxLen) :
    Calls Tryd.prog 16 #[.agg #[.int .i64 b.base, .int .i64 b.count, .int .i64 b.producer, .int .i64 b.epoch, .int .i64 b.seq, .slice a b.recs.length cap], .int .i64 i] w fun x w' => x = .returned (.string (str [])) ∧ More w w' := by
  obtain ⟨base, count, producer, epoch, seq, recs⟩ := b
  dsimp only at hx hl ⊢
  unfold maxLen at hl
  rcases hx with hx | hx
  · refine calls_wd ?_
    go_enter Tryd.func16, Tryd.ntmps16
    go_wp2
    go_ret
    exact ⟨rfl, more_wd _ _ _⟩
  · by_cases h0 : i < 0
    · refine calls_wd ?_
      go_enter Tryd.func16, Tryd.ntmps16
      go_wp2
      go_ret
      exact ⟨rfl, more_wd _ _ _⟩
    · refine calls_wd ?_
      go_enter Tryd.func16, Tryd.ntmps16
      go_wp2
      go_ret
      exact ⟨rfl, more_wd _ _ _⟩
end Go.Proofs.YtejokhgabcldhaaDoor
