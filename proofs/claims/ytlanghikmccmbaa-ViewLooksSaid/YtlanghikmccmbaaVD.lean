/- bilanderref36: Check. -/
import Derived.Test.YtlanghikmccmbaaVA
namespace Go.Proofs.Ytlanghikmccmbaa
open Go.ChangeShapes Go.WideShapes Go.ChangeAt Go.RowKit
set_option linter.unusedVariables false
set_option linter.unusedSimpArgs false

set_option maxRecDepth 100000 in
set_option maxHeartbeats 3200000 in
theorem rvcheck_any (v : Vw) (a : Option Addr) (cap : Nat) (w : World) (hr : VRowsAt w a v.rows) (hf : ∀ x ∈ v.rows, x.key.length ≤ maxLen ∧ x.value.length ≤ maxLen) (hl : v.rows.length ≤ maxLen) :
    Calls Try.prog 8 #[.agg #[.int .i64 v.next, .slice a v.rows.length cap]] w fun x w' => x = .returned (.int .i64 (viewCheck v)) ∧ More w w' := by
  have HR := Lib.hid hr
  have HF := Lib.hid hf
  obtain ⟨next, rows⟩ := v
  dsimp only at *
  unfold maxLen at hl
  clear hr hf
  by_cases h1 : next < 0
  · have HE := Lib.hid (check_range (v := ⟨next, rows⟩) (.inl h1))
    refine calls_wd ?_
    go_enter Try.func8, Try.ntmps8
    go_wp2
    go_ret
    exact ⟨by rw [HE.out]; rfl, more_wd _ _ _⟩
  by_cases h2 : 4611686018427387903 < next
  · have HE := Lib.hid (check_range (v := ⟨next, rows⟩) (.inr (.inl h2)))
    refine calls_wd ?_
    go_enter Try.func8, Try.ntmps8
    go_wp2
    go_ret
    exact ⟨by rw [HE.out]; rfl, more_wd _ _ _⟩
  by_cases h3 : 4096 < rows.length
  · have HE := Lib.hid (check_range (v := ⟨next, rows⟩) (.inr (.inr h3)))
    refine calls_wd ?_
    go_enter Try.func8, Try.ntmps8
    go_wp2
    go_ret
    exact ⟨by rw [HE.out]; rfl, more_wd _ _ _⟩
  have HNR : Hid (¬ (next < 0 ∨ 4611686018427387903 < next ∨ 4096 < rows.length)) := Lib.hid (by omega)
  have HC1 := Lib.hid (fun (k : Nat) (x : VRow) hx hk hr => check_row (v := ⟨next, rows⟩) HNR.out k x hx hk hr)
  have HC2 := Lib.hid (fun hk (k : Nat) (x y : VRow) hx hy hlt => check_order (v := ⟨next, rows⟩) HNR.out hk k x y hx hy hlt)
  have HC3 := Lib.hid (fun hk ho => check_good (v := ⟨next, rows⟩) HNR.out hk ho)
  obtain ⟨E, hE⟩ : ∃ E, viewCheck ⟨next, rows⟩ = E := ⟨_, rfl⟩
  rw [hE] at HC1 HC2 HC3
  dsimp only at HC1 HC2 HC3
  rw [hE]
  clear hE
  refine calls_wd ?_
  go_enter Try.func8, Try.ntmps8
  go_wp2
  go_loopw [3] (fun i wr => ∃ (k : Nat) (m : Ext), k ≤ rows.length ∧ i = .int .i64 k ∧ wr = wd w [m.e, vbox next a rows.length cap 24] m.n ∧ Hid (∀ y ∈ rows.take k, rowE y next = 0)) (fun i _ => rows.length - (intOf i).toNat)
  case atStart => exact ⟨0, ⟨#[], _⟩, Nat.zero_le _, rfl, by rw [wd_empty], Lib.hid (by simp)⟩
  case round =>
    obtain ⟨k, m, hk, rfl, rfl, HTK⟩ := hrel
    by_cases hlt : k < rows.length
    · obtain ⟨x, hx⟩ : ∃ x, rows[k]? = some x := ⟨_, List.getElem?_eq_getElem hlt⟩
      obtain ⟨bb, off, rfl, hb, c0, c1, c2, c3⟩ := vrows_at HR.out k x hx
      have hfx := HF.out x (List.mem_of_getElem? hx)
      have HE0 : Hid (rowE x next = if 64 < x.key.length ∨ 512 < x.value.length then 5 else if x.offset < 0 ∨ next ≤ x.offset ∨ x.time < 0 ∨ 1099511627776 < x.time then 11 else 0) := Lib.hid rfl
      have HBAD := Lib.hid (fun h => HC1.out k x hx HTK.out h)
      have HGO := Lib.hid (fun h => take_ok' (p := fun y => rowE y next = 0) HTK.out hx h)
      clear hx
      obtain ⟨kk, vv, oo, tt⟩ := x
      dsimp only at *
      have hs1 := str_size kk
      have hs2 := str_size vv
      have hfx1 := hfx.1
      have hfx2 := hfx.2
      unfold maxLen at hfx1 hfx2
      clear hfx
      obtain ⟨RE, hRE⟩ : ∃ RE, rowE ⟨kk, vv, oo, tt⟩ next = RE := ⟨_, rfl⟩
      rw [hRE] at HBAD HGO HE0
      clear hRE
      by_cases g1 : 64 < kk.length
      · have hre := HE0.out
        rw [if_pos (.inl g1)] at hre
        have HB2 := Lib.hid ((HBAD.out (by rw [hre]; decide)).trans hre)
        clear HGO HBAD HE0 hre
        go_wp2
        go_ret
        exact ⟨by rw [HB2.out]; rfl, more_wd _ _ _⟩
      by_cases g2 : 512 < vv.length
      · have hre := HE0.out
        rw [if_pos (.inr g2)] at hre
        have HB2 := Lib.hid ((HBAD.out (by rw [hre]; decide)).trans hre)
        clear HGO HBAD HE0 hre
        go_wp2
        go_ret
        exact ⟨by rw [HB2.out]; rfl, more_wd _ _ _⟩
      have HE1 := HE0.out
      rw [if_neg (by omega)] at HE1
      by_cases g3 : oo < 0
      · have hre := HE1
        rw [if_pos (by omega)] at hre
        have HB2 := Lib.hid ((HBAD.out (by rw [hre]; decide)).trans hre)
        clear HGO HBAD HE0 hre HE1
        go_wp2
        go_ret
        exact ⟨by rw [HB2.out]; rfl, more_wd _ _ _⟩
      by_cases g4 : next ≤ oo
      · have hre := HE1
        rw [if_pos (by omega)] at hre
        have HB2 := Lib.hid ((HBAD.out (by rw [hre]; decide)).trans hre)
        clear HGO HBAD HE0 hre HE1
        go_wp2
        go_ret
        exact ⟨by rw [HB2.out]; rfl, more_wd _ _ _⟩
      by_cases g5 : tt < 0
      · have hre := HE1
        rw [if_pos (by omega)] at hre
        have HB2 := Lib.hid ((HBAD.out (by rw [hre]; decide)).trans hre)
        clear HGO HBAD HE0 hre HE1
        go_wp2
        go_ret
        exact ⟨by rw [HB2.out]; rfl, more_wd _ _ _⟩
      by_cases g6 : 1099511627776 < tt
      · have hre := HE1
        rw [if_pos (by omega)] at hre
        have HB2 := Lib.hid ((HBAD.out (by rw [hre]; decide)).trans hre)
        clear HGO HBAD HE0 hre HE1
        go_wp2
        go_ret
        exact ⟨by rw [HB2.out]; rfl, more_wd _ _ _⟩
      · rw [if_neg (by omega)] at HE1
        have HGO2 := Lib.hid (HGO.out HE1)
        clear HGO HBAD HE0 HE1
        go_wp2
        go_roundw
        case rel => exact ⟨k + 1, ⟨m.e ++ rbox kk vv oo tt 26, m.n⟩, by omega, by go_num, by rw [wd_merge], HGO2⟩
        case measure => simp [intOf]; omega
    · have HALL : Hid (∀ y ∈ rows, rowE y next = 0) := Lib.hid (by have h := HTK.out; rw [List.take_of_length_le (by omega)] at h; exact h)
      have HC4 := Lib.hid (HC2.out HALL.out)
      have HC5 := Lib.hid (HC3.out HALL.out)
      clear HC1 HC2 HC3 HTK HALL HNR
      go_wp2
      go_loopw [5] (fun i wr => ∃ (j : Nat) (m' : Ext), 1 ≤ j ∧ j ≤ rows.length + 1 ∧ i = .int .i64 j ∧ wr = wd w [m'.e, vbox next a rows.length cap 24] m'.n ∧ Hid (∀ (i : Nat) (x y : VRow), i + 1 < j → rows[i]? = some x → rows[i + 1]? = some y → ltB x.key y.key = true)) (fun i _ => rows.length + 1 - (intOf i).toNat)
      case atStart => exact ⟨1, m, Nat.le_refl _, by omega, rfl, rfl, Lib.hid (by intro i x y h; omega)⟩
      case round =>
        obtain ⟨j, m2, hj1, hj2, rfl, rfl, HO⟩ := hrel
        by_cases hjl : j < rows.length
        · obtain ⟨i, rfl⟩ : ∃ i, j = i + 1 := ⟨j - 1, by omega⟩
          obtain ⟨x, hx⟩ : ∃ x, rows[i]? = some x := ⟨_, List.getElem?_eq_getElem (by omega)⟩
          obtain ⟨y, hy⟩ : ∃ y, rows[i + 1]? = some y := ⟨_, List.getElem?_eq_getElem hjl⟩
          obtain ⟨bb, off, rfl, hb, c0, c1, c2, c3⟩ := vrows_at HR.out i x hx
          obtain ⟨bb2, off2, he, hb2, d0, d1, d2, d3⟩ := vrows_at HR.out (i + 1) y hy
          cases he
          have hls := less_str x.key y.key
          obtain ⟨LT, hLT⟩ : ∃ LT, ltB x.key y.key = LT := ⟨_, rfl⟩
          have HX := Lib.hid (⟨hx, hy, hLT⟩ : rows[i]? = some x ∧ rows[i + 1]? = some y ∧ ltB x.key y.key = LT)
          rw [hLT] at hls
          clear hx hy hLT c1 c2 c3 d1 d2 d3
          obtain ⟨xk, xv, xo, xt⟩ := x
          obtain ⟨yk, yv, yo, yt⟩ := y
          dsimp only at c0 d0 hls
          cases LT with
          | true =>
            have HO2 : Hid (∀ (i' : Nat) (x y : VRow), i' + 1 < i + 1 + 1 → rows[i']? = some x → rows[i' + 1]? = some y → ltB x.key y.key = true) := Lib.hid (by
              intro i' x y h1 h2 h3
              by_cases he : i' = i
              · subst he
                obtain ⟨g1, g2, g3⟩ := HX.out
                rw [g1] at h2
                rw [g2] at h3
                cases h2; cases h3
                exact g3
              · exact HO.out i' x y (by omega) h2 h3)
            go_wp2
            refine wp_region_wd (by kernel_rfl) (by kernel_rfl) ?_
            repeat (go_big_quiet_step ((fail)))
            refine wpQuiet_nil ?_
            rintro _ ⟨mx, rfl⟩
            go_wp2
            go_roundw
            case rel => exact ⟨i + 1 + 1, ⟨m2.e ++ mx.e, mx.n⟩, by omega, by omega, by go_num, by rw [wd_merge], HO2⟩
            case measure => simp [intOf]; omega
          | false =>
            have HE := Lib.hid (HC4.out i _ _ HX.out.1 HX.out.2.1 HX.out.2.2)
            go_wp2
            refine wp_region_wd (by kernel_rfl) (by kernel_rfl) ?_
            repeat (go_big_quiet_step ((fail)))
            refine wpQuiet_nil ?_
            rintro _ ⟨mx, rfl⟩
            go_wp2
            go_ret
            exact ⟨by rw [HE.out]; rfl, more_wd _ _ _⟩
        · have HE := Lib.hid (HC5.out (fun i x y hx hy => HO.out i x y (by have := (List.getElem?_eq_some_iff.1 hy).1; omega) hx hy))
          go_wp2
          go_ret
          exact ⟨by rw [HE.out]; rfl, more_wd _ _ _⟩
end Go.Proofs.Ytlanghikmccmbaa
