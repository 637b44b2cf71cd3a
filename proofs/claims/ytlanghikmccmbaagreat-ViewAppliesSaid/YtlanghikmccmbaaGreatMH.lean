/- batch, the reference: lay, Check, Put. -/
import Derived.Test.YtlanghikmccmbaaGreatME
import Derived.Test.YtlanghikmccmbaaGreatMG
namespace Go.Proofs.YtlanghikmccmbaaGreat
open Go.ChangeShapes Go.WideShapes Go.ChangeAt Go.RowKit
set_option linter.unusedVariables false
set_option linter.unusedSimpArgs false

set_option maxRecDepth 100000 in
set_option maxHeartbeats 3200000 in
theorem rlay_bat (b : Bat) (a : Option Addr) (cap : Nat) (w : World) (hr : RecsAt w a b.recs) (hl : b.recs.length ≤ 1000000) (hwf : b.wf) : Calls Tryz.prog 60 #[.agg #[.int .i64 b.base, .int .i64 b.count, .int .i64 b.producer, .int .i64 b.epoch, .int .i64 b.seq, .slice a b.recs.length cap]] w fun e w' =>
    ∃ v, e = .returned v ∧ BMade w w' v (batLay b) := by
  have HL : Hid (batLay b = numsB (batHead b) ++ recsB b.recs) := Lib.hid rfl
  have hwfs := head_wf hwf hl
  have HH : Hid (batHead b = [b.base, b.count, b.producer, b.epoch, b.seq, (b.recs.length : Int)]) := Lib.hid rfl
  obtain ⟨base, count, producer, epoch, seq, recs⟩ := b
  dsimp only at hr hl HL HH hwfs ⊢
  have HR := Lib.hid hr
  have HLL := Lib.hid (recsB_len recs)
  rw [HH.out] at hwfs HL
  have W := Lib.hid hwfs
  clear hr hwf hwfs
  obtain ⟨⟨g1, h1⟩, ⟨g2, h2⟩, ⟨g3, h3⟩, ⟨g4, h4⟩, ⟨g5, h5⟩, ⟨g6, h6⟩⟩ : I64 base ∧ I64 count ∧ I64 producer ∧ I64 epoch ∧ I64 seq ∧ I64 (recs.length : Int) := ⟨W.out _ (by simp), W.out _ (by simp), W.out _ (by simp), W.out _ (by simp), W.out _ (by simp), W.out _ (by simp)⟩
  have pl1 := put_len g1 h1
  have pl2 := put_len g2 h2
  have pl3 := put_len g3 h3
  have pl4 := put_len g4 h4
  have pl5 := put_len g5 h5
  have pl6 := put_len g6 h6
  refine calls_wd ?_
  go_enter Tryz.func60, Tryz.ntmps60
  go_wp2
  refine wp_loop_rounds 7 ?_
  rw [rounds_succ]
  go_wp2_with (first | (go_at_call 87; ((with_reducible refine (rput_any base g1 h1 _).mono ?_); rintro e w1 ⟨u1, rfl, x1⟩; obtain ⟨p1, rfl, hs1⟩ := x1.wd; clear x1)) | (at_builtin; refine at_append_nil rfl _ _ rfl rfl rfl hs1 (by omega) ?_; clear hs1; intro v1 m1 hr1))
  rw [rounds_succ]
  go_wp2_with (first | (go_at_call 87; ((with_reducible refine (rput_any count g2 h2 _).mono ?_); rintro e w1 ⟨u2, rfl, x1⟩; obtain ⟨p2, rfl, hs2⟩ := x1.wd; clear x1)) | (at_builtin; refine at_append rfl _ _ rfl rfl hr1 rfl hs2 (by (try simp only [List.length_append]); omega) ?_; clear hr1 hs2; intro v2 m2 hr2))
  rw [rounds_succ]
  go_wp2_with (first | (go_at_call 87; ((with_reducible refine (rput_any producer g3 h3 _).mono ?_); rintro e w1 ⟨u3, rfl, x1⟩; obtain ⟨p3, rfl, hs3⟩ := x1.wd; clear x1)) | (at_builtin; refine at_append rfl _ _ rfl rfl hr2 rfl hs3 (by (try simp only [List.length_append]); omega) ?_; clear hr2 hs3; intro v3 m3 hr3))
  rw [rounds_succ]
  go_wp2_with (first | (go_at_call 87; ((with_reducible refine (rput_any epoch g4 h4 _).mono ?_); rintro e w1 ⟨u4, rfl, x1⟩; obtain ⟨p4, rfl, hs4⟩ := x1.wd; clear x1)) | (at_builtin; refine at_append rfl _ _ rfl rfl hr3 rfl hs4 (by (try simp only [List.length_append]); omega) ?_; clear hr3 hs4; intro v4 m4 hr4))
  rw [rounds_succ]
  go_wp2_with (first | (go_at_call 87; ((with_reducible refine (rput_any seq g5 h5 _).mono ?_); rintro e w1 ⟨u5, rfl, x1⟩; obtain ⟨p5, rfl, hs5⟩ := x1.wd; clear x1)) | (at_builtin; refine at_append rfl _ _ rfl rfl hr4 rfl hs5 (by (try simp only [List.length_append]); omega) ?_; clear hr4 hs5; intro v5 m5 hr5))
  rw [rounds_succ]
  go_wp2_with (first | (go_at_call 87; ((with_reducible refine (rput_any (recs.length : Int) g6 h6 _).mono ?_); rintro e w1 ⟨u6, rfl, x1⟩; obtain ⟨p6, rfl, hs6⟩ := x1.wd; clear x1)) | (at_builtin; refine at_append rfl _ _ rfl rfl hr5 rfl hs6 (by (try simp only [List.length_append]); omega) ?_; clear hr5 hs6; intro v6 m6 hr6))
  rw [rounds_succ]
  go_wp2
  have hN : (put base ++ put count ++ put producer ++ put epoch ++ put seq ++ put (recs.length : Int)).length ≤ 60 := by simp only [List.length_append]; omega
  have HN : Hid (batLay ⟨base, count, producer, epoch, seq, recs⟩ = (put base ++ put count ++ put producer ++ put epoch ++ put seq ++ put (recs.length : Int)) ++ recsB recs) := Lib.hid (by rw [HL.out]; simp [numsB])
  generalize put base ++ put count ++ put producer ++ put epoch ++ put seq ++ put (recs.length : Int) = N at hr6 hN HN
  clear HL HH pl1 pl2 pl3 pl4 pl5 pl6
  go_loopw [3, 6] (fun v i wr => ∃ (k : Nat) (m : Ext), k ≤ recs.length ∧ i = .int .i64 k ∧ BRow w [#[.cells #[.int .i64 base, .int .i64 count, .int .i64 producer, .int .i64 epoch, .int .i64 seq, .int .i64 recs.length] 3], bbox base count producer epoch seq a recs.length cap] m.e v (N ++ recsB (recs.take k)) ∧ wr = wd w [m.e, #[.cells #[.int .i64 base, .int .i64 count, .int .i64 producer, .int .i64 epoch, .int .i64 seq, .int .i64 recs.length] 3], bbox base count producer epoch seq a recs.length cap] m.n) (fun _ i _ => recs.length - (intOf i).toNat)
  case atStart => exact ⟨0, m6, Nat.zero_le _, rfl, by simpa [recsB] using hr6, rfl⟩
  case round =>
    obtain ⟨k, m, hk, rfl, hrow, rfl⟩ := hrel
    by_cases hlt : k < recs.length
    · obtain ⟨x, hx⟩ : ∃ x, recs[k]? = some x := ⟨_, List.getElem?_eq_getElem hlt⟩
      obtain ⟨bb, off, rfl, hb, c0, c1, c2, c3, c4, c5⟩ := recs_at HR.out k x hx
      have hT : Hid (recsB (recs.take (k + 1)) = recsB (recs.take k) ++ (recPut x).1) := Lib.hid (by rw [take_get recs k x hx]; exact recsB_snoc _ _)
      have hl1 := recPut_len x
      have hl2 := recsB_len (recs.take k)
      have hl3 : (recs.take k).length ≤ 1000000 := by rw [List.length_take]; omega
      obtain ⟨d, t, ky, key, dd, val⟩ := x
      dsimp only at c0 c1 c2 c3 c4 c5
      clear hx hr6
      go_wp2_with (first
        | (go_at_call 88; ((with_reducible refine (rrecput_x d t ky dd key val _).mono ?_); rintro e w2 ⟨u9, rfl, hm9⟩; obtain ⟨p9, rfl, hs9⟩ := hm9.wd; clear hm9))
        | (at_builtin; refine at_append rfl _ _ rfl rfl hrow rfl hs9 (by simp only [List.length_append]; omega) ?_; clear hrow hs9; intro v' m' hr'))
      go_roundw
      case rel => exact ⟨k + 1, m', by omega, by go_num, by rw [hT.out, ← List.append_assoc]; exact hr', rfl⟩
      case measure => simp [intOf]; omega
    · have hT : Hid (batLay ⟨base, count, producer, epoch, seq, recs⟩ = N ++ recsB (recs.take k)) := Lib.hid (by rw [List.take_of_length_le (by omega)]; exact HN.out)
      go_wp2
      go_ret
      exact ⟨_, rfl, fin3 hrow hT.out.symm⟩
set_option maxRecDepth 100000 in
set_option maxHeartbeats 3200000 in
theorem rnum_bat (b : Bat) (a : Option Addr) (cap : Nat) (w : World) (hl : b.recs.length ≤ maxLen) (hn : batNum b ≠ 0) : Calls Tryz.prog 32 #[.agg #[.int .i64 b.base, .int .i64 b.count, .int .i64 b.producer, .int .i64 b.epoch, .int .i64 b.seq, .slice a b.recs.length cap]] w fun e w' =>
    e = .returned (.int .i64 (batNum b)) ∧ More w w' := by
  have HB : Hid (batNum b = if b.count < 1 ∨ 32 < b.count ∨ b.base < 0 ∨ 4611686018427387903 - b.count < b.base then 11
    else if b.producer < 0 ∨ 1099511627776 < b.producer ∨ b.epoch < 0 ∨ 32767 < b.epoch ∨ b.seq < 0 ∨ 2147483647 < b.seq then 11
    else if b.producer = 0 ∧ (b.epoch ≠ 0 ∨ b.seq ≠ 0) then 4
    else if b.count < b.recs.length then 5 else 0) := Lib.hid rfl
  generalize batNum b = R at HB hn ⊢
  obtain ⟨base, count, producer, epoch, seq, recs⟩ := b
  dsimp only at HB hl ⊢
  unfold maxLen at hl
  generalize recs.length = n at HB hl ⊢
  have HN := Lib.hid hn
  clear hn
  have cases4 : (count < 1 ∨ 32 < count) ∨ (1 ≤ count ∧ count ≤ 32 ∧ (base < 0 ∨ 4611686018427387903 - count < base)) ∨ (1 ≤ count ∧ count ≤ 32 ∧ 0 ≤ base ∧ base ≤ 4611686018427387903 - count) := by omega
  rcases cases4 with h | ⟨h1, h2, h⟩ | ⟨h1, h2, h3, h4⟩
  · have HX : Hid (R = 11) := Lib.hid (by rw [HB.out, if_pos (by omega)])
    clear HB
    rcases h with h | h
    · refine calls_wd ?_
      go_enter Tryz.func32, Tryz.ntmps32
      go_wp2
      go_ret
      exact ⟨ret_i HX.out.symm, more_wd _ _ _⟩
    · have h1 : 1 ≤ count := by omega
      refine calls_wd ?_
      go_enter Tryz.func32, Tryz.ntmps32
      go_wp2
      go_ret
      exact ⟨ret_i HX.out.symm, more_wd _ _ _⟩
  · have HX : Hid (R = 11) := Lib.hid (by rw [HB.out, if_pos (by omega)])
    clear HB
    rcases h with h | h
    · refine calls_wd ?_
      go_enter Tryz.func32, Tryz.ntmps32
      go_wp2
      all_goals (go_ret; exact ⟨ret_i HX.out.symm, more_wd _ _ _⟩)
    · have h0 : 0 ≤ base := by omega
      refine calls_wd ?_
      go_enter Tryz.func32, Tryz.ntmps32
      go_wp2
      all_goals (go_ret; exact ⟨ret_i HX.out.symm, more_wd _ _ _⟩)
  · have HB2 : Hid (R = if producer < 0 ∨ 1099511627776 < producer ∨ epoch < 0 ∨ 32767 < epoch ∨ seq < 0 ∨ 2147483647 < seq then 11
        else if producer = 0 ∧ (epoch ≠ 0 ∨ seq ≠ 0) then 4 else if count < n then 5 else 0) := Lib.hid (by rw [HB.out, if_neg (by omega)])
    clear HB
    have cases3 : (producer < 0 ∨ 1099511627776 < producer ∨ epoch < 0 ∨ 32767 < epoch ∨ seq < 0 ∨ 2147483647 < seq) ∨ (0 ≤ producer ∧ producer ≤ 1099511627776 ∧ 0 ≤ epoch ∧ epoch ≤ 32767 ∧ 0 ≤ seq ∧ seq ≤ 2147483647) := by omega
    rcases cases3 with h | ⟨h5, h6, h7, h8, h9, h10⟩
    · have HX : Hid (R = 11) := Lib.hid (by rw [HB2.out, if_pos h])
      clear HB2
      have H := Lib.hid h
      clear h
      refine calls_wd ?_
      go_enter Tryz.func32, Tryz.ntmps32
      go_wp2
      all_goals first
        | (go_ret; exact ⟨ret_i HX.out.symm, more_wd _ _ _⟩)
        | (exfalso; have := H.out; omega)
    · have HB3 : Hid (R = if producer = 0 ∧ (epoch ≠ 0 ∨ seq ≠ 0) then 4 else if count < n then 5 else 0) := Lib.hid (by rw [HB2.out, if_neg (by omega)])
      clear HB2
      by_cases hp : producer = 0
      · subst hp
        by_cases he : epoch = 0
        · subst he
          by_cases hs : seq = 0
          · subst hs
            have hlt : count < n := by
              have h1 := HB3.out
              have h2 := HN.out
              rw [if_neg (by simp)] at h1
              by_cases h : count < n
              · exact h
              · rw [if_neg h] at h1; exact absurd h1 h2
            have HX : Hid (R = 5) := Lib.hid (by rw [HB3.out, if_neg (by simp), if_pos hlt])
            clear HB3
            refine calls_wd ?_
            go_enter Tryz.func32, Tryz.ntmps32
            go_wp2
            go_ret
            exact ⟨ret_i HX.out.symm, more_wd _ _ _⟩
          · have hne : (seq == 0) = false := by rw [beq_eq_false_iff_ne]; exact hs
            have HX : Hid (R = 4) := Lib.hid (by rw [HB3.out, if_pos ⟨rfl, .inr hs⟩])
            clear HB3
            refine calls_wd ?_
            go_enter Tryz.func32, Tryz.ntmps32
            go_wp2
            go_ret
            exact ⟨ret_i HX.out.symm, more_wd _ _ _⟩
        · have hne : (epoch == 0) = false := by rw [beq_eq_false_iff_ne]; exact he
          have HX : Hid (R = 4) := Lib.hid (by rw [HB3.out, if_pos ⟨rfl, .inl he⟩])
          clear HB3
          refine calls_wd ?_
          go_enter Tryz.func32, Tryz.ntmps32
          go_wp2
          go_ret
          exact ⟨ret_i HX.out.symm, more_wd _ _ _⟩
      · have hne : (producer == 0) = false := by rw [beq_eq_false_iff_ne]; exact hp
        have hlt : count < n := by
          have h1 := HB3.out
          have h2 := HN.out
          rw [if_neg (by omega)] at h1
          by_cases h : count < n
          · exact h
          · rw [if_neg h] at h1; exact absurd h1 h2
        have HX : Hid (R = 5) := Lib.hid (by rw [HB3.out, if_neg (by omega), if_pos hlt])
        clear HB3
        refine calls_wd ?_
        go_enter Tryz.func32, Tryz.ntmps32
        go_wp2
        go_ret
        exact ⟨ret_i HX.out.symm, more_wd _ _ _⟩
set_option maxRecDepth 100000 in
set_option maxHeartbeats 3200000 in
theorem rcheck_bat (b : Bat) (a : Option Addr) (cap : Nat) (w : World) (hr : RecsAt w a b.recs) (hl : b.recs.length ≤ maxLen) : Calls Tryz.prog 32 #[.agg #[.int .i64 b.base, .int .i64 b.count, .int .i64 b.producer, .int .i64 b.epoch, .int .i64 b.seq, .slice a b.recs.length cap]] w fun e w' =>
    e = .returned (.int .i64 (batCheck b)) ∧ More w w' := by
  have HC : Hid (batCheck b = if batNum b ≠ 0 then batNum b else if chk (-1) b.count b.recs ≠ 0 then chk (-1) b.count b.recs else if 8192 < (batLay b).length then 5 else 0) := Lib.hid rfl
  by_cases hn : batNum b = 0
  · have hwf := Bat.wf_ok hn
    obtain ⟨q1, q2, q3, q4, q5, q6, q7, q8, q9, q10, h32⟩ := batNum_ok hn
    have hlay := fun W h => rlay_bat b a cap W h (by omega) hwf
    have hq : ¬ (b.producer = 0 ∧ (b.epoch ≠ 0 ∨ b.seq ≠ 0)) ∧ ¬ (b.count < b.recs.length) ∧ b.base ≤ 4611686018427387903 - b.count := by
      unfold batNum at hn
      split at hn
      · simp at hn
      · split at hn
        · simp at hn
        · split at hn
          · simp at hn
          · split at hn
            · simp at hn
            · rename_i h1 h2 h3 h4
              exact ⟨h3, h4, by omega⟩
    obtain ⟨hq1, hq2, hq3⟩ := hq
    have HC2 : Hid (batCheck b = if chk (-1) b.count b.recs ≠ 0 then chk (-1) b.count b.recs else if 8192 < (batLay b).length then 5 else 0) := Lib.hid (by rw [HC.out, if_neg (by rw [hn]; simp)])
    clear hn hwf hl HC
    generalize batCheck b = R at HC2 ⊢
    generalize batLay b = LL at hlay HC2
    obtain ⟨base, count, producer, epoch, seq, recs⟩ := b
    dsimp only at hr hlay HC2 h32 q1 q2 q3 q4 q5 q6 q7 q8 q9 q10 hq1 hq2 hq3 ⊢
    have HR := Lib.hid hr
    have HLAY := Lib.hid hlay
    clear hr hlay
    have hq4 : (producer = 0 ∧ epoch = 0 ∧ seq = 0) ∨ (producer == 0) = false := by
      rcases Int.decEq producer 0 with h | h
      · right; rw [beq_eq_false_iff_ne]; exact h
      · left; omega
    have hq2' : (recs.length : Int) ≤ count := by omega
    clear hq1 hq2
    rcases hq4 with ⟨rfl, rfl, rfl⟩ | hne
    all_goals
      refine calls_wd ?_
      go_enter Tryz.func32, Tryz.ntmps32
      go_wp2
      go_loopw [3, 4] (fun v i wr => ∃ (k : Nat) (La : Int) (m : Ext), k ≤ recs.length ∧ i = .int .i64 k ∧ v = .int .i64 La ∧ Hid (chk (-1) count recs = chk La count (recs.drop k)) ∧ wr = wd w [m.e, bbox base count _ _ _ a recs.length cap] m.n) (fun _ i _ => recs.length - (intOf i).toNat)
      case atStart => exact ⟨0, -1, ⟨#[], w.drawn⟩, Nat.zero_le _, rfl, rfl, Lib.hid rfl, (wd_empty _ _ _).symm⟩
      case round =>
        obtain ⟨k, La, m, hk, rfl, rfl, HK, rfl⟩ := hrel
        by_cases hlt : k < recs.length
        · obtain ⟨x, hx⟩ : ∃ x, recs[k]? = some x := ⟨_, List.getElem?_eq_getElem hlt⟩
          obtain ⟨bb, off, rfl, hb, c0, c1, c2, c3, c4, c5⟩ := recs_at HR.out k x hx
          have HS : Hid (chk (-1) count recs = if recCheck x ≠ 0 then recCheck x else if x.delta ≤ La ∨ count ≤ x.delta then 16 else chk x.delta count (recs.drop (k + 1))) := Lib.hid (by rw [HK.out, drop_at recs k x hx, chk_cons])
          clear hx HK
          obtain ⟨d, t, ky, key, dd, val⟩ := x
          dsimp only at c0 c1 c2 c3 c4 c5 HS
          have hck := fun W => rrcheck_x d t ky dd key val W
          generalize recCheck ⟨d, t, ky, key, dd, val⟩ = E at hck HS
          by_cases hE : E = 0
          · subst hE
            by_cases h1 : d ≤ La
            · have HX : Hid (R = 16) := Lib.hid (by rw [HC2.out, HS.out]; simp [h1])
              go_wp2_with (first | (go_at_call 59; ((with_reducible refine (hck _).mono ?_); rintro e w1 ⟨rfl, x1, n1, rfl⟩)))
              refine wp_region_wd (by kernel_rfl) (by kernel_rfl) ?_
              repeat (go_big_quiet_step ((fail)))
              refine wpQuiet_nil ?_
              rintro _ ⟨mx, rfl⟩
              go_wp2
              all_goals (go_ret; exact ⟨ret_i HX.out.symm, more_wd _ _ _⟩)
            · by_cases h2 : count ≤ d
              · have h1' : decide (d ≤ La) = false := by simpa using h1
                have HX : Hid (R = 16) := Lib.hid (by rw [HC2.out, HS.out]; simp [h2])
                go_wp2_with (first | (go_at_call 59; ((with_reducible refine (hck _).mono ?_); rintro e w1 ⟨rfl, x1, n1, rfl⟩)))
                refine wp_region_wd (by kernel_rfl) (by kernel_rfl) ?_
                repeat (go_big_quiet_step ((fail)))
                refine wpQuiet_nil ?_
                rintro _ ⟨mx, rfl⟩
                go_wp2
                all_goals (go_ret; exact ⟨ret_i HX.out.symm, more_wd _ _ _⟩)
              · have h1' : decide (d ≤ La) = false := by simpa using h1
                have h2' : decide (count ≤ d) = false := by simpa using h2
                have HX : Hid (chk (-1) count recs = chk d count (recs.drop (k + 1))) := Lib.hid (by rw [HS.out, if_neg (by simp), if_neg (by omega)])
                go_wp2_with (first | (go_at_call 59; ((with_reducible refine (hck _).mono ?_); rintro e w1 ⟨rfl, x1, n1, rfl⟩)))
                refine wp_region_wd (by kernel_rfl) (by kernel_rfl) ?_
                repeat (go_big_quiet_step ((fail)))
                refine wpQuiet_nil ?_
                rintro _ ⟨mx, rfl⟩
                go_wp2
                all_goals
                  go_roundw
                  case rel => exact ⟨k + 1, d, ⟨_, _⟩, by omega, by go_num, rfl, HX, by rw [wd_merge, wd_merge]⟩
                  case measure => simp [intOf]; omega
          · have hne : (E == 0) = false := by rw [beq_eq_false_iff_ne]; exact hE
            have HX : Hid (R = E) := Lib.hid (by rw [HC2.out, HS.out]; simp [hE])
            go_wp2_with (first | (go_at_call 59; ((with_reducible refine (hck _).mono ?_); rintro e w1 ⟨rfl, x1, n1, rfl⟩)))
            go_ret
            exact ⟨ret_i HX.out.symm, more_wd _ _ _⟩
        · have HK0 : Hid (chk (-1) count recs = 0) := Lib.hid (by rw [HK.out, List.drop_eq_nil_of_le (by omega)]; rfl)
          have HX : Hid (R = if 8192 < LL.length then 5 else 0) := Lib.hid (by rw [HC2.out, HK0.out]; simp)
          clear HK
          by_cases h8 : 8192 < (LL.length : Int)
          all_goals
            go_wp2_with (first | (go_at_call 60; ((with_reducible refine (HLAY.out _ (HR.out.more (more_wd _ _ _))).mono ?_); rintro e w1 ⟨x0, rfl, x1⟩; obtain ⟨m9, rfl, hr9⟩ := x1.wd; clear x1; obtain ⟨a9, c9, rfl⟩ := rowIn_slice hr9)))
            all_goals (go_ret; exact ⟨ret_i (by rw [HX.out]; split <;> omega), more_wd _ _ _⟩)
  · have HX : Hid (batCheck b = batNum b) := Lib.hid (by rw [HC.out, if_pos hn])
    rw [HX.out]
    exact rnum_bat b a cap w hl hn
end Go.Proofs.YtlanghikmccmbaaGreat
