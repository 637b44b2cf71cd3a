/- slices.Equal: at bytes, at records; whether two batches are one. -/
import Derived.Test.YtlanghikmccmbaaMC
import Derived.Test.YtlanghikmccmbaaMD
import Derived.Laws.StructEq
import Derived.ChangeKeysEq
namespace Go.Proofs.Ytlanghikmccmbaa
open Go.ChangeShapes Go.WideShapes Go.ChangeAt Go.RowKit
set_option linter.unusedVariables false
set_option linter.unusedSimpArgs false

/-! ### records -/
theorem rec_eq (x y : Rec) : x = y ↔ x.delta = y.delta ∧ x.time = y.time ∧ x.keyed = y.keyed ∧ x.key = y.key ∧ x.dead = y.dead ∧ x.value = y.value := by
  cases x; cases y; simp
instance (x y : Rec) : Decidable (x = y) := decidable_of_iff _ (rec_eq x y).symm
instance : DecidableEq Rec := fun x y => inferInstance
theorem info_rec : (Try.prog.info? 73).map (fun i => (i.zero, i.size, i.bytes)) = some (some (.agg #[.int .i64 0, .int .i64 0, .bool false, .string ⟨#[]⟩, .bool false, .string ⟨#[]⟩]), 6, 64) := by kernel_rfl
end Go.Proofs.Ytlanghikmccmbaa
/- batch: numbers, lay, Check, Put. -/
namespace Go.Proofs.Ytlanghikmccmbaa
open Go.ChangeShapes Go.WideShapes Go.ChangeAt Go.RowKit
set_option linter.unusedVariables false
set_option linter.unusedSimpArgs false

set_option maxHeartbeats 800000 in
theorem within_any (n most : Int) (w : World) : Calls Try.prog 93 #[.int .i64 n, .int .i64 most] w fun e w' => e = .returned (.bool (decide (0 ≤ n ∧ n ≤ most))) ∧ w = w' := by
  by_cases h1 : 0 ≤ n
  · by_cases h2 : n ≤ most
    · go_enter Try.func93, Try.ntmps93
      go_wp2
      go_ret
      exact ⟨ret_b (by simp [h1, h2]), rfl⟩
    · have h2' : decide (n ≤ most) = false := by simpa using h2
      go_enter Try.func93, Try.ntmps93
      go_wp2
      go_ret
      exact ⟨ret_b (by simp [h1, h2]), rfl⟩
  · have h1' : decide (0 ≤ n) = false := by simpa using h1
    go_enter Try.func93, Try.ntmps93
    go_wp2
    go_ret
    exact ⟨ret_b (by simp [h1]), rfl⟩
theorem within_yes (n most : Int) (w : World) (h1 : 0 ≤ n) (h2 : n ≤ most) : Calls Try.prog 93 #[.int .i64 n, .int .i64 most] w fun e w' => e = .returned (.bool true) ∧ w = w' := by
  have h := within_any n most w
  rwa [show decide (0 ≤ n ∧ n ≤ most) = true by simp [h1, h2]] at h
theorem within_no (n most : Int) (w : World) (h : ¬ (0 ≤ n ∧ n ≤ most)) : Calls Try.prog 93 #[.int .i64 n, .int .i64 most] w fun e w' => e = .returned (.bool false) ∧ w = w' := by
  have h2 := within_any n most w
  rwa [show decide (0 ≤ n ∧ n ≤ most) = false by simpa using h] at h2
set_option maxRecDepth 100000 in
set_option maxHeartbeats 1600000 in
theorem numbers_any (b : Bat) (a : Option Addr) (cap : Nat) (w : World) (hl : b.recs.length ≤ maxLen) : Calls Try.prog 81 #[.agg #[.int .i64 b.base, .int .i64 b.count, .int .i64 b.producer, .int .i64 b.epoch, .int .i64 b.seq, .slice a b.recs.length cap]] w fun e w' =>
    e = .returned (.int .i64 (batNum b)) ∧ More w w' := by
  have HB : Hid (batNum b = if b.count < 1 ∨ 32 < b.count ∨ b.base < 0 ∨ 4611686018427387903 - b.count < b.base then 11
    else if b.producer < 0 ∨ 1099511627776 < b.producer ∨ b.epoch < 0 ∨ 32767 < b.epoch ∨ b.seq < 0 ∨ 2147483647 < b.seq then 11
    else if b.producer = 0 ∧ (b.epoch ≠ 0 ∨ b.seq ≠ 0) then 4
    else if b.count < b.recs.length then 5 else 0) := Lib.hid rfl
  generalize batNum b = R at HB ⊢
  obtain ⟨base, count, producer, epoch, seq, recs⟩ := b
  dsimp only at HB hl ⊢
  unfold maxLen at hl
  generalize recs.length = n at HB hl ⊢
  by_cases h1 : 1 ≤ count ∧ count ≤ 32
  · obtain ⟨h1, h2⟩ := h1
    by_cases h3 : 0 ≤ base ∧ base ≤ 4611686018427387903 - count
    · by_cases h4 : 0 ≤ producer ∧ producer ≤ 1099511627776
      · by_cases h5 : 0 ≤ epoch ∧ epoch ≤ 32767
        · by_cases h6 : 0 ≤ seq ∧ seq ≤ 2147483647
          · have k3 := fun w => within_yes base (4611686018427387903 - count) w h3.1 h3.2
            have k4 := fun w => within_yes producer 1099511627776 w h4.1 h4.2
            have k5 := fun w => within_yes epoch 32767 w h5.1 h5.2
            have k6 := fun w => within_yes seq 2147483647 w h6.1 h6.2
            have HB2 : Hid (R = if producer = 0 ∧ (epoch ≠ 0 ∨ seq ≠ 0) then 4 else if count < n then 5 else 0) := Lib.hid (by rw [HB.out, if_neg (by omega), if_neg (by omega)])
            clear HB h3 h4 h5 h6
            refine calls_wd ?_
            go_enter Try.func81, Try.ntmps81
            go_wp2_with (first | (go_at_call 93; ((with_reducible refine (k3 _).mono ?_); rintro e w1 ⟨rfl, rfl⟩)) | (go_at_call 93; ((with_reducible refine (k4 _).mono ?_); rintro e w1 ⟨rfl, rfl⟩)) | (go_at_call 93; ((with_reducible refine (k5 _).mono ?_); rintro e w1 ⟨rfl, rfl⟩)) | (go_at_call 93; ((with_reducible refine (k6 _).mono ?_); rintro e w1 ⟨rfl, rfl⟩)))
            all_goals (go_ret; refine ⟨ret_i ?_, more_wd _ _ _⟩; rw [HB2.out]; (repeat' split) <;> simp_all <;> omega)
          · have HB2 : Hid (R = 11) := Lib.hid (by rw [HB.out]; rw [if_neg (by omega), if_pos (by omega)])
            have k3 := fun w => within_yes base (4611686018427387903 - count) w h3.1 h3.2
            have k4 := fun w => within_yes producer 1099511627776 w h4.1 h4.2
            have k5 := fun w => within_yes epoch 32767 w h5.1 h5.2
            have k6 := fun w => within_no seq 2147483647 w h6
            clear h3 h4 h5 h6
            clear HB
            refine calls_wd ?_
            go_enter Try.func81, Try.ntmps81
            go_wp2_with (first | (go_at_call 93; ((with_reducible refine (k3 _).mono ?_); rintro e w1 ⟨rfl, rfl⟩)) | (go_at_call 93; ((with_reducible refine (k4 _).mono ?_); rintro e w1 ⟨rfl, rfl⟩)) | (go_at_call 93; ((with_reducible refine (k5 _).mono ?_); rintro e w1 ⟨rfl, rfl⟩)) | (go_at_call 93; ((with_reducible refine (k6 _).mono ?_); rintro e w1 ⟨rfl, rfl⟩)))
            all_goals (go_ret; exact ⟨ret_i HB2.out.symm, more_wd _ _ _⟩)
        · have HB2 : Hid (R = 11) := Lib.hid (by rw [HB.out]; rw [if_neg (by omega), if_pos (by omega)])
          have k3 := fun w => within_yes base (4611686018427387903 - count) w h3.1 h3.2
          have k4 := fun w => within_yes producer 1099511627776 w h4.1 h4.2
          have k5 := fun w => within_no epoch 32767 w h5
          clear h3 h4 h5
          clear HB
          refine calls_wd ?_
          go_enter Try.func81, Try.ntmps81
          go_wp2_with (first | (go_at_call 93; ((with_reducible refine (k3 _).mono ?_); rintro e w1 ⟨rfl, rfl⟩)) | (go_at_call 93; ((with_reducible refine (k4 _).mono ?_); rintro e w1 ⟨rfl, rfl⟩)) | (go_at_call 93; ((with_reducible refine (k5 _).mono ?_); rintro e w1 ⟨rfl, rfl⟩)) | (go_at_call 93; ((with_reducible refine (k6 _).mono ?_); rintro e w1 ⟨rfl, rfl⟩)))
          all_goals (go_ret; exact ⟨ret_i HB2.out.symm, more_wd _ _ _⟩)
      · have HB2 : Hid (R = 11) := Lib.hid (by rw [HB.out]; rw [if_neg (by omega), if_pos (by omega)])
        have k3 := fun w => within_yes base (4611686018427387903 - count) w h3.1 h3.2
        have k4 := fun w => within_no producer 1099511627776 w h4
        clear h3 h4
        clear HB
        refine calls_wd ?_
        go_enter Try.func81, Try.ntmps81
        go_wp2_with (first | (go_at_call 93; ((with_reducible refine (k3 _).mono ?_); rintro e w1 ⟨rfl, rfl⟩)) | (go_at_call 93; ((with_reducible refine (k4 _).mono ?_); rintro e w1 ⟨rfl, rfl⟩)) | (go_at_call 93; ((with_reducible refine (k5 _).mono ?_); rintro e w1 ⟨rfl, rfl⟩)) | (go_at_call 93; ((with_reducible refine (k6 _).mono ?_); rintro e w1 ⟨rfl, rfl⟩)))
        all_goals (go_ret; exact ⟨ret_i HB2.out.symm, more_wd _ _ _⟩)
    · have HB2 : Hid (R = 11) := Lib.hid (by rw [HB.out]; rw [if_pos (by omega)])
      have k3 := fun w => within_no base (4611686018427387903 - count) w h3
      clear h3
      clear HB
      refine calls_wd ?_
      go_enter Try.func81, Try.ntmps81
      go_wp2_with (first | (go_at_call 93; ((with_reducible refine (k3 _).mono ?_); rintro e w1 ⟨rfl, rfl⟩)) | (go_at_call 93; ((with_reducible refine (k4 _).mono ?_); rintro e w1 ⟨rfl, rfl⟩)) | (go_at_call 93; ((with_reducible refine (k5 _).mono ?_); rintro e w1 ⟨rfl, rfl⟩)) | (go_at_call 93; ((with_reducible refine (k6 _).mono ?_); rintro e w1 ⟨rfl, rfl⟩)))
      all_goals (go_ret; exact ⟨ret_i HB2.out.symm, more_wd _ _ _⟩)
  · have HB2 : Hid (R = 11) := Lib.hid (by rw [HB.out]; rw [if_pos (by omega)])
    clear HB
    have h1' : count < 1 ∨ (1 ≤ count ∧ 32 < count) := by omega
    clear h1
    rcases h1' with h1 | ⟨h1, h2⟩
    all_goals
      refine calls_wd ?_
      go_enter Try.func81, Try.ntmps81
      go_wp2
      all_goals (go_ret; exact ⟨ret_i HB2.out.symm, more_wd _ _ _⟩)
set_option maxRecDepth 100000 in
set_option maxHeartbeats 400000 in
theorem head_any (b : Bat) (a : Option Addr) (cap : Nat) (w : World) (hl : b.recs.length ≤ maxLen) : Calls Try.prog 94 #[.agg #[.int .i64 b.base, .int .i64 b.count, .int .i64 b.producer, .int .i64 b.epoch, .int .i64 b.seq, .slice a b.recs.length cap]] w fun e w' =>
    e = .returned (.agg #[.int .i64 b.base, .int .i64 b.count, .int .i64 b.producer, .int .i64 b.epoch, .int .i64 b.seq, .int .i64 b.recs.length]) ∧ More w w' := by
  obtain ⟨base, count, producer, epoch, seq, recs⟩ := b
  dsimp only at hl ⊢
  generalize recs.length = n at hl ⊢
  refine calls_wd ?_
  go_enter Try.func94, Try.ntmps94
  go_wp2
  refine bodyPost_ret (v := .agg #[.int .i64 base, .int .i64 count, .int .i64 producer, .int .i64 epoch, .int .i64 seq, .int .i64 n]) (by simp [results, Try.results94, go_sem]) rfl ⟨rfl, more_wd _ _ _⟩
/-- The blocks of a boxed batch. -/
abbrev bbox (base count producer epoch seq : Int) (a : Option Addr) (n cap : Nat) : Array Obj := #[.cells #[.int .i64 base, .int .i64 count, .int .i64 producer, .int .i64 epoch, .int .i64 seq, .slice a n cap] 67]
theorem index6_0 (a b c d e f : Value) (W : World) : (Instr.index 139 (.agg #[a, b, c, d, e, f]) (.int .i64 0)).run Try.prog W = .ok a W := by kernel_rfl
theorem index6_1 (a b c d e f : Value) (W : World) : (Instr.index 139 (.agg #[a, b, c, d, e, f]) (.int .i64 1)).run Try.prog W = .ok b W := by kernel_rfl
theorem index6_2 (a b c d e f : Value) (W : World) : (Instr.index 139 (.agg #[a, b, c, d, e, f]) (.int .i64 2)).run Try.prog W = .ok c W := by kernel_rfl
theorem index6_3 (a b c d e f : Value) (W : World) : (Instr.index 139 (.agg #[a, b, c, d, e, f]) (.int .i64 3)).run Try.prog W = .ok d W := by kernel_rfl
theorem index6_4 (a b c d e f : Value) (W : World) : (Instr.index 139 (.agg #[a, b, c, d, e, f]) (.int .i64 4)).run Try.prog W = .ok e W := by kernel_rfl
theorem index6_5 (a b c d e f : Value) (W : World) : (Instr.index 139 (.agg #[a, b, c, d, e, f]) (.int .i64 5)).run Try.prog W = .ok f W := by kernel_rfl
attribute [local go_sem] index6_0 index6_1 index6_2 index6_3 index6_4 index6_5
set_option maxRecDepth 100000 in
set_option maxHeartbeats 3200000 in
theorem lay_bat (b : Bat) (a : Option Addr) (cap : Nat) (w : World) (hr : RecsAt w a b.recs) (hl : b.recs.length ≤ 1000000) (hwf : b.wf) : Calls Try.prog 83 #[.agg #[.int .i64 b.base, .int .i64 b.count, .int .i64 b.producer, .int .i64 b.epoch, .int .i64 b.seq, .slice a b.recs.length cap]] w fun e w' =>
    ∃ v, e = .returned v ∧ BMade w w' v (batLay b) := by
  have hhd := fun W => head_any b a cap W (by unfold maxLen; omega)
  have HL : Hid (batLay b = numsB (batHead b) ++ recsB b.recs) := Lib.hid rfl
  have hwfs := head_wf hwf hl
  have HH : Hid (batHead b = [b.base, b.count, b.producer, b.epoch, b.seq, (b.recs.length : Int)]) := Lib.hid rfl
  obtain ⟨base, count, producer, epoch, seq, recs⟩ := b
  dsimp only at hr hl hhd HL HH hwfs ⊢
  have HR := Lib.hid hr
  have hNL := numsB_len _ hwfs
  have HLL := Lib.hid (recsB_len recs)
  rw [HH.out] at hwfs hNL HL
  simp only [List.length_cons, List.length_nil] at hNL
  have W := Lib.hid hwfs
  clear hr hwf hwfs
  obtain ⟨⟨g1, h1⟩, ⟨g2, h2⟩, ⟨g3, h3⟩, ⟨g4, h4⟩, ⟨g5, h5⟩, ⟨g6, h6⟩⟩ : I64 base ∧ I64 count ∧ I64 producer ∧ I64 epoch ∧ I64 seq ∧ I64 (recs.length : Int) := ⟨W.out _ (by simp), W.out _ (by simp), W.out _ (by simp), W.out _ (by simp), W.out _ (by simp), W.out _ (by simp)⟩
  have pl1 := put_len g1 h1
  have pl2 := put_len g2 h2
  have pl3 := put_len g3 h3
  have pl4 := put_len g4 h4
  have pl5 := put_len g5 h5
  have pl6 := put_len g6 h6
  refine calls_wd ?_
  go_enter Try.func83, Try.ntmps83
  go_wp2_with (first | (go_at_call 94; ((with_reducible refine (hhd _).mono ?_); rintro e w1 ⟨rfl, x1, n1, rfl⟩)))
  refine wp_loop_rounds 7 ?_
  rw [rounds_succ]
  go_wp2_with (first | (go_at_call 43; ((with_reducible refine (put_any base g1 h1 _).mono ?_); rintro e w1 ⟨u1, rfl, x1⟩; obtain ⟨p1, rfl, hs1⟩ := x1.wd; clear x1)) | (at_builtin; refine at_append_nil rfl _ _ rfl rfl rfl hs1 (by omega) ?_; clear hs1; intro v1 m1 hr1))
  rw [rounds_succ]
  go_wp2_with (first | (go_at_call 43; ((with_reducible refine (put_any count g2 h2 _).mono ?_); rintro e w1 ⟨u2, rfl, x1⟩; obtain ⟨p2, rfl, hs2⟩ := x1.wd; clear x1)) | (at_builtin; refine at_append rfl _ _ rfl rfl hr1 rfl hs2 (by (try simp only [List.length_append]); omega) ?_; clear hr1 hs2; intro v2 m2 hr2))
  rw [rounds_succ]
  go_wp2_with (first | (go_at_call 43; ((with_reducible refine (put_any producer g3 h3 _).mono ?_); rintro e w1 ⟨u3, rfl, x1⟩; obtain ⟨p3, rfl, hs3⟩ := x1.wd; clear x1)) | (at_builtin; refine at_append rfl _ _ rfl rfl hr2 rfl hs3 (by (try simp only [List.length_append]); omega) ?_; clear hr2 hs3; intro v3 m3 hr3))
  rw [rounds_succ]
  go_wp2_with (first | (go_at_call 43; ((with_reducible refine (put_any epoch g4 h4 _).mono ?_); rintro e w1 ⟨u4, rfl, x1⟩; obtain ⟨p4, rfl, hs4⟩ := x1.wd; clear x1)) | (at_builtin; refine at_append rfl _ _ rfl rfl hr3 rfl hs4 (by (try simp only [List.length_append]); omega) ?_; clear hr3 hs4; intro v4 m4 hr4))
  rw [rounds_succ]
  go_wp2_with (first | (go_at_call 43; ((with_reducible refine (put_any seq g5 h5 _).mono ?_); rintro e w1 ⟨u5, rfl, x1⟩; obtain ⟨p5, rfl, hs5⟩ := x1.wd; clear x1)) | (at_builtin; refine at_append rfl _ _ rfl rfl hr4 rfl hs5 (by (try simp only [List.length_append]); omega) ?_; clear hr4 hs5; intro v5 m5 hr5))
  rw [rounds_succ]
  go_wp2_with (first | (go_at_call 43; ((with_reducible refine (put_any (recs.length : Int) g6 h6 _).mono ?_); rintro e w1 ⟨u6, rfl, x1⟩; obtain ⟨p6, rfl, hs6⟩ := x1.wd; clear x1)) | (at_builtin; refine at_append rfl _ _ rfl rfl hr5 rfl hs6 (by (try simp only [List.length_append]); omega) ?_; clear hr5 hs6; intro v6 m6 hr6))
  rw [rounds_succ]
  go_wp2
  have hN : (put base ++ put count ++ put producer ++ put epoch ++ put seq ++ put (recs.length : Int)).length ≤ 60 := by simp only [List.length_append]; omega
  have HN : Hid (batLay ⟨base, count, producer, epoch, seq, recs⟩ = (put base ++ put count ++ put producer ++ put epoch ++ put seq ++ put (recs.length : Int)) ++ recsB recs) := Lib.hid (by rw [HL.out]; simp [numsB])
  generalize put base ++ put count ++ put producer ++ put epoch ++ put seq ++ put (recs.length : Int) = N at hr6 hN HN
  clear HL HH hNL pl1 pl2 pl3 pl4 pl5 pl6
  go_loopw [3, 23] (fun v i wr => ∃ (k : Nat) (m : Ext), k ≤ recs.length ∧ i = .int .i64 k ∧ BRow w [x1, bbox base count producer epoch seq a recs.length cap] m.e v (N ++ recsB (recs.take k)) ∧ wr = wd w [m.e, x1, bbox base count producer epoch seq a recs.length cap] m.n) (fun _ i _ => recs.length - (intOf i).toNat)
  case atStart => exact ⟨0, m6, Nat.zero_le _, rfl, by simpa [recsB] using hr6, rfl⟩
  case round =>
    obtain ⟨k, m, hk, rfl, hrow, rfl⟩ := hrel
    by_cases hlt : k < recs.length
    · obtain ⟨x, hx⟩ : ∃ x, recs[k]? = some x := ⟨_, List.getElem?_eq_getElem hlt⟩
      obtain ⟨bb, off, rfl, hb, c0, c1, c2, c3, c4, c5⟩ := recs_at HR.out k x hx
      have hT : Hid (recsB (recs.take (k + 1)) = recsB (recs.take k) ++ (recPut x).1) := Lib.hid (by rw [take_get recs k x hx]; exact recsB_snoc _ _)
      have hl1 := recPut_len x
      have hl2 := recsB_len (recs.take k)
      have hl3 : (recs.take k).length ≤ 1000000 := by rw [List.length_take]; omega
      obtain ⟨d, t, ky, key, dd, val⟩ := x
      dsimp only at c0 c1 c2 c3 c4 c5
      clear hx hr6
      go_wp2_with (first
        | (go_at_call 95; ((with_reducible refine (recput_x d t ky dd key val _).mono ?_); rintro e w2 ⟨u9, rfl, hm9⟩; obtain ⟨p9, rfl, hs9⟩ := hm9.wd; clear hm9))
        | (at_builtin; refine at_append2 rfl _ _ rfl rfl hrow rfl hs9 (by simp only [List.length_append]; omega) ?_; clear hrow hs9; intro v' m' hr'))
      go_roundw
      case rel => exact ⟨k + 1, m', by omega, by go_num, by rw [hT.out, ← List.append_assoc]; exact hr', rfl⟩
      case measure => simp [intOf]; omega
    · have hT : Hid (batLay ⟨base, count, producer, epoch, seq, recs⟩ = N ++ recsB (recs.take k)) := Lib.hid (by rw [List.take_of_length_le (by omega)]; exact HN.out)
      go_wp2
      go_ret
      exact ⟨_, rfl, fin3 hrow hT.out.symm⟩
set_option maxRecDepth 100000 in
set_option maxHeartbeats 3200000 in
theorem check_bat (b : Bat) (a : Option Addr) (cap : Nat) (w : World) (hr : RecsAt w a b.recs) (hl : b.recs.length ≤ maxLen) : Calls Try.prog 55 #[.agg #[.int .i64 b.base, .int .i64 b.count, .int .i64 b.producer, .int .i64 b.epoch, .int .i64 b.seq, .slice a b.recs.length cap]] w fun e w' =>
    e = .returned (.int .i64 (batCheck b)) ∧ More w w' := by
  have hnb := fun W => numbers_any b a cap W hl
  have HC : Hid (batCheck b = if batNum b ≠ 0 then batNum b else if chk (-1) b.count b.recs ≠ 0 then chk (-1) b.count b.recs else if 8192 < (batLay b).length then 5 else 0) := Lib.hid rfl
  by_cases hn : batNum b = 0
  · have hwf := Bat.wf_ok hn
    have h32 := (batNum_ok hn).2.2.2.2.2.2.2.2.2.2
    have hlay := fun W h => lay_bat b a cap W h (by omega) hwf
    rw [hn] at hnb
    have HC2 : Hid (batCheck b = if chk (-1) b.count b.recs ≠ 0 then chk (-1) b.count b.recs else if 8192 < (batLay b).length then 5 else 0) := Lib.hid (by rw [HC.out, if_neg (by rw [hn]; simp)])
    clear hn hwf hl HC
    generalize batCheck b = R at HC2 ⊢
    generalize batLay b = LL at hlay HC2
    obtain ⟨base, count, producer, epoch, seq, recs⟩ := b
    dsimp only at hr hnb hlay HC2 h32 ⊢
    have HR := Lib.hid hr
    have HLAY := Lib.hid hlay
    clear hr hlay
    refine calls_wd ?_
    go_enter Try.func55, Try.ntmps55
    go_wp2_with (first | (go_at_call 81; ((with_reducible refine (hnb _).mono ?_); rintro e w1 ⟨rfl, x1, n1, rfl⟩)))
    go_loopw [4, 16] (fun v i wr => ∃ (k : Nat) (La : Int) (m : Ext), k ≤ recs.length ∧ i = .int .i64 k ∧ v = .int .i64 La ∧ Hid (chk (-1) count recs = chk La count (recs.drop k)) ∧ wr = wd w [m.e, bbox base count producer epoch seq a recs.length cap] m.n) (fun _ i _ => recs.length - (intOf i).toNat)
    case atStart => exact ⟨0, -1, ⟨x1, n1⟩, Nat.zero_le _, rfl, rfl, Lib.hid rfl, rfl⟩
    case round =>
      obtain ⟨k, La, m, hk, rfl, rfl, HK, rfl⟩ := hrel
      by_cases hlt : k < recs.length
      · obtain ⟨x, hx⟩ : ∃ x, recs[k]? = some x := ⟨_, List.getElem?_eq_getElem hlt⟩
        obtain ⟨bb, off, rfl, hb, c0, c1, c2, c3, c4, c5⟩ := recs_at HR.out k x hx
        have HS : Hid (chk (-1) count recs = if recCheck x ≠ 0 then recCheck x else if x.delta ≤ La ∨ count ≤ x.delta then 16 else chk x.delta count (recs.drop (k + 1))) := Lib.hid (by rw [HK.out, drop_at recs k x hx, chk_cons])
        clear hx HK
        obtain ⟨d, t, ky, key, dd, val⟩ := x
        dsimp only at c0 c1 c2 c3 c4 c5 HS
        have hck := fun W => rcheck_x d t ky dd key val W
        generalize recCheck ⟨d, t, ky, key, dd, val⟩ = E at hck HS
        by_cases hE : E = 0
        · subst hE
          by_cases h1 : d ≤ La
          · have HX : Hid (R = 16) := Lib.hid (by rw [HC2.out, HS.out]; simp [h1])
            go_wp2_with (first | (go_at_call 82; ((with_reducible refine (hck _).mono ?_); rintro e w1 ⟨rfl, x1, n1, rfl⟩)))
            all_goals (go_ret; exact ⟨ret_i HX.out.symm, more_wd _ _ _⟩)
          · by_cases h2 : count ≤ d
            · have HX : Hid (R = 16) := Lib.hid (by rw [HC2.out, HS.out]; simp [h2])
              go_wp2_with (first | (go_at_call 82; ((with_reducible refine (hck _).mono ?_); rintro e w1 ⟨rfl, x1, n1, rfl⟩)))
              all_goals (go_ret; exact ⟨ret_i HX.out.symm, more_wd _ _ _⟩)
            · have h1' : decide (d ≤ La) = false := by simpa using h1
              have h2' : decide (count ≤ d) = false := by simpa using h2
              have HX : Hid (chk (-1) count recs = chk d count (recs.drop (k + 1))) := Lib.hid (by rw [HS.out, if_neg (by simp), if_neg (by omega)])
              go_wp2_with (first | (go_at_call 82; ((with_reducible refine (hck _).mono ?_); rintro e w1 ⟨rfl, x1, n1, rfl⟩)))
              all_goals
                go_roundw
                case rel => exact ⟨k + 1, d, ⟨_, _⟩, by omega, by go_num, rfl, HX, by rw [wd_merge, wd_merge]⟩
                case measure => simp [intOf]; omega
        · have hne : (E == 0) = false := by rw [beq_eq_false_iff_ne]; exact hE
          have HX : Hid (R = E) := Lib.hid (by rw [HC2.out, HS.out]; simp [hE])
          go_wp2_with (first | (go_at_call 82; ((with_reducible refine (hck _).mono ?_); rintro e w1 ⟨rfl, x1, n1, rfl⟩)))
          go_ret
          exact ⟨ret_i HX.out.symm, more_wd _ _ _⟩
      · have HK0 : Hid (chk (-1) count recs = 0) := Lib.hid (by rw [HK.out, List.drop_eq_nil_of_le (by omega)]; rfl)
        have HX : Hid (R = if 8192 < LL.length then 5 else 0) := Lib.hid (by rw [HC2.out, HK0.out]; simp)
        clear HK
        by_cases h8 : 8192 < (LL.length : Int)
        all_goals
          go_wp2_with (first | (go_at_call 83; ((with_reducible refine (HLAY.out _ (HR.out.more (more_wd _ _ _))).mono ?_); rintro e w1 ⟨x0, rfl, x1⟩; obtain ⟨m9, rfl, hr9⟩ := x1.wd; clear x1; obtain ⟨a9, c9, rfl⟩ := rowIn_slice hr9)))
          all_goals (go_ret; exact ⟨ret_i (by rw [HX.out]; split <;> omega), more_wd _ _ _⟩)
  · have HX : Hid (batCheck b = batNum b) := Lib.hid (by rw [HC.out, if_pos hn])
    generalize batCheck b = R at HX ⊢
    generalize batNum b = E at *
    have hne : (E == 0) = false := by rw [beq_eq_false_iff_ne]; exact hn
    clear HC
    obtain ⟨base, count, producer, epoch, seq, recs⟩ := b
    dsimp only at hr hnb hl ⊢
    unfold maxLen at hl
    generalize recs.length = n at hnb hl ⊢
    clear hr
    refine calls_wd ?_
    go_enter Try.func55, Try.ntmps55
    go_wp2_with (first | (go_at_call 81; ((with_reducible refine (hnb _).mono ?_); rintro e w1 ⟨rfl, x1, n1, rfl⟩)))
    go_ret
    exact ⟨ret_i HX.out.symm, more_wd _ _ _⟩
end Go.Proofs.Ytlanghikmccmbaa
/- batch: whether two batches are one (program and reference). -/
namespace Go.Proofs.Ytlanghikmccmbaa
open Go.ChangeShapes Go.WideShapes Go.ChangeAt Go.RowKit
set_option linter.unusedVariables false
set_option linter.unusedSimpArgs false

theorem bat_eq (x y : Bat) : x = y ↔ x.base = y.base ∧ x.count = y.count ∧ x.producer = y.producer ∧ x.epoch = y.epoch ∧ x.seq = y.seq ∧ x.recs = y.recs := by
  cases x; cases y; simp
instance (x y : Bat) : Decidable (x = y) := decidable_of_iff _ (bat_eq x y).symm
instance : DecidableEq Bat := fun x y => inferInstance
end Go.Proofs.Ytlanghikmccmbaa
/- batch, plain: what is laid is read. -/
namespace Go.Proofs.Ytlanghikmccmbaa
open Go.RowKit
set_option linter.unusedVariables false
set_option linter.unusedSimpArgs false

/-- What is left behind k numbers; the k-th. -/
def numSt : Nat → List UInt8 → Int → List UInt8 × Int
  | 0, l, e => (l, e)
  | k + 1, l, e => (numL (numSt k l e).1 (numSt k l e).2, numE (numSt k l e).1 (numSt k l e).2)
def numAt (k : Nat) (l : List UInt8) (e : Int) : Int := numV (numSt k l e).1 (numSt k l e).2
/-- What is left behind k records; the first n. -/
def recSt : Nat → List UInt8 → Int → List UInt8 × Int
  | 0, l, e => (l, e)
  | k + 1, l, e => ((recGet (recSt k l e).1 (recSt k l e).2).1, (recGet (recSt k l e).1 (recSt k l e).2).2.1)
def recAt (k : Nat) (l : List UInt8) (e : Int) : List UInt8 × Int × Rec × Int := recGet (recSt k l e).1 (recSt k l e).2
def recsOf (n : Nat) (l : List UInt8) (e : Int) : List Rec := (List.range n).map fun k => (recAt k l e).2.2.1
theorem chk_all : ∀ (l : List Rec) (last count : Int), chk last count l = 0 → ∀ r ∈ l, recCheck r = 0
  | [], _, _, _ => by simp
  | r :: rs, last, count, h => by
    rw [chk_cons] at h
    by_cases h1 : recCheck r = 0
    · rw [if_neg (by rw [h1]; simp)] at h
      split at h
      · simp at h
      · intro x hx
        rcases List.mem_cons.1 hx with rfl | hx
        · exact h1
        · exact chk_all rs _ _ h x hx
    · rw [if_pos h1] at h; exact absurd h h1
def batN (l : List UInt8) : Nat := (max 0 (min (numAt 5 l 0) 32)).toNat
def batDec (l : List UInt8) : Bat := ⟨numAt 0 l 0, numAt 1 l 0, numAt 2 l 0, numAt 3 l 0, numAt 4 l 0, recsOf (batN l) (numSt 6 l 0).1 (numSt 6 l 0).2⟩
/-- A batch off bytes, and the error. -/
def batGet (l : List UInt8) : Bat × Int := if batPut (batDec l) = (l, 0) then (batDec l, 0) else (Bat.zero, 4)
end Go.Proofs.Ytlanghikmccmbaa
/- Small batches: told yes or no. -/
namespace Go.Proofs.Ytlanghikmccmbaa
open Go.ChangeShapes Go.WideShapes Go.ChangeAt Go.RowKit
set_option linter.unusedVariables false
set_option linter.unusedSimpArgs false

/-- Yes or no, handed back. -/
structure BoolRet (w w' : World) (x : Ending) : Prop where
  out : ∃ b, x = .returned (.bool b) ∧ More w w'
theorem bret_wd (w : World) (L : List (Array Obj)) (n : Nat) (b : Bool) : BoolRet w (wd w L n) (.returned (.bool b)) := ⟨b, rfl, more_wd _ _ _⟩
set_option maxRecDepth 100000 in
set_option maxHeartbeats 1600000 in
theorem light_rec (delta time : Int) (keyed dead : Bool) (key value : List UInt8) (w : World) : Calls Try.prog 80 #[.agg #[.int .i64 delta, .int .i64 time, .bool keyed, .string (str key), .bool dead, .string (str value)]] w fun x w' => BoolRet w w' x := by
  refine calls_wd ?_
  go_enter Try.func80, Try.ntmps80
  go_wp2
  all_goals (go_ret; exact bret_wd _ _ _ _)
set_option maxRecDepth 100000 in
set_option maxHeartbeats 1600000 in
theorem light_bat (b : Bat) (a : Option Addr) (cap : Nat) (w : World) (hr : RecsAt w a b.recs) (hm : b.recs.length ≤ maxLen) :
    Calls Try.prog 54 #[.agg #[.int .i64 b.base, .int .i64 b.count, .int .i64 b.producer, .int .i64 b.epoch, .int .i64 b.seq, .slice a b.recs.length cap]] w fun x w' => BoolRet w w' x := by
  have HR := Lib.hid hr
  obtain ⟨base, count, producer, epoch, seq, recs⟩ := b
  dsimp only at HR hm ⊢
  unfold maxLen at hm
  clear hr
  by_cases h40 : 40 < recs.length
  · refine calls_wd ?_
    go_enter Try.func54, Try.ntmps54
    go_wp2
    go_ret
    exact bret_wd _ _ _ _
  · have h41 : (recs.length : Int) ≤ 40 := by omega
    refine calls_wd ?_
    go_enter Try.func54, Try.ntmps54
    go_wp2
    go_loopw [3] (fun i wr => ∃ (k : Nat) (m : Ext), k ≤ recs.length ∧ i = .int .i64 k ∧ wr = wd w [m.e, bbox base count producer epoch seq a recs.length cap] m.n) (fun i _ => recs.length - (intOf i).toNat)
    case atStart => exact ⟨0, ⟨#[], _⟩, Nat.zero_le _, rfl, by rw [wd_empty]⟩
    case round =>
      obtain ⟨k, m, hk, rfl, rfl⟩ := hrel
      by_cases hlt : k < recs.length
      · obtain ⟨x, hx⟩ : ∃ x, recs[k]? = some x := ⟨_, List.getElem?_eq_getElem hlt⟩
        obtain ⟨bb, off, rfl, hb, c0, c1, c2, c3, c4, c5⟩ := recs_at HR.out k x hx
        obtain ⟨d, t, ky, key, dd, val⟩ := x
        dsimp only at c0 c1 c2 c3 c4 c5
        clear hx
        go_wp2_with (first | (go_at_call 80; ((with_reducible refine (light_rec d t ky dd key val _).mono ?_); rintro e w2 hbr; obtain ⟨bl, rfl, x9, n9, rfl⟩ := hbr.out; cases bl)))
        · go_ret
          exact bret_wd _ _ _ _
        · go_roundw
          case rel => exact ⟨k + 1, ⟨_, _⟩, by omega, by go_num, wd_merge _ _ _ _ _⟩
          case measure => simp [intOf]; omega
      · go_wp2
        go_ret
        exact bret_wd _ _ _ _
end Go.Proofs.Ytlanghikmccmbaa
