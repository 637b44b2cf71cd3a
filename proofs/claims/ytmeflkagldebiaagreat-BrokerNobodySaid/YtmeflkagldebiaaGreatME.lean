/- slices.Equal: at bytes, at records; whether two batches are one. -/
import Derived.Test.YtmeflkagldebiaaGreatMC
import Derived.Test.YtmeflkagldebiaaGreatMD
import Derived.Laws.StructEq
import Derived.ChangeKeysEq
namespace Go.Proofs.YtmeflkagldebiaaGreat
open Go.ChangeShapes Go.WideShapes Go.ChangeAt Go.RowKit
set_option linter.unusedVariables false
set_option linter.unusedSimpArgs false

theorem eq_of_take {α : Type} {a b : List α} (hl : a.length = b.length) (h : ∀ j, j < a.length → a[j]? = b[j]?) : a = b := by
  apply List.ext_getElem?
  intro i
  by_cases hi : i < a.length
  · exact h i hi
  · rw [List.getElem?_eq_none (by omega), List.getElem?_eq_none (by omega)]
set_option maxRecDepth 100000 in
set_option maxHeartbeats 1600000 in
theorem eqbytes_any (v1 v2 : Value) (l1 l2 : List UInt8) (w : World) (h1 : RB w v1 l1) (h2 : RB w v2 l2) : Calls Tryz.prog 139 #[v1, v2] w fun e w' => e = .returned (.bool (decide (l1 = l2))) ∧ More w w' := by
  have H1 := Lib.hid h1
  have H2 := Lib.hid h2
  obtain ⟨a1, c1, rfl, hc1, hm1, k1⟩ := h1
  obtain ⟨a2, c2, rfl, hc2, hm2, k2⟩ := h2
  have K1 := Lib.hid k1
  have K2 := Lib.hid k2
  clear k1 k2
  unfold maxLen at hm1 hm2
  by_cases hl : l1.length = l2.length
  · have HL := Lib.hid hl
    have hlen : l1.length ≤ 9223372036854775807 := by omega
    rw [← hl]
    clear hl hc1 hc2 hm1 hm2
    refine calls_wd ?_
    go_enter Tryz.func139, Tryz.ntmps139
    go_wp2
    go_loopw [13] (fun i wr => ∃ (k : Nat) (m : Ext), k ≤ l1.length ∧ i = .int .i64 k ∧ (∀ j, j < k → l1[j]? = l2[j]?) ∧ wr = wd w [m.e] m.n) (fun i _ => l1.length - (intOf i).toNat)
    case atStart => exact ⟨0, ⟨#[], w.drawn⟩, Nat.zero_le _, rfl, fun j hj => by omega, (wd_empty _ _ _).symm⟩
    case round =>
      obtain ⟨k, m, hk, rfl, hall, rfl⟩ := hrel
      have HA := Lib.hid hall
      clear hall
      by_cases hlt : k < l1.length
      · obtain ⟨x, hx⟩ : ∃ x, l1[k]? = some x := ⟨_, List.getElem?_eq_getElem hlt⟩
        obtain ⟨y, hy⟩ : ∃ y, l2[k]? = some y := ⟨_, List.getElem?_eq_getElem (by have := HL.out; omega)⟩
        obtain ⟨b1, o1, rfl, hb1, d1⟩ := K1.out (by intro h; subst h; simp at hlt)
        obtain ⟨b2, o2, rfl, hb2, d2⟩ := K2.out (by intro h; subst h; simp at hy)
        have e1 : w.cell? ⟨b1, o1 + k, none⟩ = some (.int .u8 x.toNat) := by rw [d1 k hlt, bc_get, hx]; rfl
        have e2 : w.cell? ⟨b2, o2 + k, none⟩ = some (.int .u8 y.toNat) := by rw [d2 k (by have := HL.out; omega), bc_get, hy]; rfl
        have HX := Lib.hid hx
        have HY := Lib.hid hy
        clear hx hy d1 d2
        have hx8 : x.toNat < 256 := x.toNat_lt
        have hy8 : y.toNat < 256 := y.toNat_lt
        by_cases hxy : x = y
        · subst hxy
          go_wp2
          refine wp_region_wd (by kernel_rfl) (by kernel_rfl) ?_
          repeat (go_big_quiet_step ((fail)))
          refine wpQuiet_nil ?_
          rintro _ ⟨mx, rfl⟩
          go_wp2
          go_roundw
          case rel => exact ⟨k + 1, ⟨_, _⟩, by omega, by go_num, fun j hj => by rcases Nat.lt_or_eq_of_le (Nat.le_of_lt_succ hj) with h | rfl; exact HA.out j h; rw [HX.out, HY.out], by rw [wd_merge]⟩
          case measure => simp [intOf]; omega
        · have hne : ((x.toNat : Int) == (y.toNat : Int)) = false := by rw [beq_eq_false_iff_ne]; intro h; exact hxy (UInt8.toNat_inj.1 (by omega))
          have HN : Hid (decide (l1 = l2) = false) := Lib.hid (by
            rw [decide_eq_false_iff_not]; intro h; subst h
            have h1 := HX.out
            rw [HY.out] at h1
            exact hxy (Option.some.inj h1).symm)
          go_wp2
          refine wp_region_wd (by kernel_rfl) (by kernel_rfl) ?_
          repeat (go_big_quiet_step ((fail)))
          refine wpQuiet_nil ?_
          rintro _ ⟨mx, rfl⟩
          go_wp2
          all_goals (go_ret; exact ⟨by rw [HN.out]; rfl, more_wd _ _ _⟩)
      · have HE : Hid (decide (l1 = l2) = true) := Lib.hid (by rw [decide_eq_true_eq]; exact eq_of_take HL.out (fun j hj => HA.out j (by omega)))
        go_wp2
        go_ret
        exact ⟨by rw [HE.out]; rfl, more_wd _ _ _⟩
  · have hne : ((l1.length : Int) == (l2.length : Int)) = false := by rw [beq_eq_false_iff_ne]; omega
    have HN : Hid (decide (l1 = l2) = false) := Lib.hid (by rw [decide_eq_false_iff_not]; intro h; subst h; exact hl rfl)
    refine calls_wd ?_
    go_enter Tryz.func139, Tryz.ntmps139
    go_wp2
    go_ret
    exact ⟨by rw [HN.out]; rfl, more_wd _ _ _⟩
/-! ### records -/
theorem rec_eq (x y : Rec) : x = y ↔ x.delta = y.delta ∧ x.time = y.time ∧ x.keyed = y.keyed ∧ x.key = y.key ∧ x.dead = y.dead ∧ x.value = y.value := by
  cases x; cases y; simp
instance (x y : Rec) : Decidable (x = y) := decidable_of_iff _ (rec_eq x y).symm
instance : DecidableEq Rec := fun x y => inferInstance
theorem info_rec : (Tryz.prog.info? 136).map (fun i => (i.zero, i.size, i.bytes)) = some (some (.agg #[.int .i64 0, .int .i64 0, .bool false, .string ⟨#[]⟩, .bool false, .string ⟨#[]⟩]), 6, 64) := by kernel_rfl
set_option maxRecDepth 100000 in
theorem rec_neq (d t : Int) (ky : Bool) (k : List UInt8) (dd : Bool) (v : List UInt8) (d' t' : Int) (ky' : Bool) (k' : List UInt8) (dd' : Bool) (v' : List UInt8) (W : World) :
    (binOp .neq 136 (.agg #[.int .i64 d, .int .i64 t, .bool ky, .string (str k), .bool dd, .string (str v)]) (.agg #[.int .i64 d', .int .i64 t', .bool ky', .string (str k'), .bool dd', .string (str v')])).run Tryz.prog W = .ok (.bool (!decide ((⟨d, t, ky, k, dd, v⟩ : Rec) = ⟨d', t', ky', k', dd', v'⟩))) W := by
  rw [run_neq_struct]
  go_simp
  simp only [str_toList]
  (repeat' split) <;> simp_all
set_option maxRecDepth 100000 in
set_option maxHeartbeats 1600000 in
theorem eqrecs_any (a1 a2 : Option Addr) (c1 c2 : Nat) (l1 l2 : List Rec) (w : World) (h1 : RecsAt w a1 l1) (h2 : RecsAt w a2 l2) (hm1 : l1.length ≤ maxLen) (hm2 : l2.length ≤ maxLen) :
    Calls Tryz.prog 191 #[.slice a1 l1.length c1, .slice a2 l2.length c2] w fun e w' => e = .returned (.bool (decide (l1 = l2))) ∧ More w w' := by
  have H1 := Lib.hid h1
  have H2 := Lib.hid h2
  clear h1 h2
  unfold maxLen at hm1 hm2
  by_cases hl : l1.length = l2.length
  · have HL := Lib.hid hl
    rw [← hl]
    clear hl hm2
    refine calls_wd ?_
    go_enter Tryz.func191, Tryz.ntmps191
    go_wp2
    go_loopw [13] (fun i wr => ∃ (k : Nat) (m : Ext), k ≤ l1.length ∧ i = .int .i64 k ∧ (∀ j, j < k → l1[j]? = l2[j]?) ∧ wr = wd w [m.e] m.n) (fun i _ => l1.length - (intOf i).toNat)
    case atStart => exact ⟨0, ⟨#[], w.drawn⟩, Nat.zero_le _, rfl, fun j hj => by omega, (wd_empty _ _ _).symm⟩
    case round =>
      obtain ⟨k, m, hk, rfl, hall, rfl⟩ := hrel
      have HA := Lib.hid hall
      clear hall
      by_cases hlt : k < l1.length
      · obtain ⟨x, hx⟩ : ∃ x, l1[k]? = some x := ⟨_, List.getElem?_eq_getElem hlt⟩
        obtain ⟨y, hy⟩ : ∃ y, l2[k]? = some y := ⟨_, List.getElem?_eq_getElem (by have := HL.out; omega)⟩
        obtain ⟨b1, o1, rfl, hb1, p0, p1, p2, p3, p4, p5⟩ := recs_at H1.out k x hx
        obtain ⟨b2, o2, rfl, hb2, q0, q1, q2, q3, q4, q5⟩ := recs_at H2.out k y hy
        have HX := Lib.hid hx
        have HY := Lib.hid hy
        clear hx hy
        obtain ⟨d, t, ky, key, dd, val⟩ := x
        obtain ⟨d', t', ky', key', dd', val'⟩ := y
        dsimp only at p0 p1 p2 p3 p4 p5 q0 q1 q2 q3 q4 q5
        have QN := fun W => rec_neq d t ky key dd val d' t' ky' key' dd' val' W
        by_cases hxy : (⟨d, t, ky, key, dd, val⟩ : Rec) = ⟨d', t', ky', key', dd', val'⟩
        · rw [show decide ((⟨d, t, ky, key, dd, val⟩ : Rec) = ⟨d', t', ky', key', dd', val'⟩) = true from decide_eq_true hxy] at QN
          have HXY := Lib.hid hxy
          clear hxy
          go_wp2
          refine wp_region_wd (by kernel_rfl) (by kernel_rfl) ?_
          repeat (go_big_quiet_step ((fail)))
          refine wpQuiet_nil ?_
          rintro _ ⟨mx, rfl⟩
          go_wp2
          go_roundw
          case rel => exact ⟨k + 1, ⟨_, _⟩, by omega, by go_num, fun j hj => by rcases Nat.lt_or_eq_of_le (Nat.le_of_lt_succ hj) with h | rfl; exact HA.out j h; rw [HX.out, HY.out, HXY.out], by rw [wd_merge]⟩
          case measure => simp [intOf]; omega
        · rw [show decide ((⟨d, t, ky, key, dd, val⟩ : Rec) = ⟨d', t', ky', key', dd', val'⟩) = false from decide_eq_false hxy] at QN
          have HN : Hid (decide (l1 = l2) = false) := Lib.hid (by
            rw [decide_eq_false_iff_not]; intro h; subst h
            have h1 := HX.out
            rw [HY.out] at h1
            exact hxy (Option.some.inj h1).symm)
          clear hxy
          go_wp2
          refine wp_region_wd (by kernel_rfl) (by kernel_rfl) ?_
          repeat (go_big_quiet_step ((fail)))
          refine wpQuiet_nil ?_
          rintro _ ⟨mx, rfl⟩
          go_wp2
          all_goals (go_ret; exact ⟨by rw [HN.out]; rfl, more_wd _ _ _⟩)
      · have HE : Hid (decide (l1 = l2) = true) := Lib.hid (by rw [decide_eq_true_eq]; exact eq_of_take HL.out (fun j hj => HA.out j (by omega)))
        go_wp2
        go_ret
        exact ⟨by rw [HE.out]; rfl, more_wd _ _ _⟩
  · have hne : ((l1.length : Int) == (l2.length : Int)) = false := by rw [beq_eq_false_iff_ne]; omega
    have HN : Hid (decide (l1 = l2) = false) := Lib.hid (by rw [decide_eq_false_iff_not]; intro h; subst h; exact hl rfl)
    refine calls_wd ?_
    go_enter Tryz.func191, Tryz.ntmps191
    go_wp2
    go_ret
    exact ⟨by rw [HN.out]; rfl, more_wd _ _ _⟩
end Go.Proofs.YtmeflkagldebiaaGreat
/- batch: numbers, lay, Check, Put. -/
namespace Go.Proofs.YtmeflkagldebiaaGreat
open Go.ChangeShapes Go.WideShapes Go.ChangeAt Go.RowKit
set_option linter.unusedVariables false
set_option linter.unusedSimpArgs false

set_option maxHeartbeats 800000 in
theorem within_any (n most : Int) (w : World) : Calls Tryz.prog 361 #[.int .i64 n, .int .i64 most] w fun e w' => e = .returned (.bool (decide (0 ≤ n ∧ n ≤ most))) ∧ w = w' := by
  by_cases h1 : 0 ≤ n
  · by_cases h2 : n ≤ most
    · go_enter Tryz.func361, Tryz.ntmps361
      go_wp2
      go_ret
      exact ⟨ret_b (by simp [h1, h2]), rfl⟩
    · have h2' : decide (n ≤ most) = false := by simpa using h2
      go_enter Tryz.func361, Tryz.ntmps361
      go_wp2
      go_ret
      exact ⟨ret_b (by simp [h1, h2]), rfl⟩
  · have h1' : decide (0 ≤ n) = false := by simpa using h1
    go_enter Tryz.func361, Tryz.ntmps361
    go_wp2
    go_ret
    exact ⟨ret_b (by simp [h1]), rfl⟩
theorem within_yes (n most : Int) (w : World) (h1 : 0 ≤ n) (h2 : n ≤ most) : Calls Tryz.prog 361 #[.int .i64 n, .int .i64 most] w fun e w' => e = .returned (.bool true) ∧ w = w' := by
  have h := within_any n most w
  rwa [show decide (0 ≤ n ∧ n ≤ most) = true by simp [h1, h2]] at h
theorem within_no (n most : Int) (w : World) (h : ¬ (0 ≤ n ∧ n ≤ most)) : Calls Tryz.prog 361 #[.int .i64 n, .int .i64 most] w fun e w' => e = .returned (.bool false) ∧ w = w' := by
  have h2 := within_any n most w
  rwa [show decide (0 ≤ n ∧ n ≤ most) = false by simpa using h] at h2
set_option maxRecDepth 100000 in
set_option maxHeartbeats 1600000 in
theorem numbers_any (b : Bat) (a : Option Addr) (cap : Nat) (w : World) (hl : b.recs.length ≤ maxLen) : Calls Tryz.prog 303 #[.agg #[.int .i64 b.base, .int .i64 b.count, .int .i64 b.producer, .int .i64 b.epoch, .int .i64 b.seq, .slice a b.recs.length cap]] w fun e w' =>
    e = .returned (.int .i64 (batNum b)) ∧ More w w' := by
  have HB : Hid (batNum b = if b.count < 1 ∨ 32 < b.count ∨ b.base < 0 ∨ 4611686018427387903 - b.count < b.base then 11
    else if b.producer < 0 ∨ 1099511627776 < b.producer ∨ b.epoch < 0 ∨ 32767 < b.epoch ∨ b.seq < 0 ∨ 2147483647 < b.seq then 11
    else if b.producer = 0 ∧ (b.epoch ≠ 0 ∨ b.seq ≠ 0) then 4
    else if b.count < b.recs.length then 5 else 0) := Lib.hid rfl
  generalize batNum b = R at HB ⊢
  obtain ⟨base, count, producer, epoch, seq, recs⟩ := b
  dsimp only at HB hl ⊢
  unfold maxLen at hl
  generalize recs.length = n at HB hl ⊢
  by_cases h1 : 1 ≤ count ∧ count ≤ 32
  · obtain ⟨h1, h2⟩ := h1
    by_cases h3 : 0 ≤ base ∧ base ≤ 4611686018427387903 - count
    · by_cases h4 : 0 ≤ producer ∧ producer ≤ 1099511627776
      · by_cases h5 : 0 ≤ epoch ∧ epoch ≤ 32767
        · by_cases h6 : 0 ≤ seq ∧ seq ≤ 2147483647
          · have k3 := fun w => within_yes base (4611686018427387903 - count) w h3.1 h3.2
            have k4 := fun w => within_yes producer 1099511627776 w h4.1 h4.2
            have k5 := fun w => within_yes epoch 32767 w h5.1 h5.2
            have k6 := fun w => within_yes seq 2147483647 w h6.1 h6.2
            have HB2 : Hid (R = if producer = 0 ∧ (epoch ≠ 0 ∨ seq ≠ 0) then 4 else if count < n then 5 else 0) := Lib.hid (by rw [HB.out, if_neg (by omega), if_neg (by omega)])
            clear HB h3 h4 h5 h6
            refine calls_wd ?_
            go_enter Tryz.func303, Tryz.ntmps303
            go_wp2_with (first | (go_at_call 361; ((with_reducible refine (k3 _).mono ?_); rintro e w1 ⟨rfl, rfl⟩)) | (go_at_call 361; ((with_reducible refine (k4 _).mono ?_); rintro e w1 ⟨rfl, rfl⟩)) | (go_at_call 361; ((with_reducible refine (k5 _).mono ?_); rintro e w1 ⟨rfl, rfl⟩)) | (go_at_call 361; ((with_reducible refine (k6 _).mono ?_); rintro e w1 ⟨rfl, rfl⟩)))
            all_goals (go_ret; refine ⟨ret_i ?_, more_wd _ _ _⟩; rw [HB2.out]; (repeat' split) <;> simp_all <;> omega)
          · have HB2 : Hid (R = 11) := Lib.hid (by rw [HB.out]; rw [if_neg (by omega), if_pos (by omega)])
            have k3 := fun w => within_yes base (4611686018427387903 - count) w h3.1 h3.2
            have k4 := fun w => within_yes producer 1099511627776 w h4.1 h4.2
            have k5 := fun w => within_yes epoch 32767 w h5.1 h5.2
            have k6 := fun w => within_no seq 2147483647 w h6
            clear h3 h4 h5 h6
            clear HB
            refine calls_wd ?_
            go_enter Tryz.func303, Tryz.ntmps303
            go_wp2_with (first | (go_at_call 361; ((with_reducible refine (k3 _).mono ?_); rintro e w1 ⟨rfl, rfl⟩)) | (go_at_call 361; ((with_reducible refine (k4 _).mono ?_); rintro e w1 ⟨rfl, rfl⟩)) | (go_at_call 361; ((with_reducible refine (k5 _).mono ?_); rintro e w1 ⟨rfl, rfl⟩)) | (go_at_call 361; ((with_reducible refine (k6 _).mono ?_); rintro e w1 ⟨rfl, rfl⟩)))
            all_goals (go_ret; exact ⟨ret_i HB2.out.symm, more_wd _ _ _⟩)
        · have HB2 : Hid (R = 11) := Lib.hid (by rw [HB.out]; rw [if_neg (by omega), if_pos (by omega)])
          have k3 := fun w => within_yes base (4611686018427387903 - count) w h3.1 h3.2
          have k4 := fun w => within_yes producer 1099511627776 w h4.1 h4.2
          have k5 := fun w => within_no epoch 32767 w h5
          clear h3 h4 h5
          clear HB
          refine calls_wd ?_
          go_enter Tryz.func303, Tryz.ntmps303
          go_wp2_with (first | (go_at_call 361; ((with_reducible refine (k3 _).mono ?_); rintro e w1 ⟨rfl, rfl⟩)) | (go_at_call 361; ((with_reducible refine (k4 _).mono ?_); rintro e w1 ⟨rfl, rfl⟩)) | (go_at_call 361; ((with_reducible refine (k5 _).mono ?_); rintro e w1 ⟨rfl, rfl⟩)) | (go_at_call 361; ((with_reducible refine (k6 _).mono ?_); rintro e w1 ⟨rfl, rfl⟩)))
          all_goals (go_ret; exact ⟨ret_i HB2.out.symm, more_wd _ _ _⟩)
      · have HB2 : Hid (R = 11) := Lib.hid (by rw [HB.out]; rw [if_neg (by omega), if_pos (by omega)])
        have k3 := fun w => within_yes base (4611686018427387903 - count) w h3.1 h3.2
        have k4 := fun w => within_no producer 1099511627776 w h4
        clear h3 h4
        clear HB
        refine calls_wd ?_
        go_enter Tryz.func303, Tryz.ntmps303
        go_wp2_with (first | (go_at_call 361; ((with_reducible refine (k3 _).mono ?_); rintro e w1 ⟨rfl, rfl⟩)) | (go_at_call 361; ((with_reducible refine (k4 _).mono ?_); rintro e w1 ⟨rfl, rfl⟩)) | (go_at_call 361; ((with_reducible refine (k5 _).mono ?_); rintro e w1 ⟨rfl, rfl⟩)) | (go_at_call 361; ((with_reducible refine (k6 _).mono ?_); rintro e w1 ⟨rfl, rfl⟩)))
        all_goals (go_ret; exact ⟨ret_i HB2.out.symm, more_wd _ _ _⟩)
    · have HB2 : Hid (R = 11) := Lib.hid (by rw [HB.out]; rw [if_pos (by omega)])
      have k3 := fun w => within_no base (4611686018427387903 - count) w h3
      clear h3
      clear HB
      refine calls_wd ?_
      go_enter Tryz.func303, Tryz.ntmps303
      go_wp2_with (first | (go_at_call 361; ((with_reducible refine (k3 _).mono ?_); rintro e w1 ⟨rfl, rfl⟩)) | (go_at_call 361; ((with_reducible refine (k4 _).mono ?_); rintro e w1 ⟨rfl, rfl⟩)) | (go_at_call 361; ((with_reducible refine (k5 _).mono ?_); rintro e w1 ⟨rfl, rfl⟩)) | (go_at_call 361; ((with_reducible refine (k6 _).mono ?_); rintro e w1 ⟨rfl, rfl⟩)))
      all_goals (go_ret; exact ⟨ret_i HB2.out.symm, more_wd _ _ _⟩)
  · have HB2 : Hid (R = 11) := Lib.hid (by rw [HB.out]; rw [if_pos (by omega)])
    clear HB
    have h1' : count < 1 ∨ (1 ≤ count ∧ 32 < count) := by omega
    clear h1
    rcases h1' with h1 | ⟨h1, h2⟩
    all_goals
      refine calls_wd ?_
      go_enter Tryz.func303, Tryz.ntmps303
      go_wp2
      all_goals (go_ret; exact ⟨ret_i HB2.out.symm, more_wd _ _ _⟩)
set_option maxRecDepth 100000 in
set_option maxHeartbeats 400000 in
theorem head_any (b : Bat) (a : Option Addr) (cap : Nat) (w : World) (hl : b.recs.length ≤ maxLen) : Calls Tryz.prog 190 #[.agg #[.int .i64 b.base, .int .i64 b.count, .int .i64 b.producer, .int .i64 b.epoch, .int .i64 b.seq, .slice a b.recs.length cap]] w fun e w' =>
    e = .returned (.agg #[.int .i64 b.base, .int .i64 b.count, .int .i64 b.producer, .int .i64 b.epoch, .int .i64 b.seq, .int .i64 b.recs.length]) ∧ More w w' := by
  obtain ⟨base, count, producer, epoch, seq, recs⟩ := b
  dsimp only at hl ⊢
  generalize recs.length = n at hl ⊢
  refine calls_wd ?_
  go_enter Tryz.func190, Tryz.ntmps190
  go_wp2
  refine bodyPost_ret (v := .agg #[.int .i64 base, .int .i64 count, .int .i64 producer, .int .i64 epoch, .int .i64 seq, .int .i64 n]) (by simp [results, Tryz.results190, go_sem]) rfl ⟨rfl, more_wd _ _ _⟩
/-- The blocks of a boxed batch. -/
abbrev bbox (base count producer epoch seq : Int) (a : Option Addr) (n cap : Nat) : Array Obj := #[.cells #[.int .i64 base, .int .i64 count, .int .i64 producer, .int .i64 epoch, .int .i64 seq, .slice a n cap] 26]
theorem index6_0 (a b c d e f : Value) (W : World) : (Instr.index 303 (.agg #[a, b, c, d, e, f]) (.int .i64 0)).run Tryz.prog W = .ok a W := by kernel_rfl
theorem index6_1 (a b c d e f : Value) (W : World) : (Instr.index 303 (.agg #[a, b, c, d, e, f]) (.int .i64 1)).run Tryz.prog W = .ok b W := by kernel_rfl
theorem index6_2 (a b c d e f : Value) (W : World) : (Instr.index 303 (.agg #[a, b, c, d, e, f]) (.int .i64 2)).run Tryz.prog W = .ok c W := by kernel_rfl
theorem index6_3 (a b c d e f : Value) (W : World) : (Instr.index 303 (.agg #[a, b, c, d, e, f]) (.int .i64 3)).run Tryz.prog W = .ok d W := by kernel_rfl
theorem index6_4 (a b c d e f : Value) (W : World) : (Instr.index 303 (.agg #[a, b, c, d, e, f]) (.int .i64 4)).run Tryz.prog W = .ok e W := by kernel_rfl
theorem index6_5 (a b c d e f : Value) (W : World) : (Instr.index 303 (.agg #[a, b, c, d, e, f]) (.int .i64 5)).run Tryz.prog W = .ok f W := by kernel_rfl
attribute [local go_sem] index6_0 index6_1 index6_2 index6_3 index6_4 index6_5
set_option maxRecDepth 100000 in
set_option maxHeartbeats 3200000 in
theorem lay_bat (b : Bat) (a : Option Addr) (cap : Nat) (w : World) (hr : RecsAt w a b.recs) (hl : b.recs.length ≤ 1000000) (hwf : b.wf) : Calls Tryz.prog 222 #[.agg #[.int .i64 b.base, .int .i64 b.count, .int .i64 b.producer, .int .i64 b.epoch, .int .i64 b.seq, .slice a b.recs.length cap]] w fun e w' =>
    ∃ v, e = .returned v ∧ BMade w w' v (batLay b) := by
  have hhd := fun W => head_any b a cap W (by unfold maxLen; omega)
  have HL : Hid (batLay b = numsB (batHead b) ++ recsB b.recs) := Lib.hid rfl
  have hwfs := head_wf hwf hl
  have HH : Hid (batHead b = [b.base, b.count, b.producer, b.epoch, b.seq, (b.recs.length : Int)]) := Lib.hid rfl
  obtain ⟨base, count, producer, epoch, seq, recs⟩ := b
  dsimp only at hr hl hhd HL HH hwfs ⊢
  have HR := Lib.hid hr
  have hNL := numsB_len _ hwfs
  have HLL := Lib.hid (recsB_len recs)
  rw [HH.out] at hwfs hNL HL
  simp only [List.length_cons, List.length_nil] at hNL
  have W := Lib.hid hwfs
  clear hr hwf hwfs
  obtain ⟨⟨g1, h1⟩, ⟨g2, h2⟩, ⟨g3, h3⟩, ⟨g4, h4⟩, ⟨g5, h5⟩, ⟨g6, h6⟩⟩ : I64 base ∧ I64 count ∧ I64 producer ∧ I64 epoch ∧ I64 seq ∧ I64 (recs.length : Int) := ⟨W.out _ (by simp), W.out _ (by simp), W.out _ (by simp), W.out _ (by simp), W.out _ (by simp), W.out _ (by simp)⟩
  have pl1 := put_len g1 h1
  have pl2 := put_len g2 h2
  have pl3 := put_len g3 h3
  have pl4 := put_len g4 h4
  have pl5 := put_len g5 h5
  have pl6 := put_len g6 h6
  refine calls_wd ?_
  go_enter Tryz.func222, Tryz.ntmps222
  go_wp2_with (first | (go_at_call 190; ((with_reducible refine (hhd _).mono ?_); rintro e w1 ⟨rfl, x1, n1, rfl⟩)))
  refine wp_loop_rounds 7 ?_
  rw [rounds_succ]
  go_wp2_with (first | (go_at_call 124; ((with_reducible refine (put_any base g1 h1 _).mono ?_); rintro e w1 ⟨u1, rfl, x1⟩; obtain ⟨p1, rfl, hs1⟩ := x1.wd; clear x1)) | (at_builtin; refine at_append_nil rfl _ _ rfl rfl rfl hs1 (by omega) ?_; clear hs1; intro v1 m1 hr1))
  rw [rounds_succ]
  go_wp2_with (first | (go_at_call 124; ((with_reducible refine (put_any count g2 h2 _).mono ?_); rintro e w1 ⟨u2, rfl, x1⟩; obtain ⟨p2, rfl, hs2⟩ := x1.wd; clear x1)) | (at_builtin; refine at_append rfl _ _ rfl rfl hr1 rfl hs2 (by (try simp only [List.length_append]); omega) ?_; clear hr1 hs2; intro v2 m2 hr2))
  rw [rounds_succ]
  go_wp2_with (first | (go_at_call 124; ((with_reducible refine (put_any producer g3 h3 _).mono ?_); rintro e w1 ⟨u3, rfl, x1⟩; obtain ⟨p3, rfl, hs3⟩ := x1.wd; clear x1)) | (at_builtin; refine at_append rfl _ _ rfl rfl hr2 rfl hs3 (by (try simp only [List.length_append]); omega) ?_; clear hr2 hs3; intro v3 m3 hr3))
  rw [rounds_succ]
  go_wp2_with (first | (go_at_call 124; ((with_reducible refine (put_any epoch g4 h4 _).mono ?_); rintro e w1 ⟨u4, rfl, x1⟩; obtain ⟨p4, rfl, hs4⟩ := x1.wd; clear x1)) | (at_builtin; refine at_append rfl _ _ rfl rfl hr3 rfl hs4 (by (try simp only [List.length_append]); omega) ?_; clear hr3 hs4; intro v4 m4 hr4))
  rw [rounds_succ]
  go_wp2_with (first | (go_at_call 124; ((with_reducible refine (put_any seq g5 h5 _).mono ?_); rintro e w1 ⟨u5, rfl, x1⟩; obtain ⟨p5, rfl, hs5⟩ := x1.wd; clear x1)) | (at_builtin; refine at_append rfl _ _ rfl rfl hr4 rfl hs5 (by (try simp only [List.length_append]); omega) ?_; clear hr4 hs5; intro v5 m5 hr5))
  rw [rounds_succ]
  go_wp2_with (first | (go_at_call 124; ((with_reducible refine (put_any (recs.length : Int) g6 h6 _).mono ?_); rintro e w1 ⟨u6, rfl, x1⟩; obtain ⟨p6, rfl, hs6⟩ := x1.wd; clear x1)) | (at_builtin; refine at_append rfl _ _ rfl rfl hr5 rfl hs6 (by (try simp only [List.length_append]); omega) ?_; clear hr5 hs6; intro v6 m6 hr6))
  rw [rounds_succ]
  go_wp2
  have hN : (put base ++ put count ++ put producer ++ put epoch ++ put seq ++ put (recs.length : Int)).length ≤ 60 := by simp only [List.length_append]; omega
  have HN : Hid (batLay ⟨base, count, producer, epoch, seq, recs⟩ = (put base ++ put count ++ put producer ++ put epoch ++ put seq ++ put (recs.length : Int)) ++ recsB recs) := Lib.hid (by rw [HL.out]; simp [numsB])
  generalize put base ++ put count ++ put producer ++ put epoch ++ put seq ++ put (recs.length : Int) = N at hr6 hN HN
  clear HL HH hNL pl1 pl2 pl3 pl4 pl5 pl6
  go_loopw [3, 23] (fun v i wr => ∃ (k : Nat) (m : Ext), k ≤ recs.length ∧ i = .int .i64 k ∧ BRow w [x1, bbox base count producer epoch seq a recs.length cap] m.e v (N ++ recsB (recs.take k)) ∧ wr = wd w [m.e, x1, bbox base count producer epoch seq a recs.length cap] m.n) (fun _ i _ => recs.length - (intOf i).toNat)
  case atStart => exact ⟨0, m6, Nat.zero_le _, rfl, by simpa [recsB] using hr6, rfl⟩
  case round =>
    obtain ⟨k, m, hk, rfl, hrow, rfl⟩ := hrel
    by_cases hlt : k < recs.length
    · obtain ⟨x, hx⟩ : ∃ x, recs[k]? = some x := ⟨_, List.getElem?_eq_getElem hlt⟩
      obtain ⟨bb, off, rfl, hb, c0, c1, c2, c3, c4, c5⟩ := recs_at HR.out k x hx
      have hT : Hid (recsB (recs.take (k + 1)) = recsB (recs.take k) ++ (recPut x).1) := Lib.hid (by rw [take_get recs k x hx]; exact recsB_snoc _ _)
      have hl1 := recPut_len x
      have hl2 := recsB_len (recs.take k)
      have hl3 : (recs.take k).length ≤ 1000000 := by rw [List.length_take]; omega
      obtain ⟨d, t, ky, key, dd, val⟩ := x
      dsimp only at c0 c1 c2 c3 c4 c5
      clear hx hr6
      go_wp2_with (first
        | (go_at_call 304; ((with_reducible refine (recput_x d t ky dd key val _).mono ?_); rintro e w2 ⟨u9, rfl, hm9⟩; obtain ⟨p9, rfl, hs9⟩ := hm9.wd; clear hm9))
        | (at_builtin; refine at_append2 rfl _ _ rfl rfl hrow rfl hs9 (by simp only [List.length_append]; omega) ?_; clear hrow hs9; intro v' m' hr'))
      go_roundw
      case rel => exact ⟨k + 1, m', by omega, by go_num, by rw [hT.out, ← List.append_assoc]; exact hr', rfl⟩
      case measure => simp [intOf]; omega
    · have hT : Hid (batLay ⟨base, count, producer, epoch, seq, recs⟩ = N ++ recsB (recs.take k)) := Lib.hid (by rw [List.take_of_length_le (by omega)]; exact HN.out)
      go_wp2
      go_ret
      exact ⟨_, rfl, fin3 hrow hT.out.symm⟩
set_option maxRecDepth 100000 in
set_option maxHeartbeats 3200000 in
theorem check_bat (b : Bat) (a : Option Addr) (cap : Nat) (w : World) (hr : RecsAt w a b.recs) (hl : b.recs.length ≤ maxLen) : Calls Tryz.prog 221 #[.agg #[.int .i64 b.base, .int .i64 b.count, .int .i64 b.producer, .int .i64 b.epoch, .int .i64 b.seq, .slice a b.recs.length cap]] w fun e w' =>
    e = .returned (.int .i64 (batCheck b)) ∧ More w w' := by
  have hnb := fun W => numbers_any b a cap W hl
  have HC : Hid (batCheck b = if batNum b ≠ 0 then batNum b else if chk (-1) b.count b.recs ≠ 0 then chk (-1) b.count b.recs else if 8192 < (batLay b).length then 5 else 0) := Lib.hid rfl
  by_cases hn : batNum b = 0
  · have hwf := Bat.wf_ok hn
    have h32 := (batNum_ok hn).2.2.2.2.2.2.2.2.2.2
    have hlay := fun W h => lay_bat b a cap W h (by omega) hwf
    rw [hn] at hnb
    have HC2 : Hid (batCheck b = if chk (-1) b.count b.recs ≠ 0 then chk (-1) b.count b.recs else if 8192 < (batLay b).length then 5 else 0) := Lib.hid (by rw [HC.out, if_neg (by rw [hn]; simp)])
    clear hn hwf hl HC
    generalize batCheck b = R at HC2 ⊢
    generalize batLay b = LL at hlay HC2
    obtain ⟨base, count, producer, epoch, seq, recs⟩ := b
    dsimp only at hr hnb hlay HC2 h32 ⊢
    have HR := Lib.hid hr
    have HLAY := Lib.hid hlay
    clear hr hlay
    refine calls_wd ?_
    go_enter Tryz.func221, Tryz.ntmps221
    go_wp2_with (first | (go_at_call 303; ((with_reducible refine (hnb _).mono ?_); rintro e w1 ⟨rfl, x1, n1, rfl⟩)))
    go_loopw [4, 16] (fun v i wr => ∃ (k : Nat) (La : Int) (m : Ext), k ≤ recs.length ∧ i = .int .i64 k ∧ v = .int .i64 La ∧ Hid (chk (-1) count recs = chk La count (recs.drop k)) ∧ wr = wd w [m.e, bbox base count producer epoch seq a recs.length cap] m.n) (fun _ i _ => recs.length - (intOf i).toNat)
    case atStart => exact ⟨0, -1, ⟨x1, n1⟩, Nat.zero_le _, rfl, rfl, Lib.hid rfl, rfl⟩
    case round =>
      obtain ⟨k, La, m, hk, rfl, rfl, HK, rfl⟩ := hrel
      by_cases hlt : k < recs.length
      · obtain ⟨x, hx⟩ : ∃ x, recs[k]? = some x := ⟨_, List.getElem?_eq_getElem hlt⟩
        obtain ⟨bb, off, rfl, hb, c0, c1, c2, c3, c4, c5⟩ := recs_at HR.out k x hx
        have HS : Hid (chk (-1) count recs = if recCheck x ≠ 0 then recCheck x else if x.delta ≤ La ∨ count ≤ x.delta then 16 else chk x.delta count (recs.drop (k + 1))) := Lib.hid (by rw [HK.out, drop_at recs k x hx, chk_cons])
        clear hx HK
        obtain ⟨d, t, ky, key, dd, val⟩ := x
        dsimp only at c0 c1 c2 c3 c4 c5 HS
        have hck := fun W => rcheck_x d t ky dd key val W
        generalize recCheck ⟨d, t, ky, key, dd, val⟩ = E at hck HS
        by_cases hE : E = 0
        · subst hE
          by_cases h1 : d ≤ La
          · have HX : Hid (R = 16) := Lib.hid (by rw [HC2.out, HS.out]; simp [h1])
            go_wp2_with (first | (go_at_call 233; ((with_reducible refine (hck _).mono ?_); rintro e w1 ⟨rfl, x1, n1, rfl⟩)))
            all_goals (go_ret; exact ⟨ret_i HX.out.symm, more_wd _ _ _⟩)
          · by_cases h2 : count ≤ d
            · have HX : Hid (R = 16) := Lib.hid (by rw [HC2.out, HS.out]; simp [h2])
              go_wp2_with (first | (go_at_call 233; ((with_reducible refine (hck _).mono ?_); rintro e w1 ⟨rfl, x1, n1, rfl⟩)))
              all_goals (go_ret; exact ⟨ret_i HX.out.symm, more_wd _ _ _⟩)
            · have h1' : decide (d ≤ La) = false := by simpa using h1
              have h2' : decide (count ≤ d) = false := by simpa using h2
              have HX : Hid (chk (-1) count recs = chk d count (recs.drop (k + 1))) := Lib.hid (by rw [HS.out, if_neg (by simp), if_neg (by omega)])
              go_wp2_with (first | (go_at_call 233; ((with_reducible refine (hck _).mono ?_); rintro e w1 ⟨rfl, x1, n1, rfl⟩)))
              all_goals
                go_roundw
                case rel => exact ⟨k + 1, d, ⟨_, _⟩, by omega, by go_num, rfl, HX, by rw [wd_merge, wd_merge]⟩
                case measure => simp [intOf]; omega
        · have hne : (E == 0) = false := by rw [beq_eq_false_iff_ne]; exact hE
          have HX : Hid (R = E) := Lib.hid (by rw [HC2.out, HS.out]; simp [hE])
          go_wp2_with (first | (go_at_call 233; ((with_reducible refine (hck _).mono ?_); rintro e w1 ⟨rfl, x1, n1, rfl⟩)))
          go_ret
          exact ⟨ret_i HX.out.symm, more_wd _ _ _⟩
      · have HK0 : Hid (chk (-1) count recs = 0) := Lib.hid (by rw [HK.out, List.drop_eq_nil_of_le (by omega)]; rfl)
        have HX : Hid (R = if 8192 < LL.length then 5 else 0) := Lib.hid (by rw [HC2.out, HK0.out]; simp)
        clear HK
        by_cases h8 : 8192 < (LL.length : Int)
        all_goals
          go_wp2_with (first | (go_at_call 222; ((with_reducible refine (HLAY.out _ (HR.out.more (more_wd _ _ _))).mono ?_); rintro e w1 ⟨x0, rfl, x1⟩; obtain ⟨m9, rfl, hr9⟩ := x1.wd; clear x1; obtain ⟨a9, c9, rfl⟩ := rowIn_slice hr9)))
          all_goals (go_ret; exact ⟨ret_i (by rw [HX.out]; split <;> omega), more_wd _ _ _⟩)
  · have HX : Hid (batCheck b = batNum b) := Lib.hid (by rw [HC.out, if_pos hn])
    generalize batCheck b = R at HX ⊢
    generalize batNum b = E at *
    have hne : (E == 0) = false := by rw [beq_eq_false_iff_ne]; exact hn
    clear HC
    obtain ⟨base, count, producer, epoch, seq, recs⟩ := b
    dsimp only at hr hnb hl ⊢
    unfold maxLen at hl
    generalize recs.length = n at hnb hl ⊢
    clear hr
    refine calls_wd ?_
    go_enter Tryz.func221, Tryz.ntmps221
    go_wp2_with (first | (go_at_call 303; ((with_reducible refine (hnb _).mono ?_); rintro e w1 ⟨rfl, x1, n1, rfl⟩)))
    go_ret
    exact ⟨ret_i HX.out.symm, more_wd _ _ _⟩
set_option maxRecDepth 100000 in
set_option maxHeartbeats 1600000 in
theorem put_bat (b : Bat) (a : Option Addr) (cap : Nat) (w : World) (hr : RecsAt w a b.recs) (hl : b.recs.length ≤ maxLen) : Calls Tryz.prog 126 #[.agg #[.int .i64 b.base, .int .i64 b.count, .int .i64 b.producer, .int .i64 b.epoch, .int .i64 b.seq, .slice a b.recs.length cap]] w fun x w' =>
    BRet w w' x (batPut b).1 (batPut b).2 := by
  have hck := fun W h => check_bat b a cap W h hl
  by_cases hn : batCheck b = 0
  · have hn0 : batNum b = 0 := by
      unfold batCheck at hn
      by_cases h : batNum b = 0
      · exact h
      · rw [if_pos h] at hn; exact hn
    have hwf := Bat.wf_ok hn0
    have h32 := (batNum_ok hn0).2.2.2.2.2.2.2.2.2.2
    have hlay := fun W h => lay_bat b a cap W h (by omega) hwf
    rw [hn] at hck
    have HP : Hid (batPut b = (batLay b, 0)) := Lib.hid (by unfold batPut; rw [if_neg (by rw [hn]; simp)])
    clear hn hn0 hwf
    generalize batPut b = R at HP ⊢
    generalize batLay b = LL at hlay HP
    obtain ⟨base, count, producer, epoch, seq, recs⟩ := b
    dsimp only at hr hck hlay h32 ⊢
    have HR := Lib.hid hr
    have HLAY := Lib.hid hlay
    have HCK := Lib.hid hck
    clear hr hlay hck hl
    refine calls_wd ?_
    go_enter Tryz.func126, Tryz.ntmps126
    go_wp2_with (first | (go_at_call 221; ((with_reducible refine (HCK.out _ (HR.out.more (more_wd _ _ _))).mono ?_); rintro e w1 ⟨rfl, x1, n1, rfl⟩)) | (go_at_call 222; ((with_reducible refine (HLAY.out _ (HR.out.more (more_wd _ _ _))).mono ?_); rintro e w1 ⟨v9, rfl, x1⟩; obtain ⟨m9, rfl, hr9⟩ := x1.wd; clear x1)))
    exact bodyPost_ret (v := .tuple #[v9, .int .i64 0]) (by simp [results, Tryz.results126, go_sem]) rfl ⟨v9, by rw [HP.out], fin3 hr9 (by rw [HP.out])⟩
  · have HP : Hid (batPut b = ([], batCheck b)) := Lib.hid (by unfold batPut; rw [if_pos hn])
    generalize batPut b = R at HP ⊢
    generalize batCheck b = E at *
    have hne : (E == 0) = false := by rw [beq_eq_false_iff_ne]; exact hn
    obtain ⟨base, count, producer, epoch, seq, recs⟩ := b
    dsimp only at hr hck hl ⊢
    have HR := Lib.hid hr
    have HCK := Lib.hid hck
    clear hr hck
    unfold maxLen at hl
    refine calls_wd ?_
    go_enter Tryz.func126, Tryz.ntmps126
    go_wp2_with (first | (go_at_call 221; ((with_reducible refine (HCK.out _ (HR.out.more (more_wd _ _ _))).mono ?_); rintro e w1 ⟨rfl, x1, n1, rfl⟩)))
    exact bodyPost_ret (v := .tuple #[.slice none 0 0, .int .i64 E]) (by simp [results, Tryz.results126, go_sem]) rfl ⟨_, by rw [HP.out], by rw [HP.out]; exact bmade_nil _ _ _⟩
end Go.Proofs.YtmeflkagldebiaaGreat
/- batch: whether two batches are one (program and reference). -/
namespace Go.Proofs.YtmeflkagldebiaaGreat
open Go.ChangeShapes Go.WideShapes Go.ChangeAt Go.RowKit
set_option linter.unusedVariables false
set_option linter.unusedSimpArgs false

theorem info_int : ∃ i, Tryz.prog.info? 3 = some i := by
  have h : (Tryz.prog.info? 3).isSome = true := by kernel_rfl
  exact Option.isSome_iff_exists.1 h
set_option maxRecDepth 100000 in
theorem head_eql (a0 a1 a2 a3 a4 a5 b0 b1 b2 b3 b4 b5 : Int) (W : World) :
    (binOp .eql 303 (.agg #[.int .i64 a0, .int .i64 a1, .int .i64 a2, .int .i64 a3, .int .i64 a4, .int .i64 a5]) (.agg #[.int .i64 b0, .int .i64 b1, .int .i64 b2, .int .i64 b3, .int .i64 b4, .int .i64 b5])).run Tryz.prog W = .ok (.bool (decide (a0 = b0 ∧ a1 = b1 ∧ a2 = b2 ∧ a3 = b3 ∧ a4 = b4 ∧ a5 = b5))) W := by
  obtain ⟨i, hi⟩ := info_int
  have h1 : Tryz.prog.cellsOf 3 = 1 := by kernel_rfl
  rw [run_eql_struct, show (10000 : Nat) = 9999 + 1 from rfl, run_equalIn_array W 9999 _ _ Tryz.underlying303 hi, h1, show List.range 6 = [0, 1, 2, 3, 4, 5] from rfl, show (9999 : Nat) = 9998 + 1 from rfl]
  simp only [Op.eqItems]
  go_simp
  (repeat' split) <;> simp_all
theorem bat_eq (x y : Bat) : x = y ↔ x.base = y.base ∧ x.count = y.count ∧ x.producer = y.producer ∧ x.epoch = y.epoch ∧ x.seq = y.seq ∧ x.recs = y.recs := by
  cases x; cases y; simp
instance (x y : Bat) : Decidable (x = y) := decidable_of_iff _ (bat_eq x y).symm
instance : DecidableEq Bat := fun x y => inferInstance
set_option maxRecDepth 100000 in
set_option maxHeartbeats 1600000 in
theorem same_bat (x y : Bat) (a1 a2 : Option Addr) (c1 c2 : Nat) (w : World) (h1 : RecsAt w a1 x.recs) (h2 : RecsAt w a2 y.recs) (hm1 : x.recs.length ≤ maxLen) (hm2 : y.recs.length ≤ maxLen) :
    Calls Tryz.prog 97 #[.agg #[.int .i64 x.base, .int .i64 x.count, .int .i64 x.producer, .int .i64 x.epoch, .int .i64 x.seq, .slice a1 x.recs.length c1], .agg #[.int .i64 y.base, .int .i64 y.count, .int .i64 y.producer, .int .i64 y.epoch, .int .i64 y.seq, .slice a2 y.recs.length c2]] w fun e w' =>
    e = .returned (.bool (decide (x = y))) ∧ More w w' := by
  have hx := fun W => head_any x a1 c1 W hm1
  have hy := fun W => head_any y a2 c2 W hm2
  have hq := fun W h1 h2 => eqrecs_any a1 a2 c1 c2 x.recs y.recs W h1 h2 hm1 hm2
  have HE := Lib.hid (bat_eq x y)
  have H1 := Lib.hid h1
  have H2 := Lib.hid h2
  obtain ⟨b0, b1, b2, b3, b4, l1⟩ := x
  obtain ⟨d0, d1, d2, d3, d4, l2⟩ := y
  dsimp only at hx hy hq HE hm1 hm2 H1 H2 ⊢
  have HX := Lib.hid hx
  have HY := Lib.hid hy
  have HQ := Lib.hid hq
  unfold maxLen at hm1 hm2
  clear h1 h2 hx hy hq
  have QE := fun W => head_eql b0 b1 b2 b3 b4 l1.length d0 d1 d2 d3 d4 l2.length W
  by_cases hh : b0 = d0 ∧ b1 = d1 ∧ b2 = d2 ∧ b3 = d3 ∧ b4 = d4 ∧ (l1.length : Int) = l2.length
  · rw [decide_eq_true hh] at QE
    have HR : Hid (decide ((⟨b0, b1, b2, b3, b4, l1⟩ : Bat) = ⟨d0, d1, d2, d3, d4, l2⟩) = decide (l1 = l2)) := Lib.hid (by
      rw [Bool.eq_iff_iff, decide_eq_true_eq, decide_eq_true_eq, HE.out]
      obtain ⟨g0, g1, g2, g3, g4, _⟩ := hh
      exact ⟨fun h => h.2.2.2.2.2, fun h => ⟨g0, g1, g2, g3, g4, h⟩⟩)
    clear hh HE
    refine calls_wd ?_
    go_enter Tryz.func97, Tryz.ntmps97
    go_wp2
    refine wp_region_wd (by kernel_rfl) (by kernel_rfl) ?_
    repeat (go_big_quiet_step ((first | (go_at_call 190; with_reducible exact Calls.wd_of (HX.out _)) | (go_at_call 190; with_reducible exact Calls.wd_of (HY.out _)) | (go_at_call 191; with_reducible exact Calls.wd_of (HQ.out _ (H1.out.more (more_wd _ _ _)) (H2.out.more (more_wd _ _ _)))))))
    refine wpQuiet_nil ?_
    rintro _ ⟨mx, rfl⟩
    go_wp2
    go_ret
    exact ⟨by rw [HR.out]; rfl, more_wd _ _ _⟩
  · rw [decide_eq_false hh] at QE
    have HR : Hid (decide ((⟨b0, b1, b2, b3, b4, l1⟩ : Bat) = ⟨d0, d1, d2, d3, d4, l2⟩) = false) := Lib.hid (by
      rw [decide_eq_false_iff_not, HE.out]
      intro h
      exact hh ⟨h.1, h.2.1, h.2.2.1, h.2.2.2.1, h.2.2.2.2.1, by rw [h.2.2.2.2.2]⟩)
    clear hh HE
    refine calls_wd ?_
    go_enter Tryz.func97, Tryz.ntmps97
    go_wp2
    refine wp_region_wd (by kernel_rfl) (by kernel_rfl) ?_
    repeat (go_big_quiet_step ((first | (go_at_call 190; with_reducible exact Calls.wd_of (HX.out _)) | (go_at_call 190; with_reducible exact Calls.wd_of (HY.out _)) | (go_at_call 191; with_reducible exact Calls.wd_of (HQ.out _ (H1.out.more (more_wd _ _ _)) (H2.out.more (more_wd _ _ _)))))))
    refine wpQuiet_nil ?_
    rintro _ ⟨mx, rfl⟩
    go_wp2
    go_ret
    exact ⟨by rw [HR.out]; rfl, more_wd _ _ _⟩
end Go.Proofs.YtmeflkagldebiaaGreat
/- Small batches: told yes or no. -/
namespace Go.Proofs.YtmeflkagldebiaaGreat
open Go.ChangeShapes Go.WideShapes Go.ChangeAt Go.RowKit
set_option linter.unusedVariables false
set_option linter.unusedSimpArgs false

/-- Yes or no, handed back. -/
structure BoolRet (w w' : World) (x : Ending) : Prop where
  out : ∃ b, x = .returned (.bool b) ∧ More w w'
theorem bret_wd (w : World) (L : List (Array Obj)) (n : Nat) (b : Bool) : BoolRet w (wd w L n) (.returned (.bool b)) := ⟨b, rfl, more_wd _ _ _⟩
set_option maxRecDepth 100000 in
set_option maxHeartbeats 1600000 in
theorem light_rec (delta time : Int) (keyed dead : Bool) (key value : List UInt8) (w : World) : Calls Tryz.prog 128 #[.agg #[.int .i64 delta, .int .i64 time, .bool keyed, .string (str key), .bool dead, .string (str value)]] w fun x w' => BoolRet w w' x := by
  refine calls_wd ?_
  go_enter Tryz.func128, Tryz.ntmps128
  go_wp2
  all_goals (go_ret; exact bret_wd _ _ _ _)
set_option maxRecDepth 100000 in
set_option maxHeartbeats 1600000 in
theorem light_bat (b : Bat) (a : Option Addr) (cap : Nat) (w : World) (hr : RecsAt w a b.recs) (hm : b.recs.length ≤ maxLen) :
    Calls Tryz.prog 46 #[.agg #[.int .i64 b.base, .int .i64 b.count, .int .i64 b.producer, .int .i64 b.epoch, .int .i64 b.seq, .slice a b.recs.length cap]] w fun x w' => BoolRet w w' x := by
  have HR := Lib.hid hr
  obtain ⟨base, count, producer, epoch, seq, recs⟩ := b
  dsimp only at HR hm ⊢
  unfold maxLen at hm
  clear hr
  by_cases h40 : 40 < recs.length
  · refine calls_wd ?_
    go_enter Tryz.func46, Tryz.ntmps46
    go_wp2
    go_ret
    exact bret_wd _ _ _ _
  · have h41 : (recs.length : Int) ≤ 40 := by omega
    refine calls_wd ?_
    go_enter Tryz.func46, Tryz.ntmps46
    go_wp2
    go_loopw [3] (fun i wr => ∃ (k : Nat) (m : Ext), k ≤ recs.length ∧ i = .int .i64 k ∧ wr = wd w [m.e, bbox base count producer epoch seq a recs.length cap] m.n) (fun i _ => recs.length - (intOf i).toNat)
    case atStart => exact ⟨0, ⟨#[], _⟩, Nat.zero_le _, rfl, by rw [wd_empty]⟩
    case round =>
      obtain ⟨k, m, hk, rfl, rfl⟩ := hrel
      by_cases hlt : k < recs.length
      · obtain ⟨x, hx⟩ : ∃ x, recs[k]? = some x := ⟨_, List.getElem?_eq_getElem hlt⟩
        obtain ⟨bb, off, rfl, hb, c0, c1, c2, c3, c4, c5⟩ := recs_at HR.out k x hx
        obtain ⟨d, t, ky, key, dd, val⟩ := x
        dsimp only at c0 c1 c2 c3 c4 c5
        clear hx
        go_wp2_with (first | (go_at_call 128; ((with_reducible refine (light_rec d t ky dd key val _).mono ?_); rintro e w2 hbr; obtain ⟨bl, rfl, x9, n9, rfl⟩ := hbr.out; cases bl)))
        · go_ret
          exact bret_wd _ _ _ _
        · go_roundw
          case rel => exact ⟨k + 1, ⟨_, _⟩, by omega, by go_num, wd_merge _ _ _ _ _⟩
          case measure => simp [intOf]; omega
      · go_wp2
        go_ret
        exact bret_wd _ _ _ _
end Go.Proofs.YtmeflkagldebiaaGreat
/- batch, plain: what is laid is read. -/
namespace Go.Proofs.YtmeflkagldebiaaGreat
open Go.RowKit
set_option linter.unusedVariables false
set_option linter.unusedSimpArgs false

/-- What is left behind k numbers; the k-th. -/
def numSt : Nat → List UInt8 → Int → List UInt8 × Int
  | 0, l, e => (l, e)
  | k + 1, l, e => (numL (numSt k l e).1 (numSt k l e).2, numE (numSt k l e).1 (numSt k l e).2)
def numAt (k : Nat) (l : List UInt8) (e : Int) : Int := numV (numSt k l e).1 (numSt k l e).2
/-- What is left behind k records; the first n. -/
def recSt : Nat → List UInt8 → Int → List UInt8 × Int
  | 0, l, e => (l, e)
  | k + 1, l, e => ((recGet (recSt k l e).1 (recSt k l e).2).1, (recGet (recSt k l e).1 (recSt k l e).2).2.1)
def recAt (k : Nat) (l : List UInt8) (e : Int) : List UInt8 × Int × Rec × Int := recGet (recSt k l e).1 (recSt k l e).2
def recsOf (n : Nat) (l : List UInt8) (e : Int) : List Rec := (List.range n).map fun k => (recAt k l e).2.2.1
theorem recsOf_succ (n : Nat) (l : List UInt8) (e : Int) : recsOf (n + 1) l e = recsOf n l e ++ [(recAt n l e).2.2.1] := by
  simp [recsOf, List.range_succ]
theorem recsOf_len (n : Nat) (l : List UInt8) (e : Int) : (recsOf n l e).length = n := by simp [recsOf]
theorem numsB_cons (n : Int) (l : List Int) : numsB (n :: l) = put n ++ numsB l := by simp [numsB]
theorem numSt_put : ∀ (k : Nat) (ns : List Int) (rest : List UInt8), (∀ n ∈ ns, I64 n) → k ≤ ns.length → numSt k (numsB ns ++ rest) 0 = (numsB (ns.drop k) ++ rest, 0)
  | 0, ns, rest, _, _ => rfl
  | k + 1, ns, rest, hw, hk => by
    have h := numSt_put k ns rest hw (by omega)
    unfold numSt
    rw [h]
    have hlt : k < ns.length := hk
    rw [List.drop_eq_getElem_cons hlt]
    have e : numsB (ns[k] :: ns.drop (k + 1)) ++ rest = put ns[k] ++ (numsB (ns.drop (k + 1)) ++ rest) := by rw [numsB_cons, List.append_assoc]
    rw [e]
    obtain ⟨h1, h2, h3⟩ := num_put ns[k] (hw _ (List.getElem_mem hlt)) (numsB (ns.drop (k + 1)) ++ rest)
    rw [h1, h2]
theorem numAt_put (k : Nat) (ns : List Int) (rest : List UInt8) (hw : ∀ n ∈ ns, I64 n) (n : Int) (hk : ns[k]? = some n) : numAt k (numsB ns ++ rest) 0 = n := by
  obtain ⟨hlt, rfl⟩ := List.getElem?_eq_some_iff.1 hk
  unfold numAt
  rw [numSt_put k ns rest hw (by omega), List.drop_eq_getElem_cons hlt]
  have e : numsB (ns[k] :: ns.drop (k + 1)) ++ rest = put ns[k] ++ (numsB (ns.drop (k + 1)) ++ rest) := by rw [numsB_cons, List.append_assoc]
  rw [e]
  exact (num_put ns[k] (hw _ (List.getElem_mem hlt)) _).2.2
theorem recsB_cons (r : Rec) (l : List Rec) (h : recCheck r = 0) : recsB (r :: l) = recBytes r ++ recsB l := by
  simp [recsB, recPut, h]
theorem recSt_put : ∀ (k : Nat) (rs : List Rec) (rest : List UInt8), (∀ r ∈ rs, recCheck r = 0) → k ≤ rs.length → recSt k (recsB rs ++ rest) 0 = (recsB (rs.drop k) ++ rest, 0)
  | 0, rs, rest, _, _ => rfl
  | k + 1, rs, rest, hw, hk => by
    have h := recSt_put k rs rest hw (by omega)
    unfold recSt
    have hlt : k < rs.length := hk
    rw [h, List.drop_eq_getElem_cons hlt, recsB_cons _ _ (hw _ (List.getElem_mem hlt)), List.append_assoc, recGet_put (hw _ (List.getElem_mem hlt))]
theorem recAt_put (k : Nat) (rs : List Rec) (rest : List UInt8) (hw : ∀ r ∈ rs, recCheck r = 0) (hk : k < rs.length) : recAt k (recsB rs ++ rest) 0 = (recsB (rs.drop (k + 1)) ++ rest, 0, rs[k], 0) := by
  unfold recAt
  rw [recSt_put k rs rest hw (by omega), List.drop_eq_getElem_cons hk, recsB_cons _ _ (hw _ (List.getElem_mem hk)), List.append_assoc, recGet_put (hw _ (List.getElem_mem hk))]
theorem recsOf_put (rs : List Rec) (rest : List UInt8) (hw : ∀ r ∈ rs, recCheck r = 0) : ∀ (n : Nat), n ≤ rs.length → recsOf n (recsB rs ++ rest) 0 = rs.take n
  | 0, _ => by simp [recsOf]
  | n + 1, hn => by
    rw [recsOf_succ, recsOf_put rs rest hw n (by omega), recAt_put n rs rest hw (by omega), ← List.take_succ_eq_append_getElem (by omega)]
theorem chk_all : ∀ (l : List Rec) (last count : Int), chk last count l = 0 → ∀ r ∈ l, recCheck r = 0
  | [], _, _, _ => by simp
  | r :: rs, last, count, h => by
    rw [chk_cons] at h
    by_cases h1 : recCheck r = 0
    · rw [if_neg (by rw [h1]; simp)] at h
      split at h
      · simp at h
      · intro x hx
        rcases List.mem_cons.1 hx with rfl | hx
        · exact h1
        · exact chk_all rs _ _ h x hx
    · rw [if_pos h1] at h; exact absurd h h1
def batN (l : List UInt8) : Nat := (max 0 (min (numAt 5 l 0) 32)).toNat
def batDec (l : List UInt8) : Bat := ⟨numAt 0 l 0, numAt 1 l 0, numAt 2 l 0, numAt 3 l 0, numAt 4 l 0, recsOf (batN l) (numSt 6 l 0).1 (numSt 6 l 0).2⟩
/-- A batch off bytes, and the error. -/
def batGet (l : List UInt8) : Bat × Int := if batPut (batDec l) = (l, 0) then (batDec l, 0) else (Bat.zero, 4)
theorem batPut_ok {b : Bat} {l : List UInt8} (h : batPut b = (l, 0)) : l = batLay b ∧ batNum b = 0 ∧ chk (-1) b.count b.recs = 0 ∧ (batLay b).length ≤ 8192 := by
  unfold batPut at h
  by_cases hc : batCheck b = 0
  · rw [if_neg (by rw [hc]; simp)] at h
    have hc' := hc
    unfold batCheck at hc
    by_cases h1 : batNum b = 0
    · rw [if_neg (by rw [h1]; simp)] at hc
      by_cases h2 : chk (-1) b.count b.recs = 0
      · rw [if_neg (by rw [h2]; simp)] at hc
        by_cases h3 : 8192 < (batLay b).length
        · rw [if_pos h3] at hc; simp at hc
        · exact ⟨(congrArg Prod.fst h).symm, h1, h2, by omega⟩
      · rw [if_pos h2] at hc; exact absurd hc h2
    · rw [if_pos h1] at hc; exact absurd hc h1
  · rw [if_pos hc] at h
    have := congrArg Prod.snd h
    exact absurd this hc
theorem bat_facts {b : Bat} {l : List UInt8} (h : batPut b = (l, 0)) : l.length ≤ 8192 ∧ batDec l = b ∧ batN l = b.recs.length ∧ (∀ k, k ≤ batN l → (recSt k (numSt 6 l 0).1 (numSt 6 l 0).2).2 = 0) ∧ (∀ k, k < batN l → (recAt k (numSt 6 l 0).1 (numSt 6 l 0).2).2.2.2 = 0) := by
  obtain ⟨rfl, hn, hc, hlen⟩ := batPut_ok h
  obtain ⟨q1, q2, q3, q4, q5, q6, q7, q8, q9, q10, h32⟩ := batNum_ok hn
  have hw := head_wf (Bat.wf_ok hn) (by omega)
  have hr := chk_all _ _ _ hc
  have hl : (batHead b).length = 6 := rfl
  have hst : numSt 6 (batLay b) 0 = (recsB b.recs ++ [], 0) := by
    unfold batLay
    rw [numSt_put 6 (batHead b) _ hw (by rw [hl]; exact Nat.le_refl _)]
    rw [List.drop_eq_nil_of_le (by rw [hl]; exact Nat.le_refl _)]
    simp [numsB]
  have hat : ∀ k n, (batHead b)[k]? = some n → numAt k (batLay b) 0 = n := fun k n hk => numAt_put k (batHead b) _ hw n hk
  have hN : batN (batLay b) = b.recs.length := by
    unfold batN
    rw [hat 5 _ rfl]
    omega
  refine ⟨hlen, ?_, hN, fun k hk => ?_, fun k hk => ?_⟩
  · unfold batDec
    rw [hat 0 _ rfl, hat 1 _ rfl, hat 2 _ rfl, hat 3 _ rfl, hat 4 _ rfl, hN, hst, recsOf_put b.recs [] hr _ (Nat.le_refl _), List.take_length]
  · rw [hst, recSt_put k b.recs [] hr (by omega)]
  · rw [hst, recAt_put k b.recs [] hr (by omega)]
theorem batGet_put {b : Bat} {l : List UInt8} (h : batPut b = (l, 0)) : batGet l = (b, 0) := by
  obtain ⟨_, hd, _⟩ := bat_facts h
  unfold batGet
  rw [hd, if_pos h]
theorem batGet_no {l : List UInt8} (h : ∀ b, batPut b ≠ (l, 0)) : batGet l = (Bat.zero, 4) := by
  unfold batGet
  rw [if_neg (h _)]
end Go.Proofs.YtmeflkagldebiaaGreat
/- wire, plain: requests as bytes: what is laid is read. -/
namespace Go.Proofs.YtmeflkagldebiaaGreat
open Go.RowKit
set_option linter.unusedVariables false
set_option linter.unusedSimpArgs false

structure Req where
  kind : Nat
  topic : List UInt8
  index : Int
  parts : Int
  compact : Bool
  flush : Bool
  offset : Int
  most : Int
  time : Int
  group : List UInt8
  member : List UInt8
  gen : Int
  batch : Bat
def reqBlank (k : Nat) : Req := ⟨k, [], 0, 0, false, false, 0, 0, 0, [], [], 0, Bat.zero⟩
instance : Inhabited Req := ⟨reqBlank 0⟩
def reqCells (q : Req) (a : Option Addr) (cap : Nat) : List Value := [.int .u8 q.kind, .string (str q.topic), .int .i64 q.index, .int .i64 q.parts, .bool q.compact, .bool q.flush, .int .i64 q.offset, .int .i64 q.most, .int .i64 q.time, .string (str q.group), .string (str q.member), .int .i64 q.gen,
  .int .i64 q.batch.base, .int .i64 q.batch.count, .int .i64 q.batch.producer, .int .i64 q.batch.epoch, .int .i64 q.batch.seq, .slice a q.batch.recs.length cap]
theorem req_eq (x y : Req) : x = y ↔ x.kind = y.kind ∧ x.topic = y.topic ∧ x.index = y.index ∧ x.parts = y.parts ∧ x.compact = y.compact ∧ x.flush = y.flush ∧ x.offset = y.offset ∧ x.most = y.most ∧ x.time = y.time ∧ x.group = y.group ∧ x.member = y.member ∧ x.gen = y.gen ∧ x.batch = y.batch := by
  cases x; cases y; simp
instance (x y : Req) : Decidable (x = y) := decidable_of_iff _ (req_eq x y).symm
instance : DecidableEq Req := fun x y => inferInstance
/-- The letters of a kind: t 116, i 105, p 112, c 99, f 102, o 111, m 109, w 119, g 103, k 107, n 110, b 98. -/
def usesL (k : Nat) : List UInt8 :=
  if k = 0 then [116, 112, 99] else if k = 1 then [116] else if k = 2 then [116] else if k = 3 then [116, 105, 102, 98] else if k = 4 then [116, 105, 111, 109] else if k = 5 then [116, 105, 119]
  else if k = 6 then [103, 107] else if k = 7 then [116, 103, 107, 110] else if k = 8 then [103, 107, 110] else if k = 9 then [103, 107] else if k = 10 then [116, 105, 111, 103, 107, 110] else if k = 11 then [116, 105, 103] else []
def usesAll : List (List UInt8) := [[116, 112, 99], [116], [116, 105, 102, 98], [116, 105, 111, 109], [116, 105, 119], [103, 107], [116, 103, 107, 110], [103, 107, 110], [116, 105, 111, 103, 107, 110], [116, 105, 103], []]
theorem kind_cases (k : Nat) : k = 0 ∨ k = 1 ∨ k = 2 ∨ k = 3 ∨ k = 4 ∨ k = 5 ∨ k = 6 ∨ k = 7 ∨ k = 8 ∨ k = 9 ∨ k = 10 ∨ k = 11 ∨ 11 < k := by omega
theorem uses_big (k : Nat) (h : 11 < k) : usesL k = [] := by unfold usesL; simp [show k ≠ 0 by omega, show k ≠ 1 by omega, show k ≠ 2 by omega, show k ≠ 3 by omega, show k ≠ 4 by omega, show k ≠ 5 by omega, show k ≠ 6 by omega, show k ≠ 7 by omega, show k ≠ 8 by omega, show k ≠ 9 by omega, show k ≠ 10 by omega, show k ≠ 11 by omega]
theorem uses_0 : usesL 0 = [116, 112, 99] := rfl
theorem uses_1 : usesL 1 = [116] := rfl
theorem uses_2 : usesL 2 = [116] := rfl
theorem uses_3 : usesL 3 = [116, 105, 102, 98] := rfl
theorem uses_4 : usesL 4 = [116, 105, 111, 109] := rfl
theorem uses_5 : usesL 5 = [116, 105, 119] := rfl
theorem uses_6 : usesL 6 = [103, 107] := rfl
theorem uses_7 : usesL 7 = [116, 103, 107, 110] := rfl
theorem uses_8 : usesL 8 = [103, 107, 110] := rfl
theorem uses_9 : usesL 9 = [103, 107] := rfl
theorem uses_10 : usesL 10 = [116, 105, 111, 103, 107, 110] := rfl
theorem uses_11 : usesL 11 = [116, 105, 103] := rfl
theorem uses_mem (k : Nat) : usesL k ∈ usesAll := by
  rcases kind_cases k with rfl | rfl | rfl | rfl | rfl | rfl | rfl | rfl | rfl | rfl | rfl | rfl | hk
  all_goals first
    | decide
    | (rw [uses_big k hk]; decide)
theorem uses_ascii (k : Nat) : ∀ c ∈ usesL k, c.toNat < 128 := (by decide : ∀ s ∈ usesAll, ∀ c ∈ s, c.toNat < 128) _ (uses_mem k)
theorem uses_len (k : Nat) : (usesL k).length ≤ 6 := (by decide : ∀ s ∈ usesAll, s.length ≤ 6) _ (uses_mem k)
/-- A letter's field made nothing. -/
def reqZero (q : Req) (c : UInt8) : Req :=
  if c = 116 then { q with topic := [] } else if c = 105 then { q with index := 0 } else if c = 112 then { q with parts := 0 } else if c = 99 then { q with compact := false } else if c = 102 then { q with flush := false }
  else if c = 111 then { q with offset := 0 } else if c = 109 then { q with most := 0 } else if c = 119 then { q with time := 0 } else if c = 103 then { q with group := [] } else if c = 107 then { q with member := [] }
  else if c = 110 then { q with gen := 0 } else if c = 98 then { q with batch := Bat.zero } else q
def reqClean (q : Req) : Req := (usesL q.kind).foldl reqZero q
def flagB (b : Bool) : List UInt8 := if b then [1] else [0]
/-- A letter's field as bytes. -/
def reqField (q : Req) (body : List UInt8) (c : UInt8) : List UInt8 :=
  if c = 116 then textL q.topic else if c = 105 then put q.index else if c = 112 then put q.parts else if c = 99 then flagB q.compact else if c = 102 then flagB q.flush
  else if c = 111 then put q.offset else if c = 109 then put q.most else if c = 119 then put q.time else if c = 103 then textL q.group else if c = 107 then textL q.member
  else if c = 110 then put q.gen else textL body
/-- A request's bytes, and the error. -/
def reqBat (q : Req) : List UInt8 × Int := batPut { q.batch with base := 0 }
def reqBytes (q : Req) (body : List UInt8) : List UInt8 := UInt8.ofNat q.kind :: (usesL q.kind).flatMap (reqField q body)
def reqPut (q : Req) : List UInt8 × Int :=
  if 11 < q.kind then ([], 22)
  else if reqClean q ≠ reqBlank q.kind then ([], 4)
  else if 255 < max (max q.topic.length q.group.length) q.member.length then ([], 5)
  else if q.kind = 3 ∧ (reqBat q).2 ≠ 0 then ([], (reqBat q).2)
  else if q.kind = 3 ∧ q.batch.base ≠ 0 then ([], 4)
  else (reqBytes q (if q.kind = 3 then (reqBat q).1 else []), 0)
def Req.wf (q : Req) : Prop := I64 q.index ∧ I64 q.parts ∧ I64 q.offset ∧ I64 q.most ∧ I64 q.time ∧ I64 q.gen
/-- A letter's field off a reader. -/
def reqTake (most : Int) (s : List UInt8 × Int × Req) (c : UInt8) : List UInt8 × Int × Req :=
  let l := s.1
  let e := s.2.1
  let q := s.2.2
  if c = 116 then ((txt l e 255).1, (txt l e 255).2.1, { q with topic := (txt l e 255).2.2 })
  else if c = 105 then (numL l e, numE l e, { q with index := numV l e })
  else if c = 112 then (numL l e, numE l e, { q with parts := numV l e })
  else if c = 99 then (fixL l e, fixE l e, { q with compact := decide (fixV l e = 1) })
  else if c = 102 then (fixL l e, fixE l e, { q with flush := decide (fixV l e = 1) })
  else if c = 111 then (numL l e, numE l e, { q with offset := numV l e })
  else if c = 109 then (numL l e, numE l e, { q with most := numV l e })
  else if c = 119 then (numL l e, numE l e, { q with time := numV l e })
  else if c = 103 then ((txt l e 255).1, (txt l e 255).2.1, { q with group := (txt l e 255).2.2 })
  else if c = 107 then ((txt l e 255).1, (txt l e 255).2.1, { q with member := (txt l e 255).2.2 })
  else if c = 110 then (numL l e, numE l e, { q with gen := numV l e })
  else ((txt l e most).1, (txt l e most).2.1, { q with batch := (batGet (txt l e most).2.2).1 })
def reqStart (l : List UInt8) : List UInt8 × Int × Req := (fixL l 0, fixE l 0, reqBlank (fixV l 0).toNat)
def reqDec (most : Int) (l : List UInt8) : Req := ((usesL (fixV l 0).toNat).foldl (reqTake most) (reqStart l)).2.2
/-- A letter's field of one request in another. -/
def reqCopy (q r : Req) (c : UInt8) : Req :=
  if c = 116 then { r with topic := q.topic } else if c = 105 then { r with index := q.index } else if c = 112 then { r with parts := q.parts } else if c = 99 then { r with compact := q.compact } else if c = 102 then { r with flush := q.flush }
  else if c = 111 then { r with offset := q.offset } else if c = 109 then { r with most := q.most } else if c = 119 then { r with time := q.time } else if c = 103 then { r with group := q.group } else if c = 107 then { r with member := q.member }
  else if c = 110 then { r with gen := q.gen } else { r with batch := q.batch }
theorem rz_116 (q : Req) : reqZero q 116 = { q with topic := [] } := rfl
theorem rc_116 (q r : Req) : reqCopy q r 116 = { r with topic := q.topic } := rfl
theorem rz_105 (q : Req) : reqZero q 105 = { q with index := 0 } := rfl
theorem rc_105 (q r : Req) : reqCopy q r 105 = { r with index := q.index } := rfl
theorem rz_112 (q : Req) : reqZero q 112 = { q with parts := 0 } := rfl
theorem rc_112 (q r : Req) : reqCopy q r 112 = { r with parts := q.parts } := rfl
theorem rz_99 (q : Req) : reqZero q 99 = { q with compact := false } := rfl
theorem rc_99 (q r : Req) : reqCopy q r 99 = { r with compact := q.compact } := rfl
theorem rz_102 (q : Req) : reqZero q 102 = { q with flush := false } := rfl
theorem rc_102 (q r : Req) : reqCopy q r 102 = { r with flush := q.flush } := rfl
theorem rz_111 (q : Req) : reqZero q 111 = { q with offset := 0 } := rfl
theorem rc_111 (q r : Req) : reqCopy q r 111 = { r with offset := q.offset } := rfl
theorem rz_109 (q : Req) : reqZero q 109 = { q with most := 0 } := rfl
theorem rc_109 (q r : Req) : reqCopy q r 109 = { r with most := q.most } := rfl
theorem rz_119 (q : Req) : reqZero q 119 = { q with time := 0 } := rfl
theorem rc_119 (q r : Req) : reqCopy q r 119 = { r with time := q.time } := rfl
theorem rz_103 (q : Req) : reqZero q 103 = { q with group := [] } := rfl
theorem rc_103 (q r : Req) : reqCopy q r 103 = { r with group := q.group } := rfl
theorem rz_107 (q : Req) : reqZero q 107 = { q with member := [] } := rfl
theorem rc_107 (q r : Req) : reqCopy q r 107 = { r with member := q.member } := rfl
theorem rz_110 (q : Req) : reqZero q 110 = { q with gen := 0 } := rfl
theorem rc_110 (q r : Req) : reqCopy q r 110 = { r with gen := q.gen } := rfl
theorem rz_98 (q : Req) : reqZero q 98 = { q with batch := Bat.zero } := rfl
theorem rc_98 (q r : Req) : reqCopy q r 98 = { r with batch := q.batch } := rfl
theorem copy_all (q : Req) (h : reqClean q = reqBlank q.kind) : (usesL q.kind).foldl (reqCopy q) (reqBlank q.kind) = q := by
  obtain ⟨kind, topic, index, parts, compact, flush, offset, most, time, group, member, gen, batch⟩ := q
  unfold reqClean at h
  dsimp only at h ⊢
  rcases kind_cases kind with rfl | rfl | rfl | rfl | rfl | rfl | rfl | rfl | rfl | rfl | rfl | rfl | hk
  case inr.inr.inr.inr.inr.inr.inr.inr.inr.inr.inr.inr => rw [uses_big kind hk] at h ⊢; exact h.symm
  all_goals
    simp only [uses_0, uses_1, uses_2, uses_3, uses_4, uses_5, uses_6, uses_7, uses_8, uses_9, uses_10, uses_11, List.foldl_cons, List.foldl_nil, rz_116, rz_105, rz_112, rz_99, rz_102, rz_111, rz_109, rz_119, rz_103, rz_107, rz_110, rz_98, reqBlank] at h
    rw [req_eq] at h
    dsimp only at h
    obtain ⟨g0, g1, g2, g3, g4, g5, g6, g7, g8, g9, g10, g11, g12⟩ := h
    simp only [uses_0, uses_1, uses_2, uses_3, uses_4, uses_5, uses_6, uses_7, uses_8, uses_9, uses_10, uses_11, List.foldl_cons, List.foldl_nil, rc_116, rc_105, rc_112, rc_99, rc_102, rc_111, rc_109, rc_119, rc_103, rc_107, rc_110, rc_98, reqBlank]
    rw [req_eq]
    dsimp only
    refine ⟨?_, ?_, ?_, ?_, ?_, ?_, ?_, ?_, ?_, ?_, ?_, ?_, ?_⟩ <;> first | rfl | (symm; assumption)
theorem take_field (most : Int) (hm : 8192 ≤ most) (q r : Req) (body rest : List UInt8) (c : UInt8) (hw : q.wf) (ht : q.topic.length ≤ 255) (hg : q.group.length ≤ 255) (hk : q.member.length ≤ 255)
    (hb : c = 98 → batGet body = (q.batch, 0) ∧ body.length ≤ 8192) (hc : c ∈ ([116, 105, 112, 99, 102, 111, 109, 119, 103, 107, 110, 98] : List UInt8)) :
    reqTake most (reqField q body c ++ rest, 0, r) c = (rest, 0, reqCopy q r c) := by
  obtain ⟨w1, w2, w3, w4, w5, w6⟩ := hw
  have hfl : ∀ b : Bool, fixL (flagB b ++ rest) 0 = rest ∧ fixE (flagB b ++ rest) 0 = 0 ∧ decide (fixV (flagB b ++ rest) 0 = 1) = b := by
    intro b; cases b <;> exact ⟨rfl, rfl, rfl⟩
  have t1 := txt_text q.topic 255 (by omega) (by omega) rest
  have t2 := txt_text q.group 255 (by omega) (by omega) rest
  have t3 := txt_text q.member 255 (by omega) (by omega) rest
  obtain ⟨n1, n2, n3⟩ := num_put q.index w1 rest
  obtain ⟨p1, p2, p3⟩ := num_put q.parts w2 rest
  obtain ⟨o1, o2, o3⟩ := num_put q.offset w3 rest
  obtain ⟨m1, m2, m3⟩ := num_put q.most w4 rest
  obtain ⟨i1, i2, i3⟩ := num_put q.time w5 rest
  obtain ⟨g1, g2, g3⟩ := num_put q.gen w6 rest
  obtain ⟨f1, f2, f3⟩ := hfl q.compact
  obtain ⟨h1, h2, h3⟩ := hfl q.flush
  simp only [List.mem_cons, List.not_mem_nil, or_false] at hc
  rcases hc with rfl | rfl | rfl | rfl | rfl | rfl | rfl | rfl | rfl | rfl | rfl | rfl
  all_goals simp_all [reqTake, reqField, reqCopy]
  rw [txt_text body most (by omega) (by omega) rest]
  simp [hb.1]
theorem uses_letters (k : Nat) : ∀ c ∈ usesL k, c ∈ ([116, 105, 112, 99, 102, 111, 109, 119, 103, 107, 110, 98] : List UInt8) :=
  (by decide : ∀ s ∈ usesAll, ∀ c ∈ s, c ∈ ([116, 105, 112, 99, 102, 111, 109, 119, 103, 107, 110, 98] : List UInt8)) _ (uses_mem k)
theorem uses_b (k : Nat) (h : 98 ∈ usesL k) : k = 3 := by
  rcases kind_cases k with rfl | rfl | rfl | rfl | rfl | rfl | rfl | rfl | rfl | rfl | rfl | rfl | hk
  all_goals first
    | rfl
    | (rw [uses_big k hk] at h; cases h)
    | (exfalso; revert h; decide)
theorem take_all (most : Int) (hm : 8192 ≤ most) (q : Req) (body : List UInt8) (hw : q.wf) (ht : q.topic.length ≤ 255) (hg : q.group.length ≤ 255) (hk : q.member.length ≤ 255) :
    ∀ (cs : List UInt8) (r : Req), (98 ∈ cs → batGet body = (q.batch, 0) ∧ body.length ≤ 8192) → (∀ c ∈ cs, c ∈ ([116, 105, 112, 99, 102, 111, 109, 119, 103, 107, 110, 98] : List UInt8)) →
    cs.foldl (reqTake most) (cs.flatMap (reqField q body), 0, r) = ([], 0, cs.foldl (reqCopy q) r)
  | [], r, _, _ => rfl
  | c :: cs, r, hb, hc => by
    rw [List.flatMap_cons, List.foldl_cons, take_field most hm q r body _ c hw ht hg hk (fun h => hb (by rw [← h]; exact List.mem_cons_self ..)) (hc c (List.mem_cons_self ..)), List.foldl_cons]
    exact take_all most hm q body hw ht hg hk cs _ (fun h => hb (List.mem_cons_of_mem _ h)) (fun d hd => hc d (List.mem_cons_of_mem _ hd))
theorem reqPut_ok {q : Req} {l : List UInt8} (h : reqPut q = (l, 0)) : q.kind ≤ 11 ∧ reqClean q = reqBlank q.kind ∧ q.topic.length ≤ 255 ∧ q.group.length ≤ 255 ∧ q.member.length ≤ 255 ∧
    (q.kind = 3 → (reqBat q).2 = 0 ∧ q.batch.base = 0) ∧ l = reqBytes q (if q.kind = 3 then (reqBat q).1 else []) := by
  unfold reqPut at h
  split at h
  · simp at h
  · split at h
    · simp at h
    · split at h
      · simp at h
      · split at h
        · rename_i h4
          have := congrArg Prod.snd h
          exact absurd this h4.2
        · split at h
          · simp at h
          · rename_i h1 h2 h3 h4 h5
            refine ⟨by omega, ?_, by omega, by omega, by omega, fun hk => ?_, (congrArg Prod.fst h).symm⟩
            · by_cases h : reqClean q = reqBlank q.kind
              · exact h
              · exact absurd h h2
            · refine ⟨?_, ?_⟩
              · by_cases h : (reqBat q).2 = 0
                · exact h
                · exact absurd ⟨hk, h⟩ h4
              · by_cases h : q.batch.base = 0
                · exact h
                · exact absurd ⟨hk, h⟩ h5
theorem reqDec_put (most : Int) (hm : 8192 ≤ most) {q : Req} {l : List UInt8} (hw : q.wf) (h : reqPut q = (l, 0)) : reqDec most l = q := by
  obtain ⟨h1, h2, h3, h4, h5, h6, rfl⟩ := reqPut_ok h
  unfold reqDec reqStart reqBytes
  obtain ⟨f1, f2, f3⟩ := fix_cons (UInt8.ofNat q.kind) ((usesL q.kind).flatMap (reqField q (if q.kind = 3 then (reqBat q).1 else [])))
  rw [f1, f2, f3, u8_toNat _ (by omega), Int.toNat_natCast, take_all most hm q _ hw h3 h4 h5 _ _ (fun hb => ?_) (uses_letters _)]
  · exact copy_all q h2
  · have hk := uses_b _ hb
    obtain ⟨e1, e2⟩ := h6 hk
    rw [if_pos hk]
    have hp : batPut q.batch = ((reqBat q).1, 0) := by
      have : ({ q.batch with base := 0 } : Bat) = q.batch := by rw [bat_eq]; simp [e2]
      unfold reqBat at e1 ⊢
      rw [this] at e1 ⊢
      exact Prod.ext rfl e1
    exact ⟨batGet_put hp, by have := (bat_facts hp).1; omega⟩
/-- A request off bytes, and the error. -/
def reqGet (l : List UInt8) : Req × Int := if reqPut (reqDec 8192 l) = (l, 0) then (reqDec 8192 l, 0) else (reqBlank 0, 4)
end Go.Proofs.YtmeflkagldebiaaGreat
