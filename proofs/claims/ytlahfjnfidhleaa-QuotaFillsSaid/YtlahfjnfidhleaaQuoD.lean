/- The closed case of the quota statements, and the walks of the three laws. -/
import Derived.Test.YtlahfjnfidhleaaQuoC
import Derived.Test.YtlahfjnfidhleaaSemi
namespace Go.Proofs.Ytlahfjnfidhleaa
open Go.RowKit
set_option linter.unusedVariables false
set_option linter.unusedSimpArgs false

set_option maxHeartbeats 1600000 in
theorem qwait_closed (w : World) :
    Calls Try.prog 35 #[.agg #[.int .i64 10, .int .i64 2, .int .i64 3, .int .i64 0], .int .i64 7, .int .i64 0] w fun e w' => e = .returned (.tuple #[.int .i64 2, .bool true]) ∧ More w w' := by
  have e1 : chk 10 2 3 0 = 0 := by decide
  have e2 : fillL 10 2 3 0 0 = 3 := by decide
  have e3 : fillA 10 2 3 0 0 = 0 := by decide
  have e4 : ticksF 4 2 = 2 := by decide
  refine calls_wd ?_
  go_enter Try.func35, Try.ntmps35
  go_wp2_with (first | (go_at_call 21; ((with_reducible refine (qchk_any _ _ _ _ _).mono ?_); rintro e w1 ⟨rfl, x1, n1, rfl⟩)) | (go_at_call 19; ((with_reducible refine (qfill_any _ _ _ _ _ _).mono ?_); rintro e w1 ⟨rfl, x1, n1, rfl⟩)) | (go_at_call 32; ((with_reducible refine (ticks_any _ _ _ (by decide) (by decide) (by decide) (by decide)).mono ?_); rintro e w1 ⟨rfl, rfl⟩)))
  go_ret2
  exact ⟨rfl, more_wd _ _ _⟩

theorem field_level (s r l a : Int) (w : World) : (Instr.field 39 (.agg #[.int .i64 s, .int .i64 r, .int .i64 l, .int .i64 a]) 2).run Try.prog w = .ok (.int .i64 l) w := by kernel_rfl
attribute [local go_sem ↓] field_level
set_option maxRecDepth 100000 in
set_option maxHeartbeats 1600000 in
theorem qawake (w : World) : Calls Try.prog 23 #[] w fun e w' => e = .returned (.bool true) ∧ More w w' := by
  have c1 : chk 10 2 10 0 = 0 := by decide
  have c2 : takeE 10 2 10 0 7 0 = 0 := by decide
  have c3 : fillL 10 2 10 0 0 = 10 := by decide
  have c4 : fillA 10 2 10 0 0 = 0 := by decide
  have c5 : takeE 10 2 3 0 7 1 = 21 := by decide
  have c6 : takeE 10 2 3 0 7 2 = 0 := by decide
  have c7 : fillL 10 2 3 0 2 = 7 := by decide
  have c8 : fillA 10 2 3 0 2 = 2 := by decide
  have c9 : fillL 10 2 0 2 3 = 2 := by decide
  have c10 : fillA 10 2 0 2 3 = 3 := by decide
  have c11 : chk 10 2 0 2 = 0 := by decide
  refine calls_wd ?_
  go_enter Try.func23, Try.ntmps23
  go_wp2_with (first
    | (go_at_call 17; ((with_reducible refine (qnew_ok _ _ _ _ (by decide)).mono ?_); rintro e w1 ⟨rfl, x1, n1, rfl⟩))
    | (go_at_call 15; ((with_reducible refine (qtake_ok 10 2 10 0 7 0 _ (by decide)).mono ?_); rintro e w1 ⟨rfl, x1, n1, rfl⟩))
    | (go_at_call 15; ((with_reducible refine (qtake_no 10 2 3 0 7 1 _ (by decide)).mono ?_); rintro e w1 ⟨rfl, x1, n1, rfl⟩))
    | (go_at_call 15; ((with_reducible refine (qtake_ok 10 2 3 0 7 2 _ (by decide)).mono ?_); rintro e w1 ⟨rfl, x1, n1, rfl⟩))
    | (go_at_call 35; ((with_reducible refine (qwait_closed _).mono ?_); rintro e w1 ⟨rfl, x1, n1, rfl⟩))
    | (go_at_call 19; ((with_reducible refine (qfill_any _ _ _ _ _ _).mono ?_); rintro e w1 ⟨rfl, x1, n1, rfl⟩))
    | (go_at_call 21; ((with_reducible refine (qchk_any _ _ _ _ _).mono ?_); rintro e w1 ⟨rfl, x1, n1, rfl⟩)))
  go_ret
  exact ⟨rfl, more_wd _ _ _⟩

set_option maxHeartbeats 1600000 in
theorem takes_walk (s r l a n now : Int) (w : World) :
    Calls Try.prog 4 #[.agg #[.int .i64 s, .int .i64 r, .int .i64 l, .int .i64 a], .int .i64 n, .int .i64 now] w fun e w' => e = .returned (.bool true) ∧ More w w' := by
  by_cases h1 : takeE s r l a n now = 0
  · rcases chk_cases s r s now with ⟨h2, _⟩ | ⟨h2, _⟩
    all_goals
      refine calls_wd ?_
      go_enter Try.func4, Try.ntmps4
      go_wp2_with (first
        | (go_at_call 15; ((with_reducible refine (qtake_ok _ _ _ _ _ _ _ h1).mono ?_); rintro e w1 ⟨rfl, x1, n1, rfl⟩)) | (go_at_call 16; ((with_reducible refine (rtake_ok _ _ _ _ _ _ _ h1).mono ?_); rintro e w1 ⟨rfl, x1, n1, rfl⟩))
        | (go_at_call 17; ((with_reducible refine (qnew_ok _ _ _ _ h2).mono ?_); rintro e w1 ⟨rfl, x1, n1, rfl⟩)) | (go_at_call 18; ((with_reducible refine (rnew_ok _ _ _ _ h2).mono ?_); rintro e w1 ⟨rfl, x1, n1, rfl⟩)) | (go_at_call 17; ((with_reducible refine (qnew_no _ _ _ _ h2).mono ?_); rintro e w1 ⟨rfl, x1, n1, rfl⟩)) | (go_at_call 18; ((with_reducible refine (rnew_no _ _ _ _ h2).mono ?_); rintro e w1 ⟨rfl, x1, n1, rfl⟩)))
      refine wp_region_wd (by kernel_rfl) (by kernel_rfl) ?_
      repeat (go_big_quiet_step ((first | (go_at_call 19; with_reducible exact Calls.wd_of (qfill_any _ _ _ _ _ _)) | (go_at_call 20; with_reducible exact Calls.wd_of (rfill_any _ _ _ _ _ _)) | (go_at_call 21; with_reducible exact Calls.wd_of (qchk_any _ _ _ _ _)) | (go_at_call 22; with_reducible exact Calls.wd_of (rchk_any _ _ _ _ _)) | (go_at_call 23; with_reducible exact Calls.wd_of (qawake _)))))
      refine wpQuiet_nil ?_
      rintro _ ⟨mx, rfl⟩
      go_wp2
      go_ret
      exact ⟨rfl, more_wd _ _ _⟩
  · have h1b : (takeE s r l a n now == 0) = false := by simpa using h1
    have h1c : (takeE s r l a n now != 0) = true := by simpa using h1
    have H1 := Lib.hid h1
    clear h1
    rcases chk_cases s r s now with ⟨h2, _⟩ | ⟨h2, _⟩
    all_goals
      refine calls_wd ?_
      go_enter Try.func4, Try.ntmps4
      go_wp2_with (first
        | (go_at_call 15; ((with_reducible refine (qtake_no _ _ _ _ _ _ _ H1.out).mono ?_); rintro e w1 ⟨rfl, x1, n1, rfl⟩)) | (go_at_call 16; ((with_reducible refine (rtake_no _ _ _ _ _ _ _ H1.out).mono ?_); rintro e w1 ⟨rfl, x1, n1, rfl⟩))
        | (go_at_call 17; ((with_reducible refine (qnew_ok _ _ _ _ h2).mono ?_); rintro e w1 ⟨rfl, x1, n1, rfl⟩)) | (go_at_call 18; ((with_reducible refine (rnew_ok _ _ _ _ h2).mono ?_); rintro e w1 ⟨rfl, x1, n1, rfl⟩)) | (go_at_call 17; ((with_reducible refine (qnew_no _ _ _ _ h2).mono ?_); rintro e w1 ⟨rfl, x1, n1, rfl⟩)) | (go_at_call 18; ((with_reducible refine (rnew_no _ _ _ _ h2).mono ?_); rintro e w1 ⟨rfl, x1, n1, rfl⟩)))
      refine wp_region_wd (by kernel_rfl) (by kernel_rfl) ?_
      repeat (go_big_quiet_step ((first | (go_at_call 19; with_reducible exact Calls.wd_of (qfill_any _ _ _ _ _ _)) | (go_at_call 20; with_reducible exact Calls.wd_of (rfill_any _ _ _ _ _ _)) | (go_at_call 21; with_reducible exact Calls.wd_of (qchk_any _ _ _ _ _)) | (go_at_call 22; with_reducible exact Calls.wd_of (rchk_any _ _ _ _ _)) | (go_at_call 23; with_reducible exact Calls.wd_of (qawake _)))))
      refine wpQuiet_nil ?_
      rintro _ ⟨mx, rfl⟩
      go_wp2
      go_ret
      exact ⟨rfl, more_wd _ _ _⟩

/-! ### QuotaNever -/
theorem chk_ok {s r l a : Int} (h : okB s r l a) : chk s r l a = 0 := by rcases chk_cases s r l a with ⟨h1, _⟩ | ⟨_, h1⟩; exact h1; exact absurd h h1
theorem takeE_zero {s r l a n now : Int} (h : takeE s r l a n now = 0) : chk s r l a = 0 ∧ 0 ≤ n ∧ n ≤ fillL s r l a now := by
  unfold takeE at h
  split at h
  · omega
  split at h
  · omega
  split at h
  · omega
  · omega
theorem fill_in {s r l a now : Int} (hc : chk s r l a = 0) (h1 : a ≤ now) (h2 : now ≤ 1099511627776) : fillL s r l a now = min s (l + r * (now - a)) ∧ fillA s r l a now = now := by
  unfold fillL fillA; rw [if_pos ⟨hc, h1, h2⟩, if_pos ⟨hc, h1, h2⟩]; exact ⟨rfl, rfl⟩
def NInv (s r : Int) (k : Nat) (nw sm lv a : Int) : Prop := 0 ≤ lv ∧ lv ≤ s ∧ 0 ≤ a ∧ a ≤ nw ∧ nw ≤ 255 * k ∧ 0 ≤ sm ∧ sm + lv ≤ s + r * a
/-- One round in which something is taken. -/
theorem ninv_ok {s r : Int} {k : Nat} {nw sm lv a x y : Int} (hs2 : s ≤ 65535) (hr : 0 ≤ r) (hr2 : r ≤ 65535) (hk : k ≤ 40) (hx : 0 ≤ x) (hx2 : x ≤ 255) (hy : 0 ≤ y)
    (h : NInv s r k nw sm lv a) (hT : takeE s r lv a (9 * y) (nw + x) = 0) :
    NInv s r (k + 1) (nw + x) (sm + 9 * y) (fillL s r lv a (nw + x) - 9 * y) (fillA s r lv a (nw + x)) ∧ chk s r (fillL s r lv a (nw + x) - 9 * y) (fillA s r lv a (nw + x)) = 0 ∧
      sm + 9 * y ≤ s + r * (nw + x) ∧ 0 ≤ r * (nw + x) ∧ r * (nw + x) ≤ 1000000000 := by
  obtain ⟨i1, i2, i3, i4, i5, i6, i7⟩ := h
  obtain ⟨hc, t1, t2⟩ := takeE_zero hT
  obtain ⟨eL, eA⟩ := fill_in (now := nw + x) hc (by omega) (by omega)
  rw [eL] at t2 ⊢
  rw [eA]
  have p0 : 0 ≤ r * (nw + x - a) := Int.mul_nonneg hr (by omega)
  have p1 : 0 ≤ r * (nw + x) := Int.mul_nonneg hr (by omega)
  have p2 : r * (nw + x) ≤ 65535 * 10455 := Int.mul_le_mul hr2 (by omega) (by omega) (by omega)
  have p3 : r * (nw + x) = r * a + r * (nw + x - a) := by rw [← Int.mul_add]; congr 1; omega
  refine ⟨?_, chk_ok ?_, ?_, p1, by omega⟩
  · unfold NInv; omega
  · unfold okB; omega
  · omega
theorem ninv_no {s r : Int} {k : Nat} {nw sm lv a x : Int} (hs2 : s ≤ 65535) (hr : 0 ≤ r) (hr2 : r ≤ 65535) (hk : k ≤ 40) (hx : 0 ≤ x) (hx2 : x ≤ 255)
    (h : NInv s r k nw sm lv a) :
    NInv s r (k + 1) (nw + x) sm lv a ∧ chk s r lv a = 0 ∧ sm ≤ s + r * (nw + x) ∧ 0 ≤ r * (nw + x) ∧ r * (nw + x) ≤ 1000000000 := by
  obtain ⟨i1, i2, i3, i4, i5, i6, i7⟩ := h
  have p0 : 0 ≤ r * (nw + x - a) := Int.mul_nonneg hr (by omega)
  have p1 : 0 ≤ r * (nw + x) := Int.mul_nonneg hr (by omega)
  have p2 : r * (nw + x) ≤ 65535 * 10455 := Int.mul_le_mul hr2 (by omega) (by omega) (by omega)
  have p3 : r * (nw + x) = r * a + r * (nw + x - a) := by rw [← Int.mul_add]; congr 1; omega
  refine ⟨?_, chk_ok ?_, ?_, p1, by omega⟩
  · unfold NInv; omega
  · unfold okB; omega
  · omega
theorem ninv_sum {s r : Int} {k : Nat} {nw sm lv a : Int} (hs2 : s ≤ 65535) (hr : 0 ≤ r) (hr2 : r ≤ 65535) (hk : k ≤ 40) (h : NInv s r k nw sm lv a) : 0 ≤ sm ∧ sm ≤ 1000000000 ∧ 0 ≤ nw ∧ nw ≤ 10200 := by
  obtain ⟨i1, i2, i3, i4, i5, i6, i7⟩ := h
  have p2 : r * a ≤ 65535 * 10200 := Int.mul_le_mul hr2 (by omega) (by omega) (by omega)
  omega
set_option maxRecDepth 100000 in
set_option maxHeartbeats 1600000 in
theorem never_walk (s r : Int) (hs : 0 ≤ s) (hs2 : s ≤ 65535) (hr : 0 ≤ r) (hr2 : r ≤ 65535) (len cap b off : Nat) (f0 f1 : Nat → Int) (w : World) (hb : b < w.heap.size)
   (hl : len ≤ 40) (h0 : ∀ i, i < len → w.cell? ⟨b, off + i * 2, none⟩ = some (.int .u8 (f0 i)) ∧ 0 ≤ f0 i ∧ f0 i ≤ 255)
   (h1 : ∀ i, i < len → w.cell? ⟨b, off + i * 2 + 1, none⟩ = some (.int .u8 (f1 i)) ∧ 0 ≤ f1 i ∧ f1 i ≤ 255) :
    Calls Try.prog 5 #[.int .u16 s, .int .u16 r, .slice (some ⟨b, off, none⟩) len cap] w fun e w' => e = .returned (.bool true) ∧ More w w' := by
  have hn : chk s r s 0 = 0 := chk_ok (by unfold okB; omega)
  have h0' := Lib.hid h0
  have h1' := Lib.hid h1
  clear h0 h1
  refine calls_wd ?_
  go_enter Try.func5, Try.ntmps5
  go_wp2_with (first | (go_at_call 17; ((with_reducible refine (qnew_ok _ _ _ _ hn).mono ?_); rintro e w1 ⟨rfl, x1, n1, rfl⟩)))
  have Hn := Lib.hid hn
  clear hn
  go_loopw [9, 10, 11] (fun now sum i wr => ∃ (k : Nat) (nw sm lv a : Int) (m : Ext), k ≤ len ∧ now = .int .i64 nw ∧ sum = .int .i64 sm ∧ i = .int .i64 k ∧ NInv s r k nw sm lv a ∧ wr = wd w [m.e, #[.cells #[.int .i64 s, .int .i64 r, .int .i64 lv, .int .i64 a] 39], x1] m.n) (fun _ _ i _ => len - (intOf i).toNat)
  case atStart => exact ⟨0, 0, 0, s, 0, ⟨#[], n1⟩, Nat.zero_le _, rfl, rfl, rfl, by unfold NInv; omega, (wd_empty _ _ _).symm⟩
  case round =>
    obtain ⟨k, nw, sm, lv, a, m, hk, rfl, rfl, rfl, hinv, rfl⟩ := hrel
    obtain ⟨j1, j2, j3, j4⟩ := ninv_sum hs2 hr hr2 (by omega) hinv
    by_cases hlt : k < len
    · obtain ⟨c0, c01, c02⟩ := h0'.out k hlt
      obtain ⟨c1, c11, c12⟩ := h1'.out k hlt
      by_cases hT : takeE s r lv a (9 * f1 k) (nw + f0 k) = 0
      · obtain ⟨g1, g2, g3, g4, g5⟩ := ninv_ok hs2 hr hr2 (by omega) c01 c02 c11 hinv hT
        have HT := Lib.hid hT
        clear hT
        go_wp2_with fail
        refine wp_region_new [0, 1, 2, 3, 4, 5, 6, 7, 8, 9, 10, 11, 12] 13 12 [14, 15] [true, true, true, true, true, true, true, true, true, true, true, true, true] [false, false, false, false, false, false, false, false, false, false, false, false, false, false, true, true] (fun b => .pointer (some ⟨b, 0, none⟩)) (.cells #[.int .i64 0, .int .i64 0, .int .i64 0, .int .i64 0] 39) ⟨rfl, rfl⟩ (by kernel_rfl) (by kernel_rfl) (fun _ _ d _ _ h => by cases d <;> exact h) ⟨_, _, _, _, rfl⟩ ?_
        apply Exists.intro
        refine ⟨?_, ?_, ?_⟩
        · intro E
          simp only [sel_t, sel_f, sel_n]
          repeat (go_big_quiet_step ((first | (go_at_call 15; with_reducible exact Calls.wd_of (qtake_ok _ _ _ _ _ _ _ HT.out)))))
          exact wpQuiet_nil rfl
        · intro o ho w0; obtain rfl := Option.some.inj ho; go_simp
        intro e0 m0
        simp only [sel_t, sel_f, sel_n, put_lit, List.set_cons_succ, List.set_cons_zero, shape_cons, shape_nil]
        go_wp2_with (first | (go_at_call 21; ((with_reducible refine (qchk_any _ _ _ _ _).mono ?_); rintro e w1 ⟨rfl, x1, n1, rfl⟩)))
        go_roundw
        case rel => exact ⟨k + 1, _, _, _, _, ⟨_, _⟩, by omega, rfl, rfl, by go_num, g1, by rw [wd_merge, wd_merge, wd_merge, wd_merge]⟩
        case measure => simp [intOf]; omega
      · obtain ⟨g1, g2, g3, g4, g5⟩ := ninv_no hs2 hr hr2 (by omega) c01 c02 hinv
        have HT := Lib.hid hT
        have hT' : (takeE s r lv a (9 * f1 k) (nw + f0 k) == 0) = false := by simpa using hT
        clear hT
        go_wp2_with fail
        refine wp_region_new [0, 1, 2, 3, 4, 5, 6, 7, 8, 9, 10, 11, 12] 13 12 [14, 15] [true, true, true, true, true, true, true, true, true, true, true, true, true] [false, false, false, false, false, false, false, false, false, false, false, false, false, false, true, true] (fun b => .pointer (some ⟨b, 0, none⟩)) (.cells #[.int .i64 0, .int .i64 0, .int .i64 0, .int .i64 0] 39) ⟨rfl, rfl⟩ (by kernel_rfl) (by kernel_rfl) (fun _ _ d _ _ h => by cases d <;> exact h) ⟨_, _, _, _, rfl⟩ ?_
        apply Exists.intro
        refine ⟨?_, ?_, ?_⟩
        · intro E
          simp only [sel_t, sel_f, sel_n]
          repeat (go_big_quiet_step ((first | (go_at_call 15; with_reducible exact Calls.wd_of (qtake_no _ _ _ _ _ _ _ HT.out)))))
          exact wpQuiet_nil rfl
        · intro o ho w0; obtain rfl := Option.some.inj ho; go_simp
        intro e0 m0
        simp only [sel_t, sel_f, sel_n, put_lit, List.set_cons_succ, List.set_cons_zero, shape_cons, shape_nil]
        go_wp2_with (first | (go_at_call 21; ((with_reducible refine (qchk_any _ _ _ _ _).mono ?_); rintro e w1 ⟨rfl, x1, n1, rfl⟩)))
        go_roundw
        case rel => exact ⟨k + 1, _, _, _, _, ⟨_, _⟩, by omega, rfl, rfl, by go_num, g1, by rw [wd_merge, wd_merge, wd_merge, wd_merge]⟩
        case measure => simp [intOf]; omega
    · go_wp2_with (first | (go_at_call 23; ((with_reducible refine (qawake _).mono ?_); rintro e w1 ⟨rfl, x1, n1, rfl⟩)))
      go_ret
      exact ⟨rfl, more_wd _ _ _⟩

set_option maxRecDepth 100000 in
set_option maxHeartbeats 1600000 in
theorem never_none (s r : Int) (hs : 0 ≤ s) (hs2 : s ≤ 65535) (hr : 0 ≤ r) (hr2 : r ≤ 65535) (a : Option Addr) (cap : Nat) (w : World) :
    Calls Try.prog 5 #[.int .u16 s, .int .u16 r, .slice a 0 cap] w fun e w' => e = .returned (.bool true) ∧ More w w' := by
  have hn : chk s r s 0 = 0 := chk_ok (by unfold okB; omega)
  refine calls_wd ?_
  go_enter Try.func5, Try.ntmps5
  go_wp2_with (first | (go_at_call 17; ((with_reducible refine (qnew_ok _ _ _ _ hn).mono ?_); rintro e w1 ⟨rfl, x1, n1, rfl⟩)) | (go_at_call 23; ((with_reducible refine (qawake _).mono ?_); rintro e w1 ⟨rfl, x1, n1, rfl⟩)))
  refine wp_loop_rounds 1 ?_; rw [rounds_succ]
  go_wp2_with (first | (go_at_call 17; ((with_reducible refine (qnew_ok _ _ _ _ hn).mono ?_); rintro e w1 ⟨rfl, x1, n1, rfl⟩)) | (go_at_call 23; ((with_reducible refine (qawake _).mono ?_); rintro e w1 ⟨rfl, x1, n1, rfl⟩)))
  go_ret
  exact ⟨rfl, more_wd _ _ _⟩
set_option maxRecDepth 100000 in
set_option maxHeartbeats 1600000 in
theorem never_long (s r : Int) (len cap : Nat) (a : Option Addr) (w : World) (hl : 40 < len) :
    Calls Try.prog 5 #[.int .u16 s, .int .u16 r, .slice a len cap] w fun e w' => e = .returned (.bool true) ∧ More w w' := by
  refine calls_wd ?_
  go_enter Try.func5, Try.ntmps5
  go_wp2_with (first | (go_at_call 23; ((with_reducible refine (qawake _).mono ?_); rintro e w1 ⟨rfl, x1, n1, rfl⟩)))
  go_ret
  exact ⟨rfl, more_wd _ _ _⟩
end Go.Proofs.Ytlahfjnfidhleaa
