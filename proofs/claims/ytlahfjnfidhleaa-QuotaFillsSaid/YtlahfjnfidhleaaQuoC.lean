/- The quota bucket: the walks of the reference's Fill, of Take and New (program and reference), of Wait at the one bucket that the closed case asks, and of the closed case. -/
import Derived.Test.YtlahfjnfidhleaaQuoB
namespace Go.Proofs.Ytlahfjnfidhleaa
open Go.RowKit
set_option linter.unusedVariables false
set_option linter.unusedSimpArgs false

set_option maxHeartbeats 1600000 in
theorem rfill_any (s r l a now : Int) (w : World) :
    Calls Try.prog 20 #[.agg #[.int .i64 s, .int .i64 r, .int .i64 l, .int .i64 a], .int .i64 now] w fun e w' =>
      e = .returned (.agg #[.int .i64 s, .int .i64 r, .int .i64 (fillL s r l a now), .int .i64 (fillA s r l a now)]) ∧ More w w' := by
  rcases chk_cases s r l a with ⟨hc, hok⟩ | ⟨hc, hnok⟩
  · obtain ⟨b1, b2, b3, b4, b5, b6, b7, b8⟩ := hok
    by_cases h1 : now < a
    · have HF : Hid (fillL s r l a now = l ∧ fillA s r l a now = a) := by
        unfold fillL fillA; rw [if_neg (by omega), if_neg (by omega)]; exact ⟨rfl, rfl⟩
      refine calls_wd ?_
      go_enter Try.func20, Try.ntmps20
      go_wp2_with (refine (rchk_any _ _ _ _ _).mono ?_; rintro e w1 ⟨rfl, e1, n1, rfl⟩)
      refine bodyPost_ret (v := .agg #[.int .i64 s, .int .i64 r, .int .i64 l, .int .i64 a]) (by simp [results, Try.results20, go_sem, *]) rfl ⟨by rw [HF.out.1, HF.out.2], ?_⟩
      exact more_wd _ _ _
    by_cases h2 : 1099511627776 < now
    · have HF : Hid (fillL s r l a now = l ∧ fillA s r l a now = a) := by
        unfold fillL fillA; rw [if_neg (by omega), if_neg (by omega)]; exact ⟨rfl, rfl⟩
      refine calls_wd ?_
      go_enter Try.func20, Try.ntmps20
      go_wp2_with (refine (rchk_any _ _ _ _ _).mono ?_; rintro e w1 ⟨rfl, e1, n1, rfl⟩)
      refine bodyPost_ret (v := .agg #[.int .i64 s, .int .i64 r, .int .i64 l, .int .i64 a]) (by simp [results, Try.results20, go_sem, *]) rfl ⟨by rw [HF.out.1, HF.out.2], ?_⟩
      exact more_wd _ _ _
    have h3 : 0 ≤ now - a := by omega
    by_cases hg : now - a ≤ 1073741824
    · have g1 : 0 ≤ r * (now - a) := Int.mul_nonneg b3 (by omega)
      have g2 : r * (now - a) ≤ 1152921504606846976 := Int.mul_le_mul b4 hg (by omega) (by omega)
      by_cases hs : s ≤ l + r * (now - a)
      · have HF : Hid (fillL s r l a now = s ∧ fillA s r l a now = now) := by
          unfold fillL fillA
          rw [if_pos ⟨hc, by omega, by omega⟩, if_pos ⟨hc, by omega, by omega⟩]
          refine ⟨?_, rfl⟩
          omega
        refine calls_wd ?_
        go_enter Try.func20, Try.ntmps20
        go_wp2_with (refine (rchk_any _ _ _ _ _).mono ?_; rintro e w1 ⟨rfl, e1, n1, rfl⟩)
        refine bodyPost_ret (v := .agg #[.int .i64 s, .int .i64 r, .int .i64 s, .int .i64 now]) (by simp [results, Try.results20, go_sem, *]) rfl ⟨by rw [HF.out.1, HF.out.2], ?_⟩
        exact more_wd _ _ _
      · have HF : Hid (fillL s r l a now = (l + r * (now - a)) ∧ fillA s r l a now = now) := by
          unfold fillL fillA
          rw [if_pos ⟨hc, by omega, by omega⟩, if_pos ⟨hc, by omega, by omega⟩]
          refine ⟨?_, rfl⟩
          omega
        refine calls_wd ?_
        go_enter Try.func20, Try.ntmps20
        go_wp2_with (refine (rchk_any _ _ _ _ _).mono ?_; rintro e w1 ⟨rfl, e1, n1, rfl⟩)
        refine bodyPost_ret (v := .agg #[.int .i64 s, .int .i64 r, .int .i64 (l + r * (now - a)), .int .i64 now]) (by simp [results, Try.results20, go_sem, *]) rfl ⟨by rw [HF.out.1, HF.out.2], ?_⟩
        exact more_wd _ _ _
    · have q2 : r * 1073741824 ≤ r * (now - a) := Int.mul_le_mul_of_nonneg_left (by omega) b3
      have q3 : r = 0 → r * (now - a) = 0 := fun h => by rw [h]; omega
      by_cases hs : s ≤ l + r * 1073741824
      · have HF : Hid (fillL s r l a now = s ∧ fillA s r l a now = now) := by
          unfold fillL fillA
          rw [if_pos ⟨hc, by omega, by omega⟩, if_pos ⟨hc, by omega, by omega⟩]
          refine ⟨?_, rfl⟩
          clear q3; omega
        refine calls_wd ?_
        go_enter Try.func20, Try.ntmps20
        go_wp2_with (refine (rchk_any _ _ _ _ _).mono ?_; rintro e w1 ⟨rfl, e1, n1, rfl⟩)
        refine bodyPost_ret (v := .agg #[.int .i64 s, .int .i64 r, .int .i64 s, .int .i64 now]) (by simp [results, Try.results20, go_sem, *]) rfl ⟨by rw [HF.out.1, HF.out.2], ?_⟩
        exact more_wd _ _ _
      · have HF : Hid (fillL s r l a now = (l + r * 1073741824) ∧ fillA s r l a now = now) := by
          unfold fillL fillA
          rw [if_pos ⟨hc, by omega, by omega⟩, if_pos ⟨hc, by omega, by omega⟩]
          refine ⟨?_, rfl⟩
          have := q3 (by omega); omega
        clear q3
        refine calls_wd ?_
        go_enter Try.func20, Try.ntmps20
        go_wp2_with (refine (rchk_any _ _ _ _ _).mono ?_; rintro e w1 ⟨rfl, e1, n1, rfl⟩)
        refine bodyPost_ret (v := .agg #[.int .i64 s, .int .i64 r, .int .i64 (l + r * 1073741824), .int .i64 now]) (by simp [results, Try.results20, go_sem, *]) rfl ⟨by rw [HF.out.1, HF.out.2], ?_⟩
        exact more_wd _ _ _
  · have HF : Hid (fillL s r l a now = l ∧ fillA s r l a now = a) := by
      unfold fillL fillA; rw [if_neg (by omega), if_neg (by omega)]; exact ⟨rfl, rfl⟩
    refine calls_wd ?_
    go_enter Try.func20, Try.ntmps20
    go_wp2_with (refine (rchk_any _ _ _ _ _).mono ?_; rintro e w1 ⟨rfl, e1, n1, rfl⟩)
    refine bodyPost_ret (v := .agg #[.int .i64 s, .int .i64 r, .int .i64 l, .int .i64 a]) (by simp [results, Try.results20, go_sem, *]) rfl ⟨by rw [HF.out.1, HF.out.2], ?_⟩
    exact more_wd _ _ _

/-! ### Take -/
def takeE (s r l a n now : Int) : Int := if chk s r l a ≠ 0 then 11 else if n < 0 then 2 else if fillL s r l a now < n then 21 else 0
theorem fill_bd {s r l a now : Int} (hc : chk s r l a = 0) : l ≤ fillL s r l a now ∧ fillL s r l a now ≤ s ∧ 0 ≤ l ∧ s ≤ 1073741824 := by
  rcases chk_cases s r l a with ⟨_, hok⟩ | ⟨h, _⟩
  · obtain ⟨b1, b2, b3, b4, b5, b6, b7, b8⟩ := hok
    unfold fillL
    split
    · rename_i h
      have := Int.mul_nonneg b3 (show 0 ≤ now - a by omega)
      omega
    · omega
  · omega

set_option maxHeartbeats 1600000 in
theorem qtake_ok (s r l a n now : Int) (w : World) (hE : takeE s r l a n now = 0) :
    Calls Try.prog 15 #[.agg #[.int .i64 s, .int .i64 r, .int .i64 l, .int .i64 a], .int .i64 n, .int .i64 now] w fun e w' =>
      e = .returned (.tuple #[.agg #[.int .i64 s, .int .i64 r, .int .i64 (fillL s r l a now - n), .int .i64 (fillA s r l a now)], .int .i64 0]) ∧ More w w' := by
  unfold takeE at hE
  split at hE
  · omega
  rename_i hc
  have hc : chk s r l a = 0 := by omega
  split at hE
  · omega
  split at hE
  · omega
  rename_i h1 h2
  have hb := fill_bd (now := now) hc
  obtain ⟨p1, p2, p3, p4⟩ := hb
  refine calls_wd ?_
  go_enter Try.func15, Try.ntmps15
  go_wp2_with (first | (go_at_call 21; refine (qchk_any _ _ _ _ _).mono ?_; rintro e w1 ⟨rfl, e1, n1, rfl⟩) | (go_at_call 19; refine (qfill_any _ _ _ _ _ _).mono ?_; rintro e w1 ⟨rfl, e1, n1, rfl⟩))
  refine bodyPost_ret (v := .tuple #[.agg #[.int .i64 s, .int .i64 r, .int .i64 (fillL s r l a now - n), .int .i64 (fillA s r l a now)], .int .i64 0]) (by simp [results, Try.results15, go_sem, *]) rfl ⟨rfl, ?_⟩
  exact more_wd _ _ _

set_option maxHeartbeats 1600000 in
theorem qtake_no (s r l a n now : Int) (w : World) (hE : takeE s r l a n now ≠ 0) :
    Calls Try.prog 15 #[.agg #[.int .i64 s, .int .i64 r, .int .i64 l, .int .i64 a], .int .i64 n, .int .i64 now] w fun e w' =>
      e = .returned (.tuple #[.agg #[.int .i64 0, .int .i64 0, .int .i64 0, .int .i64 0], .int .i64 (takeE s r l a n now)]) ∧ More w w' := by
  unfold takeE at hE ⊢
  split at hE
  · rename_i hc
    rw [if_pos hc]
    rcases chk_cases s r l a with ⟨h, _⟩ | ⟨hc', _⟩
    · exact absurd h hc
    clear hc hE
    refine calls_wd ?_
    go_enter Try.func15, Try.ntmps15
    go_wp2_with (first | (go_at_call 21; refine (qchk_any _ _ _ _ _).mono ?_; rintro e w1 ⟨rfl, e1, n1, rfl⟩) | (go_at_call 19; refine (qfill_any _ _ _ _ _ _).mono ?_; rintro e w1 ⟨rfl, e1, n1, rfl⟩))
    refine bodyPost_ret (v := .tuple #[.agg #[.int .i64 0, .int .i64 0, .int .i64 0, .int .i64 0], .int .i64 11]) (by simp [results, Try.results15, go_sem, *]) rfl ⟨rfl, ?_⟩
    exact more_wd _ _ _

  rename_i hc
  have hc : chk s r l a = 0 := by omega
  have hb := fill_bd (now := now) hc
  obtain ⟨p1, p2, p3, p4⟩ := hb
  rw [if_neg (by omega)]
  split at hE
  · rename_i h1
    rw [if_pos h1]
    clear hE
    refine calls_wd ?_
    go_enter Try.func15, Try.ntmps15
    go_wp2_with (first | (go_at_call 21; refine (qchk_any _ _ _ _ _).mono ?_; rintro e w1 ⟨rfl, e1, n1, rfl⟩) | (go_at_call 19; refine (qfill_any _ _ _ _ _ _).mono ?_; rintro e w1 ⟨rfl, e1, n1, rfl⟩))
    refine bodyPost_ret (v := .tuple #[.agg #[.int .i64 0, .int .i64 0, .int .i64 0, .int .i64 0], .int .i64 2]) (by simp [results, Try.results15, go_sem, *]) rfl ⟨rfl, ?_⟩
    exact more_wd _ _ _

  rename_i h1
  rw [if_neg h1]
  split at hE
  · rename_i h2
    rw [if_pos h2]
    clear hE
    refine calls_wd ?_
    go_enter Try.func15, Try.ntmps15
    go_wp2_with (first | (go_at_call 21; refine (qchk_any _ _ _ _ _).mono ?_; rintro e w1 ⟨rfl, e1, n1, rfl⟩) | (go_at_call 19; refine (qfill_any _ _ _ _ _ _).mono ?_; rintro e w1 ⟨rfl, e1, n1, rfl⟩))
    refine bodyPost_ret (v := .tuple #[.agg #[.int .i64 0, .int .i64 0, .int .i64 0, .int .i64 0], .int .i64 21]) (by simp [results, Try.results15, go_sem, *]) rfl ⟨rfl, ?_⟩
    exact more_wd _ _ _

  · omega

set_option maxHeartbeats 1600000 in
theorem rtake_ok (s r l a n now : Int) (w : World) (hE : takeE s r l a n now = 0) :
    Calls Try.prog 16 #[.agg #[.int .i64 s, .int .i64 r, .int .i64 l, .int .i64 a], .int .i64 n, .int .i64 now] w fun e w' =>
      e = .returned (.tuple #[.agg #[.int .i64 s, .int .i64 r, .int .i64 (fillL s r l a now - n), .int .i64 (fillA s r l a now)], .int .i64 0]) ∧ More w w' := by
  unfold takeE at hE
  split at hE
  · omega
  rename_i hc
  have hc : chk s r l a = 0 := by omega
  split at hE
  · omega
  split at hE
  · omega
  rename_i h1 h2
  have hb := fill_bd (now := now) hc
  obtain ⟨p1, p2, p3, p4⟩ := hb
  refine calls_wd ?_
  go_enter Try.func16, Try.ntmps16
  go_wp2_with (first | (go_at_call 22; refine (rchk_any _ _ _ _ _).mono ?_; rintro e w1 ⟨rfl, e1, n1, rfl⟩) | (go_at_call 20; refine (rfill_any _ _ _ _ _ _).mono ?_; rintro e w1 ⟨rfl, e1, n1, rfl⟩))
  refine bodyPost_ret (v := .tuple #[.agg #[.int .i64 s, .int .i64 r, .int .i64 (fillL s r l a now - n), .int .i64 (fillA s r l a now)], .int .i64 0]) (by simp [results, Try.results16, go_sem, *]) rfl ⟨rfl, ?_⟩
  exact more_wd _ _ _

set_option maxHeartbeats 1600000 in
theorem rtake_no (s r l a n now : Int) (w : World) (hE : takeE s r l a n now ≠ 0) :
    Calls Try.prog 16 #[.agg #[.int .i64 s, .int .i64 r, .int .i64 l, .int .i64 a], .int .i64 n, .int .i64 now] w fun e w' =>
      e = .returned (.tuple #[.agg #[.int .i64 s, .int .i64 r, .int .i64 l, .int .i64 a], .int .i64 (takeE s r l a n now)]) ∧ More w w' := by
  unfold takeE at hE ⊢
  split at hE
  · rename_i hc
    rw [if_pos hc]
    rcases chk_cases s r l a with ⟨h, _⟩ | ⟨hc', _⟩
    · exact absurd h hc
    clear hc hE
    refine calls_wd ?_
    go_enter Try.func16, Try.ntmps16
    go_wp2_with (first | (go_at_call 22; refine (rchk_any _ _ _ _ _).mono ?_; rintro e w1 ⟨rfl, e1, n1, rfl⟩) | (go_at_call 20; refine (rfill_any _ _ _ _ _ _).mono ?_; rintro e w1 ⟨rfl, e1, n1, rfl⟩))
    refine bodyPost_ret (v := .tuple #[.agg #[.int .i64 s, .int .i64 r, .int .i64 l, .int .i64 a], .int .i64 11]) (by simp [results, Try.results16, go_sem, *]) rfl ⟨rfl, ?_⟩
    exact more_wd _ _ _

  rename_i hc
  have hc : chk s r l a = 0 := by omega
  have hb := fill_bd (now := now) hc
  obtain ⟨p1, p2, p3, p4⟩ := hb
  rw [if_neg (by omega)]
  split at hE
  · rename_i h1
    rw [if_pos h1]
    clear hE
    refine calls_wd ?_
    go_enter Try.func16, Try.ntmps16
    go_wp2_with (first | (go_at_call 22; refine (rchk_any _ _ _ _ _).mono ?_; rintro e w1 ⟨rfl, e1, n1, rfl⟩) | (go_at_call 20; refine (rfill_any _ _ _ _ _ _).mono ?_; rintro e w1 ⟨rfl, e1, n1, rfl⟩))
    refine bodyPost_ret (v := .tuple #[.agg #[.int .i64 s, .int .i64 r, .int .i64 l, .int .i64 a], .int .i64 2]) (by simp [results, Try.results16, go_sem, *]) rfl ⟨rfl, ?_⟩
    exact more_wd _ _ _

  rename_i h1
  rw [if_neg h1]
  split at hE
  · rename_i h2
    rw [if_pos h2]
    clear hE
    refine calls_wd ?_
    go_enter Try.func16, Try.ntmps16
    go_wp2_with (first | (go_at_call 22; refine (rchk_any _ _ _ _ _).mono ?_; rintro e w1 ⟨rfl, e1, n1, rfl⟩) | (go_at_call 20; refine (rfill_any _ _ _ _ _ _).mono ?_; rintro e w1 ⟨rfl, e1, n1, rfl⟩))
    refine bodyPost_ret (v := .tuple #[.agg #[.int .i64 s, .int .i64 r, .int .i64 l, .int .i64 a], .int .i64 21]) (by simp [results, Try.results16, go_sem, *]) rfl ⟨rfl, ?_⟩
    exact more_wd _ _ _

  · omega

/-! ### New -/

set_option maxHeartbeats 1600000 in
theorem qnew_ok (s r now : Int) (w : World) (hc : chk s r s now = 0) :
    Calls Try.prog 17 #[.int .i64 s, .int .i64 r, .int .i64 now] w fun e w' => e = .returned (.tuple #[.agg #[.int .i64 s, .int .i64 r, .int .i64 s, .int .i64 now], .int .i64 0]) ∧ More w w' := by
  refine calls_wd ?_
  go_enter Try.func17, Try.ntmps17
  go_wp2_with (refine (qchk_any _ _ _ _ _).mono ?_; rintro e w1 ⟨rfl, e1, n1, rfl⟩)
  refine bodyPost_ret (v := .tuple #[.agg #[.int .i64 s, .int .i64 r, .int .i64 s, .int .i64 now], .int .i64 0]) (by simp [results, Try.results17, go_sem, *]) rfl ⟨rfl, ?_⟩
  exact more_wd _ _ _

set_option maxHeartbeats 1600000 in
theorem qnew_no (s r now : Int) (w : World) (hc : chk s r s now = 11) :
    Calls Try.prog 17 #[.int .i64 s, .int .i64 r, .int .i64 now] w fun e w' => e = .returned (.tuple #[.agg #[.int .i64 0, .int .i64 0, .int .i64 0, .int .i64 0], .int .i64 11]) ∧ More w w' := by
  refine calls_wd ?_
  go_enter Try.func17, Try.ntmps17
  go_wp2_with (refine (qchk_any _ _ _ _ _).mono ?_; rintro e w1 ⟨rfl, e1, n1, rfl⟩)
  refine bodyPost_ret (v := .tuple #[.agg #[.int .i64 0, .int .i64 0, .int .i64 0, .int .i64 0], .int .i64 11]) (by simp [results, Try.results17, go_sem, *]) rfl ⟨rfl, ?_⟩
  exact more_wd _ _ _

set_option maxHeartbeats 1600000 in
theorem rnew_ok (s r now : Int) (w : World) (hc : chk s r s now = 0) :
    Calls Try.prog 18 #[.int .i64 s, .int .i64 r, .int .i64 now] w fun e w' => e = .returned (.tuple #[.agg #[.int .i64 s, .int .i64 r, .int .i64 s, .int .i64 now], .int .i64 0]) ∧ More w w' := by
  refine calls_wd ?_
  go_enter Try.func18, Try.ntmps18
  go_wp2_with (refine (rchk_any _ _ _ _ _).mono ?_; rintro e w1 ⟨rfl, e1, n1, rfl⟩)
  refine bodyPost_ret (v := .tuple #[.agg #[.int .i64 s, .int .i64 r, .int .i64 s, .int .i64 now], .int .i64 0]) (by simp [results, Try.results18, go_sem, *]) rfl ⟨rfl, ?_⟩
  exact more_wd _ _ _

set_option maxHeartbeats 1600000 in
theorem rnew_no (s r now : Int) (w : World) (hc : chk s r s now = 11) :
    Calls Try.prog 18 #[.int .i64 s, .int .i64 r, .int .i64 now] w fun e w' => e = .returned (.tuple #[.agg #[.int .i64 0, .int .i64 0, .int .i64 0, .int .i64 0], .int .i64 11]) ∧ More w w' := by
  refine calls_wd ?_
  go_enter Try.func18, Try.ntmps18
  go_wp2_with (refine (rchk_any _ _ _ _ _).mono ?_; rintro e w1 ⟨rfl, e1, n1, rfl⟩)
  refine bodyPost_ret (v := .tuple #[.agg #[.int .i64 0, .int .i64 0, .int .i64 0, .int .i64 0], .int .i64 11]) (by simp [results, Try.results18, go_sem, *]) rfl ⟨rfl, ?_⟩
  exact more_wd _ _ _
end Go.Proofs.Ytlahfjnfidhleaa
