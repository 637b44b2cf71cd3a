/- The quota bucket: the walks of ticks and Fill (program and reference). -/
import Derived.Test.YtlahfjnfidhleaaQuoA
namespace Go.Proofs.Ytlahfjnfidhleaa
open Go.RowKit
set_option linter.unusedVariables false
set_option linter.unusedSimpArgs false

/-! ### plain facts -/
def okB (s r l a : Int) : Prop := 0 ≤ s ∧ s ≤ 1073741824 ∧ 0 ≤ r ∧ r ≤ 1073741824 ∧ 0 ≤ l ∧ l ≤ s ∧ 0 ≤ a ∧ a ≤ 1099511627776
theorem inB_iff (n e : Int) : inB n e = true ↔ 0 ≤ n ∧ n ≤ e := by simp [inB]
theorem chk_cases (s r l a : Int) : (chk s r l a = 0 ∧ okB s r l a) ∨ (chk s r l a = 11 ∧ ¬ okB s r l a) := by
  unfold chk okB
  split
  · rename_i h
    simp only [Bool.and_eq_true, inB_iff] at h
    exact .inl ⟨rfl, by omega⟩
  · rename_i h
    simp only [Bool.and_eq_true, inB_iff] at h
    exact .inr ⟨rfl, by omega⟩
def ticksF (n r : Int) : Int := if n ≤ 0 then 0 else (n - 1) / r + 1
def fillL (s r l a now : Int) : Int := if chk s r l a = 0 ∧ a ≤ now ∧ now ≤ 1099511627776 then min s (l + r * (now - a)) else l
def fillA (s r l a now : Int) : Int := if chk s r l a = 0 ∧ a ≤ now ∧ now ≤ 1099511627776 then now else a
theorem ticks_bd (n r : Int) (hr : 1 ≤ r) (hn : n ≤ 1073741824) : 0 ≤ ticksF n r ∧ ticksF n r ≤ 1073741824 := by
  unfold ticksF
  split
  · omega
  · have h1 : 0 ≤ (n - 1) / r := Int.ediv_nonneg (by omega) (by omega)
    have h2 : (n - 1) / r ≤ n - 1 := Int.ediv_le_self _ (by omega)
    omega
theorem ticks_le (n r g : Int) (hr : 1 ≤ r) (hg : 0 ≤ g) : ticksF n r ≤ g ↔ n ≤ r * g := by
  unfold ticksF
  split
  · rename_i h
    have := Int.mul_nonneg (show 0 ≤ r by omega) hg
    constructor <;> intro <;> omega
  · have h : (n - 1) / r < g ↔ n - 1 < g * r := Int.ediv_lt_iff_lt_mul (by omega)
    rw [Int.mul_comm g r] at h
    constructor
    · intro h1; have := h.1 (by omega); omega
    · intro h1; have := h.2 (by omega); omega

/-! ### the walks -/
set_option maxHeartbeats 400000 in
theorem ticks_any (n r : Int) (w : World) (hr : 1 ≤ r) (hr2 : r ≤ 1073741824) (hn : 0 ≤ n) (hn2 : n ≤ 1073741824) :
    Calls Try.prog 32 #[.int .i64 n, .int .i64 r] w fun e w' => e = .returned (.int .i64 (ticksF n r)) ∧ w = w' := by
  by_cases h : n ≤ 0
  · refine calls_wd ?_
    go_enter Try.func32, Try.ntmps32
    go_wp2
    go_ret
    exact ⟨by simp [ticksF, h], rfl⟩
  · have h' : 0 < n := by omega
    have h1 : 0 ≤ (n - 1) / r := Int.ediv_nonneg (by omega) (by omega)
    have h2 : (n - 1) / r ≤ n - 1 := Int.ediv_le_self _ (by omega)
    refine calls_wd ?_
    go_enter Try.func32, Try.ntmps32
    go_wp2
    go_ret
    have HT : ticksF n r = (n - 1) / r + 1 := by unfold ticksF; rw [if_neg (by omega)]
    exact ⟨by rw [HT]; rfl, rfl⟩

theorem ret_b4 {s r l a s' r' l' a' : Int} (h1 : s = s') (h2 : r = r') (h3 : l = l') (h4 : a = a') :
    Ending.returned (.agg #[.int .i64 s, .int .i64 r, .int .i64 l, .int .i64 a]) = .returned (.agg #[.int .i64 s', .int .i64 r', .int .i64 l', .int .i64 a']) := by rw [h1, h2, h3, h4]

set_option maxHeartbeats 1600000 in
theorem qfill_any (s r l a now : Int) (w : World) :
    Calls Try.prog 19 #[.agg #[.int .i64 s, .int .i64 r, .int .i64 l, .int .i64 a], .int .i64 now] w fun e w' =>
      e = .returned (.agg #[.int .i64 s, .int .i64 r, .int .i64 (fillL s r l a now), .int .i64 (fillA s r l a now)]) ∧ More w w' := by
  rcases chk_cases s r l a with ⟨hc, hok⟩ | ⟨hc, hnok⟩
  · obtain ⟨b1, b2, b3, b4, b5, b6, b7, b8⟩ := hok
    by_cases h1 : now < a
    · have HF : Hid (fillL s r l a now = l ∧ fillA s r l a now = a) := by
        unfold fillL fillA; rw [if_neg (by omega), if_neg (by omega)]; exact ⟨rfl, rfl⟩
      refine calls_wd ?_
      go_enter Try.func19, Try.ntmps19
      go_wp2_with (first | (go_at_call 21; refine (qchk_any _ _ _ _ _).mono ?_; rintro e w1 ⟨rfl, e1, n1, rfl⟩))
      refine bodyPost_ret (v := .agg #[.int .i64 s, .int .i64 r, .int .i64 l, .int .i64 a]) (by simp [results, Try.results19, go_sem, *]) rfl ⟨by rw [HF.out.1, HF.out.2], ?_⟩
      exact more_wd _ _ _
    by_cases h2 : 1099511627776 < now
    · have HF : Hid (fillL s r l a now = l ∧ fillA s r l a now = a) := by
        unfold fillL fillA; rw [if_neg (by omega), if_neg (by omega)]; exact ⟨rfl, rfl⟩
      refine calls_wd ?_
      go_enter Try.func19, Try.ntmps19
      go_wp2_with (first | (go_at_call 21; refine (qchk_any _ _ _ _ _).mono ?_; rintro e w1 ⟨rfl, e1, n1, rfl⟩))
      refine bodyPost_ret (v := .agg #[.int .i64 s, .int .i64 r, .int .i64 l, .int .i64 a]) (by simp [results, Try.results19, go_sem, *]) rfl ⟨by rw [HF.out.1, HF.out.2], ?_⟩
      exact more_wd _ _ _
    have h3 : 0 ≤ now - a := by omega
    by_cases h4 : r = 0
    · subst h4
      have HF : Hid (fillL s 0 l a now = l ∧ fillA s 0 l a now = now) := by
        unfold fillL fillA; rw [if_pos ⟨hc, by omega, by omega⟩, if_pos ⟨hc, by omega, by omega⟩]; exact ⟨by omega, rfl⟩
      refine calls_wd ?_
      go_enter Try.func19, Try.ntmps19
      go_wp2_with (first | (go_at_call 21; refine (qchk_any _ _ _ _ _).mono ?_; rintro e w1 ⟨rfl, e1, n1, rfl⟩))
      refine bodyPost_ret (v := .agg #[.int .i64 s, .int .i64 0, .int .i64 l, .int .i64 now]) (by simp [results, Try.results19, go_sem, *]) rfl ⟨by rw [HF.out.1, HF.out.2], ?_⟩
      exact more_wd _ _ _
    have h5 := ticks_le (s - l) r (now - a) (by omega) h3
    have h6 := ticks_bd (s - l) r (by omega) (by omega)
    have h7 := Int.mul_nonneg b3 h3
    have h8 : (r == 0) = false := by simpa using h4
    by_cases h9 : ticksF (s - l) r ≤ now - a
    · have HF : Hid (fillL s r l a now = s ∧ fillA s r l a now = now) := by
        have := h5.1 h9
        unfold fillL fillA; rw [if_pos ⟨hc, by omega, by omega⟩, if_pos ⟨hc, by omega, by omega⟩]; exact ⟨by omega, rfl⟩
      clear h5
      refine calls_wd ?_
      go_enter Try.func19, Try.ntmps19
      go_wp2_with (first | (go_at_call 21; refine (qchk_any _ _ _ _ _).mono ?_; rintro e w1 ⟨rfl, e1, n1, rfl⟩) | (go_at_call 32; refine (ticks_any _ _ _ (by omega) (by omega) (by omega) (by omega)).mono ?_; rintro e w2 ⟨rfl, rfl⟩))
      refine bodyPost_ret (v := .agg #[.int .i64 s, .int .i64 r, .int .i64 s, .int .i64 now]) (by simp [results, Try.results19, go_sem, *]) rfl ⟨by rw [HF.out.1, HF.out.2], ?_⟩
      exact more_wd _ _ _
    · have h10 : r * (now - a) < s - l := by
        by_cases h : s - l ≤ r * (now - a)
        · exact absurd (h5.2 h) h9
        · omega
      have HF : Hid (fillL s r l a now = l + r * (now - a) ∧ fillA s r l a now = now) := by
        unfold fillL fillA; rw [if_pos ⟨hc, by omega, by omega⟩, if_pos ⟨hc, by omega, by omega⟩]; exact ⟨by omega, rfl⟩
      clear h5
      refine calls_wd ?_
      go_enter Try.func19, Try.ntmps19
      go_wp2_with (first | (go_at_call 21; refine (qchk_any _ _ _ _ _).mono ?_; rintro e w1 ⟨rfl, e1, n1, rfl⟩) | (go_at_call 32; refine (ticks_any _ _ _ (by omega) (by omega) (by omega) (by omega)).mono ?_; rintro e w2 ⟨rfl, rfl⟩))
      refine bodyPost_ret (v := .agg #[.int .i64 s, .int .i64 r, .int .i64 (l + r * (now - a)), .int .i64 now]) (by simp [results, Try.results19, go_sem, *]) rfl ⟨by rw [HF.out.1, HF.out.2], ?_⟩
      exact more_wd _ _ _
  · have HF : Hid (fillL s r l a now = l ∧ fillA s r l a now = a) := by
      unfold fillL fillA; rw [if_neg (by omega), if_neg (by omega)]; exact ⟨rfl, rfl⟩
    refine calls_wd ?_
    go_enter Try.func19, Try.ntmps19
    go_wp2_with (first | (go_at_call 21; refine (qchk_any _ _ _ _ _).mono ?_; rintro e w1 ⟨rfl, e1, n1, rfl⟩))
    refine bodyPost_ret (v := .agg #[.int .i64 s, .int .i64 r, .int .i64 l, .int .i64 a]) (by simp [results, Try.results19, go_sem, *]) rfl ⟨by rw [HF.out.1, HF.out.2], ?_⟩
    exact more_wd _ _ _
end Go.Proofs.Ytlahfjnfidhleaa
