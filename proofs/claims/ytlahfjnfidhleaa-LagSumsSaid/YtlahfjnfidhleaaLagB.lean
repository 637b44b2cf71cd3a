/- Lags: Most (program and reference). -/
import Derived.Test.YtlahfjnfidhleaaLagA
import Derived.Test.YtlahfjnfidhleaaSemi
namespace Go.Proofs.Ytlahfjnfidhleaa
open Go.RowKit
set_option linter.unusedVariables false
set_option linter.unusedSimpArgs false

abbrev lgc (x : Lg) (t : TypeId) : Obj := .cells #[.string x.t, .int .i64 x.i, .int .i64 x.a, .int .i64 x.n, .int .i64 x.l] t
def lg0 : Lg := ⟨⟨#[]⟩, 0, 0, 0, 0⟩
def mostD : List Lg → Lg | [] => lg0 | h :: t => mostL h t

set_option maxHeartbeats 800000 in
theorem most_nil (a : Option Addr) (cap : Nat) (w : World) : Calls Try.prog 9 #[.slice a 0 cap] w fun e w' => e = .returned (.tuple #[.agg #[.string ⟨#[]⟩, .int .i64 0, .int .i64 0, .int .i64 0, .int .i64 0], .bool false]) ∧ More w w' := by
  refine calls_wd ?_
  go_enter Try.func9, Try.ntmps9
  go_wp2
  refine bodyPost_ret (v := .tuple #[.agg #[.string ⟨#[]⟩, .int .i64 0, .int .i64 0, .int .i64 0, .int .i64 0], .bool false]) (by simp [results, Try.results9, go_sem]) rfl ⟨rfl, more_wd _ _ _⟩
set_option maxHeartbeats 800000 in
theorem rmost_nil (a : Option Addr) (cap : Nat) (w : World) : Calls Try.prog 10 #[.slice a 0 cap] w fun e w' => e = .returned (.tuple #[.agg #[.string ⟨#[]⟩, .int .i64 0, .int .i64 0, .int .i64 0, .int .i64 0], .bool false]) ∧ More w w' := by
  refine calls_wd ?_
  go_enter Try.func10, Try.ntmps10
  go_wp2
  refine bodyPost_ret (v := .tuple #[.agg #[.string ⟨#[]⟩, .int .i64 0, .int .i64 0, .int .i64 0, .int .i64 0], .bool false]) (by simp [results, Try.results10, go_sem]) rfl ⟨rfl, more_wd _ _ _⟩
theorem ret_lg {x y : Lg} (h : x = y) : Ending.returned (.tuple #[lgv x, .bool true]) = .returned (.tuple #[lgv y, .bool true]) := by rw [h]
set_option maxHeartbeats 1600000 in
theorem most_cons (l : List Lg) (h : Lg) (h0 : l[0]? = some h) (b off cap : Nat) (w : World) (hb : b < w.heap.size) (hc : ∀ i, i < l.length * 5 → w.cell? ⟨b, off + i, none⟩ = (l.flatMap Lg.cells)[i]?) (hl : l.length ≤ 1000000) :
    Calls Try.prog 9 #[.slice (some ⟨b, off, none⟩) l.length cap] w fun e w' => e = .returned (.tuple #[lgv (mostD l), .bool true]) ∧ More w w' := by
  have HM : Hid (mostL h l = mostD l) := by
    match l, h0 with
    | x :: t, h0 => simp at h0; subst h0; exact mostL_self _ _
  have hlen : 0 < l.length := (List.getElem?_eq_some_iff.1 h0).1
  obtain ⟨z0, z1, z2, z3, z4⟩ := rd_at hc 0 h h0
  simp only [Nat.zero_mul, Nat.add_zero] at z0 z1 z2 z3 z4
  have HC := Lib.hid hc
  have H0 := Lib.hid h0
  clear hc h0
  refine calls_wd ?_
  go_enter Try.func9, Try.ntmps9
  go_wp2
  go_loopw [16] (fun i wr => ∃ (k : Nat) (m : Ext), k ≤ l.length ∧ i = .int .i64 k ∧ wr = wd w [m.e, #[lgc (mostL h (l.take k)) 27], #[.cells #[.string ⟨#[]⟩, .int .i64 0, .int .i64 0, .int .i64 0, .int .i64 0] 27]] m.n) (fun i _ => l.length - (intOf i).toNat)
  case atStart => exact ⟨0, ⟨#[], w.drawn⟩, Nat.zero_le _, rfl, (wd_empty _ _ _).symm⟩
  case round =>
    obtain ⟨k, m, hk, rfl, rfl⟩ := hrel
    by_cases hlt : k < l.length
    · obtain ⟨x, hx⟩ : ∃ x, l[k]? = some x := ⟨_, List.getElem?_eq_getElem hlt⟩
      obtain ⟨c0, c1, c2, c3, c4⟩ := rd_at HC.out k x hx
      have hT : Hid (mostL h (l.take (k + 1)) = if x.l > (mostL h (l.take k)).l then x else mostL h (l.take k)) := by rw [take_get l k x hx]; exact mostL_snoc _ _ _
      clear hx z0 z1 z2 z3 z4
      generalize hy : mostL h (l.take k) = y at *
      clear hy
      by_cases hg : y.l < x.l
      all_goals
        go_wp2
        go_roundw
        case rel => exact ⟨k + 1, ⟨_, _⟩, by omega, by go_num, by rw [wd_merge, hT.out]; first | rw [if_pos hg] | rw [if_neg (by omega)]⟩
        case measure => simp [intOf]; omega
    · have hT : Hid (mostL h (l.take k) = mostD l) := by rw [List.take_of_length_le (by omega)]; exact HM.out
      generalize hy : mostL h (l.take k) = y at *
      clear hy
      go_wp2
      refine bodyPost_ret (v := .tuple #[lgv y, .bool true]) (by simp [results, Try.results9, go_sem]) rfl ⟨ret_lg hT.out, more_wd _ _ _⟩
set_option maxHeartbeats 1600000 in
theorem rmost_cons (l : List Lg) (h : Lg) (h0 : l[0]? = some h) (b off cap : Nat) (w : World) (hb : b < w.heap.size) (hc : ∀ i, i < l.length * 5 → w.cell? ⟨b, off + i, none⟩ = (l.flatMap Lg.cells)[i]?) (hl : l.length ≤ 1000000) :
    Calls Try.prog 10 #[.slice (some ⟨b, off, none⟩) l.length cap] w fun e w' => e = .returned (.tuple #[lgv (mostD l), .bool true]) ∧ More w w' := by
  have HM : Hid (mostL h l = mostD l) := by
    match l, h0 with
    | x :: t, h0 => simp at h0; subst h0; exact mostL_self _ _
  have hlen : 0 < l.length := (List.getElem?_eq_some_iff.1 h0).1
  obtain ⟨z0, z1, z2, z3, z4⟩ := rd_at hc 0 h h0
  simp only [Nat.zero_mul, Nat.add_zero] at z0 z1 z2 z3 z4
  have H1 : Hid (mostL h (l.take 1) = h) := by
    match l, h0 with
    | x :: t, h0 => simp at h0; subst h0; simp [mostL]; exact ⟨⟩
  have hne : ((l.length : Int) == 0) = false := by rw [beq_eq_false_iff_ne]; omega
  have HC := Lib.hid hc
  have H0 := Lib.hid h0
  clear hc h0
  refine calls_wd ?_
  go_enter Try.func10, Try.ntmps10
  go_wp2
  go_loopw [5] (fun i wr => ∃ (k : Nat) (m : Ext), 1 ≤ k ∧ k ≤ l.length ∧ i = .int .i64 k ∧ wr = wd w [m.e, #[lgc (mostL h (l.take k)) 28], #[.cells #[.string ⟨#[]⟩, .int .i64 0, .int .i64 0, .int .i64 0, .int .i64 0] 28]] m.n) (fun i _ => l.length - (intOf i).toNat)
  case atStart => exact ⟨1, ⟨#[], w.drawn⟩, Nat.le_refl _, by omega, rfl, by rw [H1.out]; exact (wd_empty _ _ _).symm⟩
  case round =>
    obtain ⟨k, m, hk1, hk, rfl, rfl⟩ := hrel
    by_cases hlt : k < l.length
    · obtain ⟨x, hx⟩ : ∃ x, l[k]? = some x := ⟨_, List.getElem?_eq_getElem hlt⟩
      obtain ⟨c0, c1, c2, c3, c4⟩ := rd_at HC.out k x hx
      have hT : Hid (mostL h (l.take (k + 1)) = if x.l > (mostL h (l.take k)).l then x else mostL h (l.take k)) := by rw [take_get l k x hx]; exact mostL_snoc _ _ _
      clear hx z0 z1 z2 z3 z4
      generalize hy : mostL h (l.take k) = y at *
      clear hy
      by_cases hg : y.l < x.l
      all_goals
        go_wp2
        refine wp_region_wd (by kernel_rfl) (by kernel_rfl) ?_
        repeat (go_big_quiet_step ((fail)))
        refine wpQuiet_nil ?_
        rintro _ ⟨mx, rfl⟩
        go_wp2
        go_roundw
        case rel => exact ⟨k + 1, ⟨_, _⟩, by omega, by omega, by go_num, by rw [wd_merge, hT.out]; first | rw [if_pos hg] | rw [if_neg (by omega)]⟩
        case measure => simp [intOf]; omega
    · have hT : Hid (mostL h (l.take k) = mostD l) := by rw [List.take_of_length_le (by omega)]; exact HM.out
      generalize hy : mostL h (l.take k) = y at *
      clear hy
      go_wp2
      refine bodyPost_ret (v := .tuple #[lgv y, .bool true]) (by simp [results, Try.results10, go_sem]) rfl ⟨ret_lg hT.out, more_wd _ _ _⟩
end Go.Proofs.Ytlahfjnfidhleaa
