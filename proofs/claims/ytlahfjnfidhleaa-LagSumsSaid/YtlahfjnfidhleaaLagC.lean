/- The statement LagSums, proved: of every list of lags, three numbers and a bool the law answers true, and what was handed in reads as it did. No condition. -/
import Derived.Test.YtlahfjnfidhleaaLagB
import Derived.Test.YtlahfjnfidhleaaOpen
namespace Go.Proofs.Ytlahfjnfidhleaa
open Go.ChangeShapes Go.WideShapes Go.ChangeAt Go.RowKit
set_option linter.unusedVariables false
set_option linter.unusedSimpArgs false

theorem more_same (w : World) (M : List (Array Obj)) (k n : Nat) : More (wd w M k) (wd w M n) := ⟨#[], n, world_ext (Array.append_empty).symm rfl rfl rfl rfl⟩
theorem more_cons {W w : World} {M : List (Array Obj)} {p : Array Obj} {n : Nat} (h : More W (wd w M n)) : More W (wd w (p :: M) n) := h.onto p n
theorem most_rd (l : List Lg) (h : Lg) (h0 : l[0]? = some h) (v : Value) (w : World) (hv : RdRow w 5 v l.length (l.flatMap Lg.cells)) (hl : l.length ≤ 1000000) :
    Calls Try.prog 9 #[v] w fun e w' => e = .returned (.tuple #[lgv (mostD l), .bool true]) ∧ More w w' := by
  have hlen : 0 < l.length := (List.getElem?_eq_some_iff.1 h0).1
  obtain ⟨_, ⟨h1, _⟩ | ⟨b, off, cap, rfl, hb, hc⟩⟩ := hv
  · omega
  · exact most_cons l h h0 b off cap w hb hc hl
theorem rmost_rd (l : List Lg) (h : Lg) (h0 : l[0]? = some h) (v : Value) (w : World) (hv : RdRow w 5 v l.length (l.flatMap Lg.cells)) (hl : l.length ≤ 1000000) :
    Calls Try.prog 10 #[v] w fun e w' => e = .returned (.tuple #[lgv (mostD l), .bool true]) ∧ More w w' := by
  have hlen : 0 < l.length := (List.getElem?_eq_some_iff.1 h0).1
  obtain ⟨_, ⟨h1, _⟩ | ⟨b, off, cap, rfl, hb, hc⟩⟩ := hv
  · omega
  · exact rmost_cons l h h0 b off cap w hb hc hl

def awl : List Lg := [⟨⟨#[]⟩, 0, 0, 0, 2⟩, ⟨⟨#[116]⟩, 0, 0, 0, 5⟩, ⟨⟨#[]⟩, 0, 0, 0, -1⟩]
set_option maxRecDepth 100000 in
set_option maxHeartbeats 1600000 in
theorem lawake (w : World) : Calls Try.prog 8 #[] w fun e w' => e = .returned (.bool true) ∧ More w w' := by
  have t1 : totalL awl = 7 := by decide
  have o1 : ofF 0 5 2 true = 3 := by decide
  have o2 : ofF 1 5 0 true = 4 := by decide
  have o3 : ofF 1 5 9 false = 4 := by decide
  have m1 : mostD awl = ⟨⟨#[116]⟩, 0, 0, 0, 5⟩ := rfl
  have HR : Hid (RdRow (wd w [#[.cells #[.string ⟨#[]⟩, .int .i64 0, .int .i64 0, .int .i64 0, .int .i64 2, .string ⟨#[116]⟩, .int .i64 0, .int .i64 0, .int .i64 0, .int .i64 5, .string ⟨#[]⟩, .int .i64 0, .int .i64 0, .int .i64 0, .int .i64 (-1)] 27]] w.drawn)
      5 (.slice (some ⟨sz w.heap.size [], 0, none⟩) 3 3) awl.length (awl.flatMap Lg.cells)) := rdrow_of_block (b := sz w.heap.size []) (wd_at w [] _ _ _ _ rfl rfl) 5 3 3 rfl
  have h0 : awl[0]? = some ⟨⟨#[]⟩, 0, 0, 0, 2⟩ := rfl
  have H0 := Lib.hid h0
  clear h0
  refine calls_wd ?_
  go_enter Try.func8, Try.ntmps8
  go_wp2_with (first
    | (go_at_call 9; ((with_reducible refine (most_rd awl _ H0.out _ _ (HR.out.more (by repeat (first | exact more_same _ _ _ _ | apply more_cons))) (by decide)).mono ?_); rintro e w1 ⟨rfl, x1, n1, rfl⟩))
    | (go_at_call 11; ((with_reducible refine (total_any awl _ _ (HR.out.more (by repeat (first | exact more_same _ _ _ _ | apply more_cons))) (by decide)).mono ?_); rintro e w1 ⟨rfl, x1, n1, rfl⟩))
    | (go_at_call 13; ((with_reducible refine (of_any _ _ _ _ _ (by decide) (by decide) (by decide) (by decide) (by decide) (by decide)).mono ?_); rintro e w1 ⟨rfl, rfl⟩)))
  go_ret
  exact ⟨rfl, more_wd _ _ _⟩

theorem rdrow_nil (w : World) (a : Option Addr) (cap : Nat) : RdRow w 5 (.slice a 0 cap) ([] : List Lg).length (([] : List Lg).flatMap Lg.cells) := ⟨rfl, .inl ⟨rfl, a, cap, rfl⟩⟩
theorem info_lag : (Try.prog.info? 27).map (fun i => (i.zero, i.size, i.bytes)) = some (some (.agg #[.string ⟨#[]⟩, .int .i64 0, .int .i64 0, .int .i64 0, .int .i64 0]), 5, 48) := by kernel_rfl
theorem tri62 (n : Int) : n < 0 ∨ (0 ≤ n ∧ 4611686018427387904 < n) ∨ (0 ≤ n ∧ n ≤ 4611686018427387904) := by omega
abbrev nblk (p0 p1 p2 : Int) : Array Obj := #[.cells #[.int .i64 p0, .int .i64 p1, .int .i64 p2] 23]
set_option maxRecDepth 100000 in
set_option maxHeartbeats 3200000 in
theorem sums_nil (a : Option Addr) (cap : Nat) (p0 p1 p2 : Int) (hs : Bool) (w : World) :
    Calls Try.prog 3 #[.slice a 0 cap, .agg #[.int .i64 p0, .int .i64 p1, .int .i64 p2], .bool hs] w fun e w' => e = .returned (.bool true) ∧ More w w' := by
  have t0 : totalL [] = 0 := rfl
  refine calls_wd ?_
  go_enter Try.func3, Try.ntmps3
  go_wp2
  refine wp_loop_rounds 1 ?_; rw [rounds_succ]
  go_wp2_with (first
    | (go_at_call 9; ((with_reducible refine (most_nil _ _ _).mono ?_); rintro e w1 ⟨rfl, x1, n1, rfl⟩))
    | (go_at_call 10; ((with_reducible refine (rmost_nil _ _ _).mono ?_); rintro e w1 ⟨rfl, x1, n1, rfl⟩))
    | (go_at_call 11; ((with_reducible refine (total_any [] _ _ (rdrow_nil _ _ _) (by decide)).mono ?_); rintro e w1 ⟨rfl, x1, n1, rfl⟩))
    | (go_at_call 12; ((with_reducible refine (rtotal_any [] _ _ (rdrow_nil _ _ _) (by decide)).mono ?_); rintro e w1 ⟨rfl, x1, n1, rfl⟩)))
  rcases tri62 p0 with d0 | ⟨d0, e0⟩ | ⟨d0, e0⟩
  · refine wp_loop_rounds 4 ?_
    rw [rounds_succ]
    go_wp2_with (first | (go_at_call 8; ((with_reducible refine (lawake _).mono ?_); rintro e w1 ⟨rfl, x1, n1, rfl⟩)))
    go_ret
    exact ⟨rfl, more_wd _ _ _⟩
  · refine wp_loop_rounds 4 ?_
    rw [rounds_succ]
    go_wp2_with (first | (go_at_call 8; ((with_reducible refine (lawake _).mono ?_); rintro e w1 ⟨rfl, x1, n1, rfl⟩)))
    go_ret
    exact ⟨rfl, more_wd _ _ _⟩
  ·
    rcases tri62 p1 with d1 | ⟨d1, e1⟩ | ⟨d1, e1⟩
    · refine wp_loop_rounds 4 ?_
      rw [rounds_succ]
      go_wp2_with (first | (go_at_call 8; ((with_reducible refine (lawake _).mono ?_); rintro e w1 ⟨rfl, x1, n1, rfl⟩)))
      rw [rounds_succ]
      go_wp2_with (first | (go_at_call 8; ((with_reducible refine (lawake _).mono ?_); rintro e w1 ⟨rfl, x1, n1, rfl⟩)))
      go_ret
      exact ⟨rfl, more_wd _ _ _⟩
    · refine wp_loop_rounds 4 ?_
      rw [rounds_succ]
      go_wp2_with (first | (go_at_call 8; ((with_reducible refine (lawake _).mono ?_); rintro e w1 ⟨rfl, x1, n1, rfl⟩)))
      rw [rounds_succ]
      go_wp2_with (first | (go_at_call 8; ((with_reducible refine (lawake _).mono ?_); rintro e w1 ⟨rfl, x1, n1, rfl⟩)))
      go_ret
      exact ⟨rfl, more_wd _ _ _⟩
    ·
      rcases tri62 p2 with d2 | ⟨d2, e2⟩ | ⟨d2, e2⟩
      · refine wp_loop_rounds 4 ?_
        rw [rounds_succ]
        go_wp2_with (first | (go_at_call 8; ((with_reducible refine (lawake _).mono ?_); rintro e w1 ⟨rfl, x1, n1, rfl⟩)))
        rw [rounds_succ]
        go_wp2_with (first | (go_at_call 8; ((with_reducible refine (lawake _).mono ?_); rintro e w1 ⟨rfl, x1, n1, rfl⟩)))
        rw [rounds_succ]
        go_wp2_with (first | (go_at_call 8; ((with_reducible refine (lawake _).mono ?_); rintro e w1 ⟨rfl, x1, n1, rfl⟩)))
        go_ret
        exact ⟨rfl, more_wd _ _ _⟩
      · refine wp_loop_rounds 4 ?_
        rw [rounds_succ]
        go_wp2_with (first | (go_at_call 8; ((with_reducible refine (lawake _).mono ?_); rintro e w1 ⟨rfl, x1, n1, rfl⟩)))
        rw [rounds_succ]
        go_wp2_with (first | (go_at_call 8; ((with_reducible refine (lawake _).mono ?_); rintro e w1 ⟨rfl, x1, n1, rfl⟩)))
        rw [rounds_succ]
        go_wp2_with (first | (go_at_call 8; ((with_reducible refine (lawake _).mono ?_); rintro e w1 ⟨rfl, x1, n1, rfl⟩)))
        go_ret
        exact ⟨rfl, more_wd _ _ _⟩
      ·
        refine wp_loop_rounds 4 ?_
        rw [rounds_succ]
        go_wp2
        rw [rounds_succ]
        go_wp2
        rw [rounds_succ]
        go_wp2
        rw [rounds_succ]
        go_wp2
        refine wp_region_wd (by kernel_rfl) (by kernel_rfl) ?_
        repeat (go_big_quiet_step ((first | (go_at_call 13; with_reducible exact Calls.wd_same (of_any _ _ _ _ _ d0 e0 d1 e1 d2 e2)) | (go_at_call 14; with_reducible exact Calls.wd_same (rof_any _ _ _ _ _ d0 e0 d1 e1 d2 e2)) | (go_at_call 8; with_reducible exact Calls.wd_of (lawake _)))))
        refine wpQuiet_nil ?_
        rintro _ ⟨mx, rfl⟩
        go_wp2
        go_ret
        exact ⟨rfl, more_wd _ _ _⟩
set_option maxHeartbeats 800000 in
theorem sums_long (a : Option Addr) (len cap : Nat) (p0 p1 p2 : Int) (hs : Bool) (w : World) (hl : 40 < len) :
    Calls Try.prog 3 #[.slice a len cap, .agg #[.int .i64 p0, .int .i64 p1, .int .i64 p2], .bool hs] w fun e w' => e = .returned (.bool true) ∧ More w w' := by
  refine calls_wd ?_
  go_enter Try.func3, Try.ntmps3
  go_wp2_with (first | (go_at_call 8; ((with_reducible refine (lawake _).mono ?_); rintro e w1 ⟨rfl, x1, n1, rfl⟩)))
  go_ret
  exact ⟨rfl, more_wd _ _ _⟩
set_option maxRecDepth 100000 in
set_option maxHeartbeats 3200000 in
theorem sums_walk (l : List Lg) (v : Value) (p0 p1 p2 : Int) (hs : Bool) (w : World) (hv : RdRow w 5 v l.length (l.flatMap Lg.cells)) (hl : l.length ≤ 40) :
    Calls Try.prog 3 #[v, .agg #[.int .i64 p0, .int .i64 p1, .int .i64 p2], .bool hs] w fun e w' => e = .returned (.bool true) ∧ More w w' := by
  obtain ⟨i0, hi, hz0, hz1, hz2⟩ := info_parts info_lag
  have HV := Lib.hid hv
  obtain ⟨_, ⟨h0, a, cap, rfl⟩ | ⟨b, off, cap, rfl, hb, hc⟩⟩ := hv
  · exact sums_nil a cap p0 p1 p2 hs w
  · by_cases hlen : l.length = 0
    · rw [hlen]; exact sums_nil _ cap p0 p1 p2 hs w
    obtain ⟨h, hh⟩ : ∃ h, l[0]? = some h := ⟨_, List.getElem?_eq_getElem (by omega)⟩
    have HH := Lib.hid hh
    have HC := Lib.hid hc
    clear hc hh
    have hlt0 : 0 < l.length := by omega
    have HLEN := Lib.hid hlen
    clear hlen
    refine calls_wd ?_
    go_enter Try.func3, Try.ntmps3
    go_wp2
    go_loopw [7, 8] (fun x i wr => ∃ (k : Nat) (m : Ext), k ≤ l.length ∧ i = .int .i64 k ∧ rowIn w.heap.size [1] m.e 27 5 x k ((l.take k).flatMap Lg.cells) ∧ wr = wd w [m.e, nblk p0 p1 p2] m.n) (fun _ i _ => l.length - (intOf i).toNat)
    case atStart => exact ⟨0, ⟨#[], w.drawn⟩, Nat.zero_le _, rfl, rowIn_nil _ _ _ _ _, (wd_empty _ _ _).symm⟩
    case round =>
      obtain ⟨k, m, hk, rfl, hrow, rfl⟩ := hrel
      by_cases hlt : k < l.length
      · obtain ⟨x, hx⟩ : ∃ x, l[k]? = some x := ⟨_, List.getElem?_eq_getElem hlt⟩
        obtain ⟨c0, c1, c2, c3, c4⟩ := rd_at HC.out k x hx
        have hT : Hid ((l.take (k + 1)).flatMap Lg.cells = (l.take k).flatMap Lg.cells ++ x.cells) := Lib.hid (by rw [take_get l k x hx]; simp)
        have hk40 : k ≤ 40 := by omega
        have HROW := Lib.hid hrow
        have HX := Lib.hid hx
        clear hx hrow
        go_wp2_with (at_builtin; refine wp_append_row (L := [nblk p0 p1 p2]) rfl _ _ _ rfl 27 i0 _ 5 48 Try.underlying25 hi hz0 hz1 hz2 rfl (by decide) _ k _ rfl HROW.out _ _ 1 1 rfl rfl (by simp [Value.oneCell']) (by unfold maxLen; omega) (by omega) ?_; intro v' m' hrow')
        go_roundw
        case rel => exact ⟨k + 1, m', by omega, by go_num, by rw [hT.out]; exact hrow', rfl⟩
        case measure => simp [intOf]; omega
      · obtain rfl : k = l.length := by omega
        rw [List.take_length] at hrow
        have HRX : Hid (RdRow (wd w [m.e, nblk p0 p1 p2] m.n) 5 _ l.length (l.flatMap Lg.cells)) := rdrow_of_row (L := [nblk p0 p1 p2]) hrow
        clear hrow
        go_wp2_with (first
          | (go_at_call 9; ((with_reducible refine (most_rd l h HH.out _ _ (HRX.out.more (by repeat (first | exact more_same _ _ _ _ | apply more_cons))) (by omega)).mono ?_); rintro e w1 ⟨rfl, x1, n1, rfl⟩))
          | (go_at_call 10; ((with_reducible refine (rmost_rd l h HH.out _ _ (HV.out.more (more_wd _ _ _)) (by omega)).mono ?_); rintro e w1 ⟨rfl, x1, n1, rfl⟩))
          | (go_at_call 11; ((with_reducible refine (total_any l _ _ (HRX.out.more (by repeat (first | exact more_same _ _ _ _ | apply more_cons))) (by omega)).mono ?_); rintro e w1 ⟨rfl, x1, n1, rfl⟩))
          | (go_at_call 12; ((with_reducible refine (rtotal_any l _ _ (HV.out.more (more_wd _ _ _)) (by omega)).mono ?_); rintro e w1 ⟨rfl, x1, n1, rfl⟩)))
        rcases tri62 p0 with d0 | ⟨d0, e0⟩ | ⟨d0, e0⟩
        · refine wp_loop_rounds 4 ?_
          rw [rounds_succ]
          go_wp2_with (first | (go_at_call 8; ((with_reducible refine (lawake _).mono ?_); rintro e w1 ⟨rfl, x1, n1, rfl⟩)))
          go_ret
          exact ⟨rfl, more_wd _ _ _⟩
        · refine wp_loop_rounds 4 ?_
          rw [rounds_succ]
          go_wp2_with (first | (go_at_call 8; ((with_reducible refine (lawake _).mono ?_); rintro e w1 ⟨rfl, x1, n1, rfl⟩)))
          go_ret
          exact ⟨rfl, more_wd _ _ _⟩
        ·
          rcases tri62 p1 with d1 | ⟨d1, e1⟩ | ⟨d1, e1⟩
          · refine wp_loop_rounds 4 ?_
            rw [rounds_succ]
            go_wp2_with (first | (go_at_call 8; ((with_reducible refine (lawake _).mono ?_); rintro e w1 ⟨rfl, x1, n1, rfl⟩)))
            rw [rounds_succ]
            go_wp2_with (first | (go_at_call 8; ((with_reducible refine (lawake _).mono ?_); rintro e w1 ⟨rfl, x1, n1, rfl⟩)))
            go_ret
            exact ⟨rfl, more_wd _ _ _⟩
          · refine wp_loop_rounds 4 ?_
            rw [rounds_succ]
            go_wp2_with (first | (go_at_call 8; ((with_reducible refine (lawake _).mono ?_); rintro e w1 ⟨rfl, x1, n1, rfl⟩)))
            rw [rounds_succ]
            go_wp2_with (first | (go_at_call 8; ((with_reducible refine (lawake _).mono ?_); rintro e w1 ⟨rfl, x1, n1, rfl⟩)))
            go_ret
            exact ⟨rfl, more_wd _ _ _⟩
          ·
            rcases tri62 p2 with d2 | ⟨d2, e2⟩ | ⟨d2, e2⟩
            · refine wp_loop_rounds 4 ?_
              rw [rounds_succ]
              go_wp2_with (first | (go_at_call 8; ((with_reducible refine (lawake _).mono ?_); rintro e w1 ⟨rfl, x1, n1, rfl⟩)))
              rw [rounds_succ]
              go_wp2_with (first | (go_at_call 8; ((with_reducible refine (lawake _).mono ?_); rintro e w1 ⟨rfl, x1, n1, rfl⟩)))
              rw [rounds_succ]
              go_wp2_with (first | (go_at_call 8; ((with_reducible refine (lawake _).mono ?_); rintro e w1 ⟨rfl, x1, n1, rfl⟩)))
              go_ret
              exact ⟨rfl, more_wd _ _ _⟩
            · refine wp_loop_rounds 4 ?_
              rw [rounds_succ]
              go_wp2_with (first | (go_at_call 8; ((with_reducible refine (lawake _).mono ?_); rintro e w1 ⟨rfl, x1, n1, rfl⟩)))
              rw [rounds_succ]
              go_wp2_with (first | (go_at_call 8; ((with_reducible refine (lawake _).mono ?_); rintro e w1 ⟨rfl, x1, n1, rfl⟩)))
              rw [rounds_succ]
              go_wp2_with (first | (go_at_call 8; ((with_reducible refine (lawake _).mono ?_); rintro e w1 ⟨rfl, x1, n1, rfl⟩)))
              go_ret
              exact ⟨rfl, more_wd _ _ _⟩
            ·
              refine wp_loop_rounds 4 ?_
              rw [rounds_succ]
              go_wp2
              rw [rounds_succ]
              go_wp2
              rw [rounds_succ]
              go_wp2
              rw [rounds_succ]
              go_wp2
              refine wp_region_wd (by kernel_rfl) (by kernel_rfl) ?_
              repeat (go_big_quiet_step ((first | (go_at_call 13; with_reducible exact Calls.wd_same (of_any _ _ _ _ _ d0 e0 d1 e1 d2 e2)) | (go_at_call 14; with_reducible exact Calls.wd_same (rof_any _ _ _ _ _ d0 e0 d1 e1 d2 e2)) | (go_at_call 8; with_reducible exact Calls.wd_of (lawake _)))))
              refine wpQuiet_nil ?_
              rintro _ ⟨mx, rfl⟩
              go_wp2
              go_ret
              exact ⟨rfl, more_wd _ _ _⟩

/-! ### what came in -/
theorem div_split (i : Nat) : ∀ size, 0 < size → i = (i / size) * size + i % size := fun size h => by rw [Nat.mul_comm]; exact (Nat.div_add_mod i size).symm
/-- A row in an old block, element by element. -/
theorem rdrow_of_fn {α : Type} (cells : α → List Value) (size : Nat) (hs : ∀ x, (cells x).length = size) (hpos : 0 < size) {w : World} {b off len cap : Nat} (f : Nat → α) (hb : b < w.heap.size)
    (h : ∀ k, k < len → ∀ j, j < size → w.cell? ⟨b, off + (k * size + j), none⟩ = (cells (f k))[j]?) :
    RdRow w size (.slice (some ⟨b, off, none⟩) len cap) ((List.range len).map f).length (((List.range len).map f).flatMap cells) := by
  have hl : ((List.range len).map f).length = len := by simp
  refine ⟨flat_len cells size hs _, .inr ⟨b, off, cap, by rw [hl], hb, fun i hi => ?_⟩⟩
  rw [hl] at hi
  have hk : i / size < len := by rw [Nat.div_lt_iff_lt_mul hpos]; exact hi
  have hj : i % size < size := Nat.mod_lt _ hpos
  have h1 := h (i / size) hk (i % size) hj
  have h2 := flat_at cells size hs ((List.range len).map f) (i / size) (f (i / size)) (i % size) (by simp [hk]) hj
  rw [← div_split i size hpos] at h1 h2
  rw [h1, h2]
theorem Rd.one_bool {P : Program} {w : World} {t : TypeId} {v : Value} (ht : P.underlying t = some .bool) {r : Reach} {b : Nat} (hk : Value.okWide P w r b t v) (h : Rd P w t v.cells.toList) : ∃ x, v = .bool x := by
  obtain ⟨n, h1⟩ := h.bool ht
  refine ⟨n, ?_⟩
  simp only [Value.okWide, ht, Cell.okWide] at hk
  cases v <;> simp_all [Cell.ok, Value.cells]
theorem okWide_array {P : Program} {w : World} {r : Reach} {b : Nat} {t e : TypeId} {n : Nat} {v : Value} (ht : P.underlying t = some (.array n e)) (h : Value.okWide P w r b t v) : ∃ cs, v = .agg cs ∧ cs.size = P.cellsOf t := by
  simp only [Value.okWide, ht] at h
  obtain ⟨cs, h1, h2, _⟩ := h
  exact ⟨cs, h1, h2⟩
theorem slice_of_cells {v : Value} {a : Option Addr} {len cap : Nat} (h : v.cells.toList = [.slice a len cap]) {P : Program} {t e : TypeId} {w : World} {r : Reach} {b : Nat} (ht : P.underlying t = some (.slice e)) (hk : Value.okWide P w r b t v) : v = .slice a len cap := by
  obtain ⟨a', l', c', rfl⟩ := okWide_slice ht hk
  simpa [Value.cells] using h
theorem five {l : List Value} (h : l.length = 5) : ∃ a b c d e, l = [a, b, c, d, e] := by
  match l, h with
  | [a, b, c, d, e], _ => exact ⟨a, b, c, d, e, rfl⟩
theorem three {l : List Value} (h : l.length = 3) : ∃ a b c, l = [a, b, c] := by
  match l, h with
  | [a, b, c], _ => exact ⟨a, b, c, rfl⟩
theorem cells1 : Try.prog.cellsOf 3 = 1 ∧ Try.prog.cellsOf 9 = 1 ∧ Try.prog.cellsOf 28 = 5 ∧ Try.prog.cellsOf 23 = 3 := by refine ⟨?_, ?_, ?_, ?_⟩ <;> kernel_rfl
theorem lag_rd {w : World} {cs : List Value} (h : Rd Try.prog w 28 cs) : ∃ x : Lg, cs = x.cells := by
  obtain ⟨ci, cst, cl, _⟩ := cells1
  obtain ⟨hl, hf⟩ := h.struct Try.underlying28
  rw [cl] at hl
  obtain ⟨a, b, c, d, e, rfl⟩ := five hl
  obtain ⟨s, e0, _⟩ := (hf 0 _ rfl).string Try.underlying9
  obtain ⟨n1, e1, _⟩ := (hf 1 _ rfl).int Try.underlying3
  obtain ⟨n2, e2, _⟩ := (hf 2 _ rfl).int Try.underlying3
  obtain ⟨n3, e3, _⟩ := (hf 3 _ rfl).int Try.underlying3
  obtain ⟨n4, e4, _⟩ := (hf 4 _ rfl).int Try.underlying3
  simp [ci, cst] at e0 e1 e2 e3 e4
  exact ⟨⟨s, n1, n2, n3, n4⟩, by rw [e0, e1, e2, e3, e4]; rfl⟩
theorem nat3_rd {w : World} {r : Reach} {b : Nat} {v : Value} (hk : Value.okWide Try.prog w r b 23 v) (h : Rd Try.prog w 23 v.cells.toList) : ∃ p0 p1 p2, v = .agg #[.int .i64 p0, .int .i64 p1, .int .i64 p2] := by
  obtain ⟨ci, _, _, c3⟩ := cells1
  obtain ⟨cs, rfl, hsz⟩ := okWide_array Try.underlying23 hk
  obtain ⟨_, hf⟩ := h.array Try.underlying23
  rw [c3] at hsz
  obtain ⟨c0, c1, c2, hcs⟩ := three (l := cs.toList) (by simpa using hsz)
  have ecs : cs = #[c0, c1, c2] := by apply Array.toList_inj.1; rw [hcs]
  subst ecs
  obtain ⟨n0, e0, _⟩ := (hf 0 (by decide)).int Try.underlying3
  obtain ⟨n1, e1, _⟩ := (hf 1 (by decide)).int Try.underlying3
  obtain ⟨n2, e2, _⟩ := (hf 2 (by decide)).int Try.underlying3
  simp [Value.cells, ci] at e0 e1 e2
  exact ⟨n0, n1, n2, by rw [e0, e1, e2]⟩

theorem sums_rd {base : Nat} {w : World} (v0 v1 v2 : Value) (k0 : Value.okWide Try.prog w .any base 22 v0) (k1 : Value.okWide Try.prog w .any base 23 v1) (k2 : Value.okWide Try.prog w .any base 4 v2)
    (r0 : Rd Try.prog w 22 v0.cells.toList) (r1 : Rd Try.prog w 23 v1.cells.toList) (r2 : Rd Try.prog w 4 v2.cells.toList) :
    Calls Try.prog 3 #[v0, v1, v2] w fun e w' => e = .returned (.bool true) ∧ More w w' := by
  obtain ⟨p0, p1, p2, rfl⟩ := nat3_rd k1 r1
  obtain ⟨hs, rfl⟩ := Rd.one_bool Try.underlying4 k2 r2
  obtain ⟨ci, cst, cl, _⟩ := cells1
  rcases r0.slice Try.underlying22 (by rw [cl]; decide) with ⟨a, cap, hv, _⟩ | ⟨b, off, len, cap, hv, h0, hl, hm, hb, hcells⟩
  · obtain rfl := slice_of_cells hv Try.underlying22 k0
    exact sums_nil a cap p0 p1 p2 hs w
  · obtain rfl := slice_of_cells hv Try.underlying22 k0
    by_cases h40 : 40 < len
    · exact sums_long _ len cap p0 p1 p2 hs w h40
    rw [cl] at hcells
    have key : ∀ k, ∃ x : Lg, k < len → ∀ j, j < 5 → w.cell? ⟨b, off + (k * 5 + j), none⟩ = x.cells[j]? := fun k => by
      by_cases hk : k < len
      · obtain ⟨cs', _, hr, hc⟩ := hcells k hk
        obtain ⟨x, rfl⟩ := lag_rd hr
        exact ⟨x, fun _ => hc⟩
      · exact ⟨lg0, fun h => absurd h hk⟩
    obtain ⟨f, hf⟩ := Classical.axiomOfChoice key
    have hr := rdrow_of_fn Lg.cells 5 Lg.cells_len (by decide) (cap := cap) f hb hf
    exact sums_walk _ _ p0 p1 p2 hs w hr (by simp; omega)

set_option maxRecDepth 100000 in
theorem liftedLagSums (os : Os) (started : os.Started) (H : Type) (enc : TypeId × Value → H) :
    ReturnsInHanded {} Try.checked os 3 .any (Rows.lagSumsSpec.pre6 enc Try.prog Try.f3 Rows.lagSumsRow.domain false) (Rows.lagSumsSpec.post enc Try.prog Try.f3 false true false false) := by
  refine returnsInHanded_of_change (C := Try.checked) own started (by kernel_rfl) Try.func3
    (ChangeSpec.witness6 (enc := enc) (C := Try.checked) false ⟨#[], #[.slice none 0 0, .agg #[.int .i64 0, .int .i64 0, .int .i64 0], .bool false], []⟩ 8 (by kernel_rfl) (by kernel_rfl) (by kernel_rfl) (by kernel_rfl)) ?_
  intro W base args ds gs before hval0 hW hcnd _
  have hval : ∀ (j : Nat) t v, Try.f3.params[j]? = some t → args[j]? = some v → Value.okWide Try.prog W .any base t v := hval0
  have hW' := hW
  obtain ⟨p, q, hA0, hV, rfl, hfz, hnd⟩ := hW
  have hA : DataW.TrodAll enc Try.prog W 0 (fun _ => true) true Try.f3.params.toList args.toList ds p := hA0
  rw [Try.params3] at hA hval
  obtain ⟨v0, vs0, d0, ds0, p0, q0, hargs, rfl, rfl, h0, r0⟩ := trodAll_cons hA
  obtain ⟨v1, vs1, d1, ds1, p1, q1, rfl, rfl, rfl, h1, r1⟩ := trodAll_cons r0
  obtain ⟨v2, vs2, d2, ds2, p2, q2, rfl, rfl, rfl, h2, r2⟩ := trodAll_cons r1
  obtain ⟨rfl, rfl, rfl⟩ := trodAll_nil r2
  obtain rfl : args = #[v0, v1, v2] := by cases args; simp_all
  obtain ⟨rfl, rfl⟩ := trodVars_none hV
  have lt0 : ∀ x ∈ p0, x.block < W.heap.size := by obtain ⟨m, hm⟩ := h0; exact DataW.trod_lt m _ _ _ hm
  have rd0 : Rd Try.prog W 22 v0.cells.toList := by obtain ⟨m, hm⟩ := h0; exact ⟨H, enc, m, _, hm⟩
  have lt1 : ∀ x ∈ p1, x.block < W.heap.size := by obtain ⟨m, hm⟩ := h1; exact DataW.trod_lt m _ _ _ hm
  have rd1 : Rd Try.prog W 23 v1.cells.toList := by obtain ⟨m, hm⟩ := h1; exact ⟨H, enc, m, _, hm⟩
  have lt2 : ∀ x ∈ p2, x.block < W.heap.size := by obtain ⟨m, hm⟩ := h2; exact DataW.trod_lt m _ _ _ hm
  have rd2 : Rd Try.prog W 4 v2.cells.toList := by obtain ⟨m, hm⟩ := h2; exact ⟨H, enc, m, _, hm⟩
  clear hA0 hval0
  refine (sums_rd v0 v1 v2 (hval 0 22 v0 rfl rfl) (hval 1 23 v1 rfl rfl) (hval 2 4 v2 rfl rfl) rd0 rd1 rd2).mono fun e W' ⟨he, hmore⟩ => ?_
  subst he
  have bel := hmore.below
  exact ⟨_, rfl, _, _, _, [], _, [], hW', trodAll_mk1 (shut_bool Try.underlying4 _), (trodAll_cons_mk (Below.trod laidOut (by kernel_rfl) (of_decide_eq_true (by kernel_rfl)) h0 bel lt0) (trodAll_cons_mk (Below.trod laidOut (by kernel_rfl) (of_decide_eq_true (by kernel_rfl)) h1 bel lt1) (trodAll_cons_mk (Below.trod laidOut (by kernel_rfl) (of_decide_eq_true (by kernel_rfl)) h2 bel lt2) trodAll_mk0))), rfl, bel.frame _, fun h => by cases h⟩

theorem overLagSums : Rows.lagSumsRow.holds Try.pinned (OpenSpec.ofChange Rows.lagSumsSpec) :=
  OpenClaim.holds_of_wide 3 Try.f3 rfl rfl rfl rfl rfl rfl rfl ⟨rfl, rfl, rfl, rfl, rfl⟩ rfl rfl rfl rfl rfl (by kernel_rfl) Try.func3 (by kernel_rfl)
    (of_decide_eq_true (by kernel_rfl)) (by unfold Func.isWrapper; first | (rw [if_pos (by decide +kernel)]; kernel_rfl) | (rw [if_neg (by decide +kernel)]; exact ⟨rfl, rfl⟩))
    (fun os started H enc _ => liftedLagSums os started H enc)

/-- THE STATEMENT. -/
theorem provedLagSums : Rows.LagSumsSaid := overLagSums
#print axioms provedLagSums
end Go.Proofs.Ytlahfjnfidhleaa
