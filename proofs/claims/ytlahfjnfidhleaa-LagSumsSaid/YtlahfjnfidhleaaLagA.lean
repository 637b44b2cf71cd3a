/- Lags: the plain functions, and the walks of Of, Total, Most (program and reference). -/
import Derived.Test.YtlahfjnfidhleaaLib
import Derived.Test.YtlahfjnfidhleaaRow
namespace Go.Proofs.Ytlahfjnfidhleaa
open Go.RowKit
set_option linter.unusedVariables false
set_option linter.unusedSimpArgs false

/-! ### a slice that can be read in an old part of the world: n elements of size cells, the cells xs -/
def RdRow (w : World) (size : Nat) (v : Value) (n : Nat) (xs : List Value) : Prop :=
  xs.length = n * size ∧ ((n = 0 ∧ ∃ a cap, v = .slice a 0 cap) ∨ ∃ b off cap, v = .slice (some ⟨b, off, none⟩) n cap ∧ b < w.heap.size ∧ ∀ i, i < n * size → w.cell? ⟨b, off + i, none⟩ = xs[i]?)
theorem RdRow.more {w w' : World} {size : Nat} {v : Value} {n : Nat} {xs : List Value} (h : RdRow w size v n xs) (hm : More w w') : RdRow w' size v n xs := by
  obtain ⟨h1, h2⟩ := h
  refine ⟨h1, ?_⟩
  rcases h2 with h2 | ⟨b, off, cap, hv, hb, hc⟩
  · exact .inl h2
  · have bel := hm.below
    exact .inr ⟨b, off, cap, hv, Nat.lt_of_lt_of_le hb bel.size, fun i hi => by rw [bel.cell hb]; exact hc i hi⟩
theorem rdrow_of_row {w : World} {L : List (Array Obj)} {k : Nat} {e : Array Obj} {E : TypeId} {size : Nat} {v : Value} {n : Nat} {xs : List Value} (h : rowIn w.heap.size (shape L) e E size v n xs) : RdRow (wd w (e :: L) k) size v n xs := by
  have hl := h.1
  rcases rowIn_look h with ⟨rfl, rfl, rfl⟩ | ⟨j, cap, rfl, hn, hm, hj, hc⟩
  · exact ⟨by simp, .inl ⟨rfl, none, 0, rfl⟩⟩
  · refine ⟨hl, .inr ⟨_, 0, cap, rfl, ?_, fun i hi => ?_⟩⟩
    · rw [wd_size, shape_cons]; simp only [at', sz]; omega
    · rw [Nat.zero_add, wd_cell_in w L k _ j i _ e rfl rfl]; exact hc i hi
theorem rdrow_of_block {w : World} {b : Nat} {C : Array Value} {t : TypeId} {fr : Nat × Nat} (hb : w.heap[b]? = some (.cells C t fr)) (size n cap : Nat) (hC : C.size = n * size) : RdRow w size (.slice (some ⟨b, 0, none⟩) n cap) n C.toList := by
  refine ⟨by simpa using hC, .inr ⟨b, 0, cap, rfl, (Array.getElem?_eq_some_iff.1 hb).1, fun i hi => ?_⟩⟩
  simp [World.cell?, hb]
/-- The k-th element's cells. -/
theorem flat_at {α : Type} (cells : α → List Value) (size : Nat) (hs : ∀ x, (cells x).length = size) : ∀ (l : List α) (k : Nat) (x : α) (j : Nat), l[k]? = some x → j < size → (l.flatMap cells)[k * size + j]? = (cells x)[j]?
  | [], k, x, j, h, _ => by simp at h
  | a :: l, 0, x, j, h, hj => by
    simp at h; subst h
    rw [List.flatMap_cons, Nat.zero_mul, Nat.zero_add, List.getElem?_append_left (by rw [hs]; exact hj)]
  | a :: l, k + 1, x, j, h, hj => by
    rw [List.flatMap_cons, List.getElem?_append_right (by rw [hs, Nat.succ_mul]; omega), hs, show (k + 1) * size + j - size = k * size + j by rw [Nat.succ_mul]; omega]
    exact flat_at cells size hs l k x j (by simpa using h) hj
theorem flat_len {α : Type} (cells : α → List Value) (size : Nat) (hs : ∀ x, (cells x).length = size) (l : List α) : (l.flatMap cells).length = l.length * size := by
  induction l with
  | nil => simp
  | cons a l ih => rw [List.flatMap_cons, List.length_append, hs, ih, List.length_cons, Nat.succ_mul]; omega

/-! ### plain -/
structure Lg where
  t : ByteArray
  i : Int
  a : Int
  n : Int
  l : Int
def Lg.cells (x : Lg) : List Value := [.string x.t, .int .i64 x.i, .int .i64 x.a, .int .i64 x.n, .int .i64 x.l]
theorem Lg.cells_len (x : Lg) : x.cells.length = 5 := rfl
abbrev lgv (x : Lg) : Value := .agg #[.string x.t, .int .i64 x.i, .int .i64 x.a, .int .i64 x.n, .int .i64 x.l]
def clampL (n : Int) : Int := max 0 (min n 1099511627776)
def totalL (l : List Lg) : Int := (l.map fun x => clampL x.l).sum
def mostL : Lg → List Lg → Lg
  | b, [] => b
  | b, x :: r => if x.l > b.l then mostL x r else mostL b r
theorem mostL_snoc (x : Lg) : ∀ (l : List Lg) (b : Lg), mostL b (l ++ [x]) = if x.l > (mostL b l).l then x else mostL b l
  | [], b => by simp [mostL]
  | y :: l, b => by
    simp only [List.cons_append, mostL]
    split <;> exact mostL_snoc x l _
theorem mostL_self (h : Lg) (t : List Lg) : mostL h (h :: t) = mostL h t := by simp [mostL]
theorem clamp_bd (n : Int) : 0 ≤ clampL n ∧ clampL n ≤ 1099511627776 := by unfold clampL; omega
theorem total_snoc (l : List Lg) (x : Lg) : totalL (l ++ [x]) = totalL l + clampL x.l := by unfold totalL; simp
theorem total_bd : ∀ (l : List Lg), 0 ≤ totalL l ∧ totalL l ≤ 1099511627776 * l.length
  | [] => by simp [totalL]
  | x :: l => by
    have h1 := total_bd l
    have h2 := clamp_bd x.l
    have e : totalL (x :: l) = clampL x.l + totalL l := by simp [totalL]
    rw [e, List.length_cons]
    constructor <;> omega
theorem take_get {α : Type} (l : List α) (k : Nat) (x : α) (h : l[k]? = some x) : l.take (k + 1) = l.take k ++ [x] := by
  obtain ⟨hk, rfl⟩ := List.getElem?_eq_some_iff.1 h
  rw [List.take_succ_eq_append_getElem hk]

/-! ### Of -/
def frm (s a : Int) (h : Bool) : Int := if h then max s a else s
def ofF (s n a : Int) (h : Bool) : Int := max 0 (n - frm s a h)
theorem frm_cases (s a : Int) (h : Bool) : (h = false ∧ frm s a h = s) ∨ (h = true ∧ s < a ∧ frm s a h = a) ∨ (h = true ∧ a ≤ s ∧ frm s a h = s) := by
  unfold frm
  cases h
  · exact .inl ⟨rfl, by simp⟩
  · by_cases h : s < a
    · exact .inr (.inl ⟨rfl, h, by simp; omega⟩)
    · exact .inr (.inr ⟨rfl, by omega, by simp; omega⟩)
theorem ret_i {k : IntKind} {a b : Int} (h : a = b) : Ending.returned (.int k a) = .returned (.int k b) := by rw [h]
set_option maxHeartbeats 400000 in
theorem from_any (s a : Int) (h : Bool) (w : World) : Calls Try.prog 31 #[.int .i64 s, .int .i64 a, .bool h] w fun e w' => e = .returned (.int .i64 (frm s a h)) ∧ w = w' := by
  rcases frm_cases s a h with ⟨rfl, hf⟩ | ⟨rfl, hlt, hf⟩ | ⟨rfl, hlt, hf⟩
  all_goals
    have HF := Lib.hid hf
    clear hf
    go_enter Try.func31, Try.ntmps31
    go_wp2
    go_ret
    exact ⟨ret_i HF.out.symm, rfl⟩
set_option maxHeartbeats 400000 in
theorem of_any (s n a : Int) (h : Bool) (w : World) (h1 : 0 ≤ s) (h2 : s ≤ 4611686018427387904) (h3 : 0 ≤ n) (h4 : n ≤ 4611686018427387904) (h5 : 0 ≤ a) (h6 : a ≤ 4611686018427387904) :
    Calls Try.prog 13 #[.int .i64 s, .int .i64 n, .int .i64 a, .bool h] w fun e w' => e = .returned (.int .i64 (ofF s n a h)) ∧ w = w' := by
  have b1 : 0 ≤ frm s a h ∧ frm s a h ≤ 4611686018427387904 := by rcases frm_cases s a h with ⟨_, hf⟩ | ⟨_, _, hf⟩ | ⟨_, _, hf⟩ <;> omega
  obtain ⟨b1, b2⟩ := b1
  by_cases hp : n ≤ frm s a h
  all_goals
    go_enter Try.func13, Try.ntmps13
    go_wp2_with (first | (go_at_call 31; ((with_reducible refine (from_any _ _ _ _).mono ?_); rintro e w1 ⟨rfl, rfl⟩)))
    go_ret
    exact ⟨ret_i (by unfold ofF; omega), rfl⟩
set_option maxHeartbeats 400000 in
theorem rof_any (s n a : Int) (h : Bool) (w : World) (h1 : 0 ≤ s) (h2 : s ≤ 4611686018427387904) (h3 : 0 ≤ n) (h4 : n ≤ 4611686018427387904) (h5 : 0 ≤ a) (h6 : a ≤ 4611686018427387904) :
    Calls Try.prog 14 #[.int .i64 s, .int .i64 n, .int .i64 a, .bool h] w fun e w' => e = .returned (.int .i64 (ofF s n a h)) ∧ w = w' := by
  rcases frm_cases s a h with ⟨rfl, hf⟩ | ⟨rfl, hlt, hf⟩ | ⟨rfl, hlt, hf⟩
  · have HF := Lib.hid hf
    clear hf
    by_cases hp : n ≤ s
    all_goals
      go_enter Try.func14, Try.ntmps14
      go_wp2
      go_ret
      exact ⟨ret_i (by unfold ofF; rw [HF.out]; omega), rfl⟩
  · have HF := Lib.hid hf
    clear hf
    by_cases hp : n ≤ a
    all_goals
      go_enter Try.func14, Try.ntmps14
      go_wp2
      go_ret
      exact ⟨ret_i (by unfold ofF; rw [HF.out]; omega), rfl⟩
  · have HF := Lib.hid hf
    clear hf
    by_cases hlt2 : a < s
    all_goals
      by_cases hp : n ≤ s
      all_goals
        go_enter Try.func14, Try.ntmps14
        go_wp2
        all_goals (go_ret; exact ⟨ret_i (by unfold ofF; rw [HF.out]; omega), rfl⟩)

/-! ### Total -/
set_option maxHeartbeats 400000 in
theorem clamp_any (x : Lg) (w : World) : Calls Try.prog 30 #[lgv x] w fun e w' => e = .returned (.int .i64 (clampL x.l)) ∧ More w w' := by
  obtain ⟨t, i, a, n, l⟩ := x
  by_cases h1 : l ≤ 0
  · refine calls_wd ?_
    go_enter Try.func30, Try.ntmps30
    go_wp2
    go_ret
    exact ⟨ret_i (by unfold clampL; omega), more_wd _ _ _⟩
  · by_cases h2 : l ≤ 1099511627776
    all_goals
      refine calls_wd ?_
      go_enter Try.func30, Try.ntmps30
      go_wp2
      go_ret
      exact ⟨ret_i (by unfold clampL; omega), more_wd _ _ _⟩
/-- The five cells of the k-th. -/
theorem rd_at {w : World} {b off : Nat} {l : List Lg} (h : ∀ i, i < l.length * 5 → w.cell? ⟨b, off + i, none⟩ = (l.flatMap Lg.cells)[i]?) (k : Nat) (x : Lg) (hx : l[k]? = some x) :
    w.cell? ⟨b, off + k * 5, none⟩ = some (.string x.t) ∧ w.cell? ⟨b, off + k * 5 + 1, none⟩ = some (.int .i64 x.i) ∧ w.cell? ⟨b, off + k * 5 + 2, none⟩ = some (.int .i64 x.a) ∧
      w.cell? ⟨b, off + k * 5 + 3, none⟩ = some (.int .i64 x.n) ∧ w.cell? ⟨b, off + k * 5 + 4, none⟩ = some (.int .i64 x.l) := by
  have hk : k < l.length := (List.getElem?_eq_some_iff.1 hx).1
  have g : ∀ j, j < 5 → w.cell? ⟨b, off + (k * 5 + j), none⟩ = x.cells[j]? := fun j hj => by
    rw [h (k * 5 + j) (by omega)]; exact flat_at Lg.cells 5 Lg.cells_len l k x j hx hj
  exact ⟨g 0 (by omega), g 1 (by omega), g 2 (by omega), g 3 (by omega), g 4 (by omega)⟩

theorem callclamp (a : Act) (dst : Option Tmp) (t : Nat) (h : a.eval (.tmp t) = .func (.func 30) #[] #[]) (xs : Array Operand) (ats : Array TypeId) (ty : TypeId) (pos : String) (after : Array Edge) (guard : Option (Nat × Bool)) :
    execOp a.eval { dst, op := .call { callee := .value (.tmp t), args := xs, argTypes := ats }, type := ty, pos, after, guard } = callFunc 30 (#[] ++ xs.map a.eval ++ #[]) := execOp_call_tmp a dst t 30 #[] #[] h xs ats ty pos after guard
attribute [local go_sem ↓] callclamp
set_option maxHeartbeats 800000 in
theorem sum_any (l : List Lg) (v : Value) (w : World) (hv : RdRow w 5 v l.length (l.flatMap Lg.cells)) (hl : l.length ≤ 1000000) :
    Calls Try.prog 29 #[v, .func (.func 30) #[] #[]] w fun e w' => e = .returned (.int .i64 (totalL l)) ∧ More w w' := by
  obtain ⟨_, ⟨h0, a, cap, rfl⟩ | ⟨b, off, cap, rfl, hb, hc⟩⟩ := hv
  · have HT : Hid (totalL l = 0) := by
      have : l = [] := List.eq_nil_of_length_eq_zero h0
      subst this; rfl
    refine calls_wd ?_
    go_enter Try.func29, Try.ntmps29
    go_wp2
    refine wp_loop_rounds 1 ?_; rw [rounds_succ]
    go_wp2
    go_ret
    exact ⟨by rw [HT.out]; rfl, more_wd _ _ _⟩
  · have HC := Lib.hid hc
    clear hc
    refine calls_wd ?_
    go_enter Try.func29, Try.ntmps29
    go_wp2
    go_loopw [5, 10] (fun s i wr => ∃ (k : Nat) (m : Ext), k ≤ l.length ∧ s = .int .i64 (totalL (l.take k)) ∧ i = .int .i64 k ∧ wr = wd w [m.e] m.n) (fun _ i _ => l.length - (intOf i).toNat)
    case atStart => exact ⟨0, ⟨#[], w.drawn⟩, Nat.zero_le _, rfl, rfl, (wd_empty _ _ _).symm⟩
    case round =>
      obtain ⟨k, m, hk, rfl, rfl, rfl⟩ := hrel
      by_cases hlt : k < l.length
      · obtain ⟨x, hx⟩ : ∃ x, l[k]? = some x := ⟨_, List.getElem?_eq_getElem hlt⟩
        obtain ⟨c0, c1, c2, c3, c4⟩ := rd_at HC.out k x hx
        have hT : Hid (totalL (l.take (k + 1)) = totalL (l.take k) + clampL x.l) := by rw [take_get l k x hx]; exact total_snoc _ _
        obtain ⟨t1, t2⟩ := total_bd (l.take k)
        have t3 : (l.take k).length ≤ 1000000 := by rw [List.length_take]; omega
        obtain ⟨t4, t5⟩ := clamp_bd x.l
        have hx' := Lib.hid hx
        clear hx
        go_wp2_with (first | (go_at_call 30; ((with_reducible refine (clamp_any x _).mono ?_); rintro e w1 ⟨rfl, x1, n1, rfl⟩)))
        go_roundw
        case rel => exact ⟨k + 1, ⟨_, _⟩, by omega, by rw [hT.out], by go_num, by rw [wd_merge, wd_merge]⟩
        case measure => simp [intOf]; omega
      · have hT : Hid (totalL (l.take k) = totalL l) := by rw [List.take_of_length_le (by omega)]; rfl
        go_wp2
        go_ret
        exact ⟨ret_i hT.out, more_wd _ _ _⟩
set_option maxHeartbeats 800000 in
theorem total_any (l : List Lg) (v : Value) (w : World) (hv : RdRow w 5 v l.length (l.flatMap Lg.cells)) (hl : l.length ≤ 1000000) :
    Calls Try.prog 11 #[v] w fun e w' => e = .returned (.int .i64 (totalL l)) ∧ More w w' := by
  have HV := Lib.hid hv
  clear hv
  refine calls_wd ?_
  go_enter Try.func11, Try.ntmps11
  go_wp2_with (first | (go_at_call 29; ((with_reducible refine (sum_any l _ _ (HV.out.more (more_wd _ _ _)) hl).mono ?_); rintro e w1 ⟨rfl, x1, n1, rfl⟩)))
  go_ret
  exact ⟨rfl, more_wd _ _ _⟩
set_option maxHeartbeats 800000 in
theorem rtotal_any (l : List Lg) (v : Value) (w : World) (hv : RdRow w 5 v l.length (l.flatMap Lg.cells)) (hl : l.length ≤ 1000000) :
    Calls Try.prog 12 #[v] w fun e w' => e = .returned (.int .i64 (totalL l)) ∧ More w w' := by
  obtain ⟨_, ⟨h0, a, cap, rfl⟩ | ⟨b, off, cap, rfl, hb, hc⟩⟩ := hv
  · have HT : Hid (totalL l = 0) := by
      have : l = [] := List.eq_nil_of_length_eq_zero h0
      subst this; rfl
    refine calls_wd ?_
    go_enter Try.func12, Try.ntmps12
    go_wp2
    refine wp_loop_rounds 1 ?_; rw [rounds_succ]
    go_wp2
    go_ret
    exact ⟨by rw [HT.out]; rfl, more_wd _ _ _⟩
  · have HC := Lib.hid hc
    clear hc
    refine calls_wd ?_
    go_enter Try.func12, Try.ntmps12
    go_wp2
    go_loopw [3, 4] (fun s i wr => ∃ (k : Nat), k ≤ l.length ∧ s = .int .i64 (totalL (l.take k)) ∧ i = .int .i64 k ∧ wr = wd w [] w.drawn) (fun _ i _ => l.length - (intOf i).toNat)
    case atStart => exact ⟨0, Nat.zero_le _, rfl, rfl, rfl⟩
    case round =>
      obtain ⟨k, hk, rfl, rfl, rfl⟩ := hrel
      by_cases hlt : k < l.length
      · obtain ⟨x, hx⟩ : ∃ x, l[k]? = some x := ⟨_, List.getElem?_eq_getElem hlt⟩
        obtain ⟨c0, c1, c2, c3, c4⟩ := rd_at HC.out k x hx
        have hT : Hid (totalL (l.take (k + 1)) = totalL (l.take k) + clampL x.l) := by rw [take_get l k x hx]; exact total_snoc _ _
        obtain ⟨t1, t2⟩ := total_bd (l.take k)
        have t3 : (l.take k).length ≤ 1000000 := by rw [List.length_take]; omega
        obtain ⟨t4, t5⟩ := clamp_bd x.l
        have hx' := Lib.hid hx
        clear hx
        have cases3 : (x.l ≤ 0 ∧ clampL x.l = 0) ∨ (0 < x.l ∧ x.l ≤ 1099511627776 ∧ clampL x.l = x.l) ∨ (1099511627776 < x.l ∧ clampL x.l = 1099511627776) := by unfold clampL; omega
        rcases cases3 with ⟨d1, d2⟩ | ⟨d1, d3, d2⟩ | ⟨d1, d2⟩
        all_goals
          have D := Lib.hid d2
          clear d2
          go_wp2
          go_roundw
          case rel => exact ⟨k + 1, by omega, (by rw [hT.out, D.out]; try go_num), by go_num, (by first | rfl | trivial)⟩
          case measure => simp [intOf]; omega
      · have hT : Hid (totalL (l.take k) = totalL l) := by rw [List.take_of_length_le (by omega)]; rfl
        go_wp2
        go_ret
        exact ⟨ret_i hT.out, more_wd _ _ _⟩
end Go.Proofs.Ytlahfjnfidhleaa
