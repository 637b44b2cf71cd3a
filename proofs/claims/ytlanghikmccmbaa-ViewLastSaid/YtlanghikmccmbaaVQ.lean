/- What came in: views, beside batches. -/
import Derived.Test.YtlanghikmccmbaaMI
import Derived.Test.YtlanghikmccmbaaVK
import Derived.Test.YtlanghikmccmbaaVA
import Derived.Test.YtlanghikmccmbaaVN
import Derived.Shelf.SlicesQ.IndexFunc
namespace Go.Proofs.Ytlanghikmccmbaa
open Go.ChangeShapes Go.WideShapes Go.ChangeAt Go.RowKit
set_option linter.unusedVariables false
set_option linter.unusedSimpArgs false
set_option maxRecDepth 100000
theorem two {α : Type} {l : List α} (h : l.length = 2) : ∃ a b, l = [a, b] := by
  match l, h with
  | [a, b], _ => exact ⟨a, b, rfl⟩
end Go.Proofs.Ytlanghikmccmbaa
/- slices.IndexFunc and slices.DeleteFunc at rows of a view, the predicate a closure. -/
namespace Go.Proofs.Ytlanghikmccmbaa
open Go.ChangeShapes Go.WideShapes Go.ChangeAt Go.RowKit
set_option linter.unusedVariables false
set_option linter.unusedSimpArgs false
/-- A predicate on rows that reads, whatever is written into the row 'row'. -/
structure PredOk (g : Nat) (lb : Array Value) (p : VRow → Bool) (row : Nat) (l : List VRow) (w : World) : Prop where
  enter : ∀ args w, (callFunc g args).run Try.prog w = .ok (.enter g args) w
  call : ∀ W x, x ∈ l → w.grownBy W (some row) → Calls Try.prog g (#[.agg #[.string (str x.key), .string (str x.value), .int .i64 x.offset, .int .i64 x.time]] ++ lb) W fun e W' => e = .returned (.bool (p x)) ∧ More W W'
theorem PredOk.grown {g : Nat} {lb : Array Value} {p : VRow → Bool} {row : Nat} {l : List VRow} {w w' : World} (h : PredOk g lb p row l w) (hg : w.grownBy w' (some row)) : PredOk g lb p row l w' := ⟨h.enter, fun W x hx hW => h.call W x hx (grown_trans hg hW)⟩
def ixfN (p : VRow → Bool) : Nat → List VRow → Int
  | _, [] => -1
  | k, x :: l => if p x = true then k else ixfN p (k + 1) l
theorem ixfN_hit (p : VRow → Bool) : ∀ (l : List VRow) (s k : Nat) (x : VRow), l[k]? = some x → p x = true → (∀ y ∈ l.take k, p y = false) → ixfN p s l = (s + k : Nat)
  | [], s, k, x, h, _, _ => by cases h
  | y :: l, s, 0, x, h, hp, _ => by cases h; rw [ixfN, if_pos hp, Nat.add_zero]
  | y :: l, s, k + 1, x, h, hp, hk => by
    rw [List.take_succ_cons] at hk
    rw [ixfN, if_neg (by rw [hk y (by simp)]; simp), ixfN_hit p l (s + 1) k x (by simpa using h) hp (fun z hz => hk z (by simp [hz]))]
    congr 1; omega
theorem ixfN_miss (p : VRow → Bool) : ∀ (l : List VRow) (s : Nat), (∀ y ∈ l, p y = false) → ixfN p s l = -1
  | [], s, _ => rfl
  | y :: l, s, hk => by rw [ixfN, if_neg (by rw [hk y (by simp)]; simp), ixfN_miss p l (s + 1) (fun z hz => hk z (by simp [hz]))]
set_option maxRecDepth 100000 in
set_option maxHeartbeats 1600000 in
theorem ixf_any (g : Nat) (lb : Array Value) (p : VRow → Bool) (row : Nat) (a : Option Addr) (cap : Nat) (l : List VRow) (w : World) (h : VRowsAt w a l) (hl : l.length ≤ 1000000) (hp : PredOk g lb p row l w) :
    Calls Try.prog 67 #[.slice a l.length cap, .func (.func g) #[] lb] w fun e w' => e = .returned (.int .i64 (ixfN p 0 l)) ∧ More w w' := by
  have eg := hp.enter
  have HA := Lib.hid h
  have HP := Lib.hid (fun W x hx hm => hp.call W x hx (grown_more hm _))
  obtain ⟨N, hN⟩ : ∃ N, l.length = N := ⟨_, rfl⟩
  have HN := Lib.hid hN
  rw [hN] at hl ⊢
  obtain ⟨r, hr⟩ : ∃ r, ixfN p 0 l = r := ⟨_, rfl⟩
  have HR := Lib.hid hr
  rw [hr]
  clear h hp hN hr
  refine calls_wd ?_
  go_enter Try.func67, Try.ntmps67
  go_wp2
  go_loopw [8] (fun i wr => ∃ (k : Nat) (m : Ext), k ≤ N ∧ i = .int .i64 k ∧ wr = wd w [m.e] m.n ∧ Hid (∀ y ∈ l.take k, p y = false)) (fun i _ => N - (intOf i).toNat)
  case atStart => exact ⟨0, ⟨#[], _⟩, Nat.zero_le _, rfl, (wd_empty _ _ _).symm, Lib.hid (by simp)⟩
  case round =>
    obtain ⟨k, m, hkN, rfl, rfl, HI⟩ := hrel
    by_cases hlt : k < N
    · obtain ⟨x, hx⟩ : ∃ x, l[k]? = some x := ⟨_, List.getElem?_eq_getElem (by rw [HN.out]; exact hlt)⟩
      obtain ⟨bb, off, rfl, hb, c0, c1, c2, c3⟩ := vrows_at HA.out k x hx
      have HC := Lib.hid (fun W hm => HP.out W x (List.mem_of_getElem? hx) hm)
      have HX := Lib.hid hx
      obtain ⟨xk, xv, xo, xt⟩ := x
      dsimp only at HC c0 c1 c2 c3
      clear hx
      obtain ⟨q, hq⟩ : ∃ q, p ⟨xk, xv, xo, xt⟩ = q := ⟨_, rfl⟩
      have HQ := Lib.hid hq
      rw [hq] at HC
      clear hq
      cases q with
      | true =>
        go_wp2_with (go_at_fn g; refine (HC.out _ (more_wd _ _ _)).mono ?_; rintro e w' ⟨rfl, x1, n1, rfl⟩)
        go_ret
        exact ⟨by rw [← HR.out, ixfN_hit p l 0 k _ HX.out HQ.out HI.out, Nat.zero_add]; rfl, more_wd _ _ _⟩
      | false =>
        go_wp2_with (go_at_fn g; refine (HC.out _ (more_wd _ _ _)).mono ?_; rintro e w' ⟨rfl, x1, n1, rfl⟩)
        go_roundw
        case rel => exact ⟨k + 1, ⟨m.e ++ x1, n1⟩, by omega, by go_num, by rw [wd_merge], Lib.hid (take_ok' HI.out HX.out HQ.out)⟩
        case measure => simp [intOf]; omega
    · obtain rfl : k = N := by omega
      go_wp2
      go_ret
      refine ⟨?_, more_wd _ _ _⟩
      have := HI.out
      rw [List.take_of_length_le (by rw [HN.out]; exact Nat.le_refl _)] at this
      rw [← HR.out, ixfN_miss p l 0 this]
      rfl
/-! ### DeleteFunc, plainly -/
def keepR (p : VRow → Bool) (l : List VRow) : List VRow := l.filter fun x => !p x
theorem keepR_snoc (p : VRow → Bool) (l : List VRow) (k : Nat) (x : VRow) (hx : l[k]? = some x) : keepR p (l.take (k + 1)) = keepR p (l.take k) ++ if p x = true then [] else [x] := by
  rw [List.take_add_one, hx]
  unfold keepR
  rw [List.filter_append]
  cases h : p x <;> simp [h]
theorem keepR_len (p : VRow → Bool) (l : List VRow) : (keepR p l).length ≤ l.length := List.length_filter_le _ _
/-- What stands in the row under way: the first i of those kept, the rest from j on as it was. -/
structure DelI (p : VRow → Bool) (l m : List VRow) (i j : Nat) : Prop where
  len : m.length = l.length
  kept : m.take i = keepR p (l.take j)
  rest : m.drop j = l.drop j
  lt : i < j
  le : j ≤ l.length
theorem DelI.at {p : VRow → Bool} {l m : List VRow} {i j : Nat} (h : DelI p l m i j) : m[j]? = l[j]? := by
  have := congrArg (fun z => z[0]?) h.rest
  simpa using this
theorem DelI.skip {p : VRow → Bool} {l m : List VRow} {i j : Nat} (h : DelI p l m i j) (x : VRow) (hx : l[j]? = some x) (hp : p x = true) : DelI p l m i (j + 1) := by
  have hj := (List.getElem?_eq_some_iff.1 hx).1
  refine ⟨h.len, by rw [h.kept, keepR_snoc p l j x hx, if_pos hp, List.append_nil], ?_, by have := h.lt; omega, by omega⟩
  have := congrArg (List.drop 1) h.rest
  simpa [List.drop_drop] using this
theorem DelI.put {p : VRow → Bool} {l m : List VRow} {i j : Nat} (h : DelI p l m i j) (x : VRow) (hx : l[j]? = some x) (hp : p x = false) : DelI p l (m.set i x) (i + 1) (j + 1) := by
  have hj := (List.getElem?_eq_some_iff.1 hx).1
  have hi : i < m.length := by have := h.lt; have := h.len; omega
  refine ⟨by rw [List.length_set, h.len], ?_, ?_, by have := h.lt; omega, by omega⟩
  · rw [keepR_snoc p l j x hx, if_neg (by rw [hp]; simp), ← h.kept, List.take_add_one, List.getElem?_set_self hi, List.take_set, List.set_eq_of_length_le (by simp; omega)]
    rfl
  · rw [List.drop_set, if_pos (by have := h.lt; omega)]
    have := congrArg (List.drop 1) h.rest
    simpa [List.drop_drop] using this
theorem ixfN_cases (p : VRow → Bool) : ∀ (l : List VRow) (s : Nat), (ixfN p s l = -1 ∧ keepR p l = l) ∨ ∃ k, ixfN p s l = (s + k : Nat) ∧ k < l.length ∧ DelI p l l k (k + 1)
  | [], s => .inl ⟨rfl, rfl⟩
  | x :: l, s => by
    cases h : p x with
    | true => exact .inr ⟨0, by rw [ixfN, if_pos h]; rfl, by simp, ⟨rfl, by simp [keepR, h], rfl, by omega, by simp⟩⟩
    | false =>
      rw [ixfN, if_neg (by rw [h]; simp)]
      rcases ixfN_cases p l (s + 1) with ⟨h1, h2⟩ | ⟨k, h1, h2, h3⟩
      · exact .inl ⟨h1, by have : keepR p (x :: l) = x :: keepR p l := by unfold keepR; rw [List.filter_cons, if_pos (by rw [h]; rfl)]
                           rw [this, h2]⟩
      · refine .inr ⟨k + 1, by rw [h1]; congr 1; omega, by simp; omega, ⟨rfl, ?_, rfl, by omega, by simp; omega⟩⟩
        rw [List.take_succ_cons, List.take_succ_cons, h3.kept]
        unfold keepR
        rw [List.filter_cons, if_pos (by rw [h]; rfl)]
end Go.Proofs.Ytlanghikmccmbaa
/- slices.DeleteFunc at rows of a view, in a row that the call owns. -/
namespace Go.Proofs.Ytlanghikmccmbaa
open Go.ChangeShapes Go.WideShapes Go.ChangeAt Go.RowKit
set_option linter.unusedVariables false
set_option linter.unusedSimpArgs false
theorem owns_clear {P : Program} {W : World} {B size n cap g : Nat} {E : TypeId} {xs : List Value} (h : W.ownsRow B E size (.slice (some ⟨g, 0, none⟩) n cap) n xs) (t e ty : TypeId) (z : Value) (ht : P.underlying t = some (.slice e)) (hv : ∀ w, (zeroValue e).run P w = .ok z w)
    (hs : z.cells.size = size) (h0 : 0 < size) (h1 : ∀ u ∈ z.cells.toList, u.oneCell' = true) (k : Nat) (hk : k ≤ n) (c : Nat) :
    ∃ W' xs', (Builtin.clear_ #[t] ty #[.slice (some ⟨g, k * size, none⟩) (n - k) c]).run P W = .ok (.tuple #[]) W' ∧ W'.ownsRow B E size (.slice (some ⟨g, 0, none⟩) n cap) n xs' ∧ xs'.take (k * size) = xs.take (k * size) ∧ W.grownBy W' (some g) ∧ W'.heap.size = W.heap.size := by
  by_cases hkn : k = n
  · subst hkn
    refine ⟨W, xs, ?_, h, rfl, grown_refl _ _, rfl⟩
    rw [Nat.sub_self]
    simp [Builtin.clear_, run_underlying ht]
  · obtain ⟨m, hm⟩ : ∃ m, n - k = m + 1 := ⟨n - k - 1, by omega⟩
    have hlen : (Builtin.zeroCells z.cells (n - k)).toList.length = (n - k) * size := by simp [Builtin.zeroCells, hs]
    have hone : ∀ u ∈ (Builtin.zeroCells z.cells (n - k)).toList, u.oneCell' = true := by
      intro u hu
      simp only [Builtin.zeroCells, Array.toList_map, List.mem_map, Array.mem_toList_iff, Array.mem_range] at hu
      obtain ⟨i, hi, rfl⟩ := hu
      have hlt : i % z.cells.size < z.cells.size := Nat.mod_lt _ (by rw [hs]; exact h0)
      rw [getElem!_pos z.cells _ hlt]
      exact h1 _ (by simp)
    have hle : k * size + (n - k) * size = n * size := by rw [← Nat.add_mul]; congr 1; omega
    have hrun := owns_run P h (k * size) _ (by rw [hlen]; omega) hone
    obtain ⟨g1, g2⟩ := setCells_grown g (Builtin.zeroCells z.cells (n - k)).toList (k * size) W
    refine ⟨_, _, ?_, owns_put h (k * size) (Builtin.zeroCells z.cells (n - k)).toList, putL_left _ _ _ _ (Nat.le_refl _), g1, g2⟩
    rw [hm] at hrun ⊢
    simp [Builtin.clear_, run_underlying ht, hv, hrun]
theorem flat_take' {α : Type} (cells : α → List Value) (size : Nat) (hs : ∀ x, (cells x).length = size) : ∀ (l : List α) (k : Nat), (l.flatMap cells).take (k * size) = (l.take k).flatMap cells
  | [], k => by simp
  | x :: l, 0 => by simp
  | x :: l, k + 1 => by
    rw [List.flatMap_cons, List.take_succ_cons, List.flatMap_cons, Nat.succ_mul, List.take_append, hs, List.take_of_length_le (by rw [hs]; omega), Nat.add_sub_cancel, flat_take' cells size hs l k]
theorem sz_vrow : ∀ w, (Go.sizeOf 34).run Try.prog w = .ok 4 w := fun w => by
  obtain ⟨i0, hi, hz0, hz1, hz2⟩ := info_parts info_vrow
  simp [Go.sizeOf, typeInfo, hi, hz1]
theorem zv_vrow : ∀ w, (zeroValue 34).run Try.prog w = .ok (.agg #[.string ⟨#[]⟩, .string ⟨#[]⟩, .int .i64 0, .int .i64 0]) w := fun w => by
  obtain ⟨i0, hi, hz0, hz1, hz2⟩ := info_parts info_vrow
  simp [zeroValue, typeInfo, hi, hz0]
theorem vslice_own {g : Nat} (i n cap : Nat) (hi : i < n) (hc : n ≤ cap) (hb : cap ≤ 9223372036854775807) :
    (∀ W, (Instr.slice 30 (.slice (some ⟨g, 0, none⟩) n cap) (some (.int .i64 (i : Int))) none none).run Try.prog W = .ok (.slice (some ⟨g, i * 4, none⟩) (n - i) (cap - i)) W) ∧
    (∀ W, (Instr.slice 30 (.slice (some ⟨g, 0, none⟩) n cap) none (some (.int .i64 (i : Int))) none).run Try.prog W = .ok (.slice (some ⟨g, 0, none⟩) i cap) W) := by
  have ht' : Try.prog.underlying 30 = some (.slice (Try.prog.elem 30)) := by simp [Program.elem, Try.underlying30]
  have he : Try.prog.elem 30 = 34 := by simp [Program.elem, Try.underlying30]
  refine ⟨fun W => ?_, fun W => ?_⟩
  · rw [run_slice_l W 30 _ n cap ht' .i64 _ (by omega) (by omega), he, sz_vrow]
    have hne : ¬ cap = i := by omega
    simp [Result.andThen, sliced, hne, Addr.add]
    try omega
  · rw [run_slice_h W 30 _ n cap ht' .i64 _ (by omega) (by omega), he, sz_vrow]
    simp [Result.andThen, sliced, Addr.add]
structure DelRet (w w' : World) (e : Ending) (B g cap : Nat) (l : List VRow) : Prop where
  out : e = .returned (.slice (some ⟨g, 0, none⟩) l.length cap)
  own : w'.ownsRow B 34 4 (.slice (some ⟨g, 0, none⟩) l.length cap) l.length (l.flatMap vrCells)
  grown : w.grownBy w' (some g)
theorem owns_cut {W : World} {B cap g : Nat} {p : VRow → Bool} {l m : List VRow} {xs : List Value} {i j n : Nat} (h : W.ownsRow B 34 4 (.slice (some ⟨g, 0, none⟩) n cap) n xs) (hD : DelI p l m i j) (hj : j = l.length) (hn : n = l.length) (hx : xs.take (i * 4) = (m.flatMap vrCells).take (i * 4)) :
    (keepR p l).length = i ∧ W.ownsRow B 34 4 (.slice (some ⟨g, 0, none⟩) i cap) i ((keepR p l).flatMap vrCells) := by
  have hi : i ≤ n := by have := hD.lt; omega
  have e1 : keepR p l = m.take i := by rw [hD.kept, hj, List.take_of_length_le (Nat.le_refl _)]
  have hil : i ≤ m.length := by have := hD.len; omega
  have h2 := owns_take h i hi
  rw [hx, flat_take' vrCells 4 vrCells_len m i] at h2
  rw [e1]
  exact ⟨by rw [List.length_take]; omega, h2⟩
set_option maxRecDepth 100000 in
set_option maxHeartbeats 3200000 in
theorem delf_any (f : Nat) (lb : Array Value) (p : VRow → Bool) (B g cap : Nat) (l : List VRow) (w : World) (h : w.ownsRow B 34 4 (.slice (some ⟨g, 0, none⟩) l.length cap) l.length (l.flatMap vrCells)) (hl : l.length ≤ 1000000) (hp : PredOk f lb p g l w) :
    Calls Try.prog 36 #[.slice (some ⟨g, 0, none⟩) l.length cap, .func (.func f) #[] lb] w fun e w' => DelRet w w' e B g cap (keepR p l) := by
  have eg := hp.enter
  have HIX := Lib.hid (fun W hm => ixf_any f lb p g _ cap l W (rowat_of_owns rfl (owns_more (w' := W) h hm)) hl (hp.grown (grown_more hm _)))
  have HP := Lib.hid hp
  have HOWN := Lib.hid h
  obtain ⟨N, hN⟩ : ∃ N, l.length = N := ⟨_, rfl⟩
  have HN := Lib.hid hN
  obtain ⟨r, hr⟩ : ∃ r, ixfN p 0 l = r := ⟨_, rfl⟩
  have HR := Lib.hid (ixfN_cases p l 0)
  rw [hr] at HIX HR
  rw [hN] at hl HIX HOWN ⊢
  have HZ := Lib.hid hN
  clear h hp hN hr
  rcases HR.out with ⟨rfl, hkeep⟩ | ⟨k0, rfl, hk0, hD0⟩
  · refine calls_wd ?_
    go_enter Try.func36, Try.ntmps36
    go_wp2_with ((go_at_call 67; ((with_reducible refine (HIX.out _ (more_wd _ _ _)).mono ?_); rintro e w1 ⟨rfl, x1, n1, rfl⟩)))
    go_ret
    exact ⟨by rw [hkeep, HZ.out]; rfl, by rw [hkeep, HZ.out]; exact owns_more HOWN.out (more_wd _ _ _), grown_more (more_wd _ _ _) _⟩
  · have hk1 : k0 < N := by have := HZ.out; omega
    have hkb : ((k0 : Int) == -1) = false := by rw [beq_eq_false_iff_ne]; omega
    rw [Nat.zero_add] at HIX
    have HD0 := Lib.hid hD0
    clear hD0 hk0 HR
    refine calls_wd ?_
    go_enter Try.func36, Try.ntmps36
    go_wp2_with ((go_at_call 67; ((with_reducible refine (HIX.out _ (more_wd _ _ _)).mono ?_); rintro e w1 ⟨rfl, x1, n1, rfl⟩)))
    clear HIX
    go_loopw [5, 6] (fun i5 i6 wr => ∃ (i j : Nat) (m : List VRow), j ≤ N ∧ i < j ∧ i5 = .int .i64 i ∧ i6 = .int .i64 j ∧ Hid (DelI p l m i j) ∧ Hid (wr.ownsRow B 34 4 (.slice (some ⟨g, 0, none⟩) N cap) N (m.flatMap vrCells)) ∧ Hid (w.grownBy wr (some g))) (fun _ i6 _ => N - (intOf i6).toNat)
    case atStart => exact ⟨k0, k0 + 1, l, by omega, by omega, rfl, by go_num, HD0, Lib.hid (owns_more HOWN.out (more_wd _ _ _)), Lib.hid (grown_more (more_wd _ _ _) _)⟩
    case round =>
      obtain ⟨i, j, m, hjN, hij, rfl, rfl, HD, HO, HG⟩ := hrel
      by_cases hlt : j < N
      · obtain ⟨x, hx⟩ : ∃ x, l[j]? = some x := ⟨_, List.getElem?_eq_getElem (by rw [HZ.out]; exact hlt)⟩
        have hxm : m[j]? = some x := by rw [HD.out.at]; exact hx
        have hml : m.length = N := by rw [HD.out.len, HZ.out]
        have hgl := owns_lt HO.out
        obtain ⟨bb, off, hbo, hb, c0, c1, c2, c3⟩ := vrows_at (rowat_of_owns hml HO.out) j x hxm
        cases hbo
        simp only [Nat.zero_add] at c0 c1 c2 c3
        have HC := Lib.hid (fun W hm => HP.out.call W x (List.mem_of_getElem? hx) (grown_trans HG.out (grown_more (a := wr) hm _)))
        have HX := Lib.hid hx
        have HM := Lib.hid hml
        obtain ⟨xk, xv, xo, xt⟩ := x
        dsimp only at HC c0 c1 c2 c3
        clear hx hxm hml
        obtain ⟨q, hq⟩ : ∃ q, p ⟨xk, xv, xo, xt⟩ = q := ⟨_, rfl⟩
        have HQ := Lib.hid hq
        rw [hq] at HC
        clear hq
        rw [← wd_nil wr]
        have HOW := Lib.hid (fun W hm => owns_more (w' := W) HO.out hm)
        cases q with
        | true =>
          go_wp2_with (go_at_fn f; refine (HC.out _ (more_wd _ _ _)).mono ?_; rintro e w' ⟨rfl, x1, n1, rfl⟩)
          go_roundw
          case rel => exact ⟨i, j + 1, m, by omega, by omega, rfl, by go_num, Lib.hid (HD.out.skip _ HX.out HQ.out), Lib.hid (HOW.out _ (more_wd _ _ _)), Lib.hid (grown_trans HG.out (grown_more (more_wd _ _ _) _))⟩
          case measure => simp [intOf]; omega
        | false =>
          go_wp2_with (first
            | (go_at_fn f; refine (HC.out _ (more_wd _ _ _)).mono ?_; rintro e w' ⟨rfl, x1, n1, rfl⟩)
            | (refine wp_store_own rfl _ _ 34 rfl sz_vrow (HOW.out _ (more_wd _ _ _)) i (i * 4) (by omega) rfl #[.string (str xk), .string (str xv), .int .i64 xo, .int .i64 xt] rfl rfl rfl (by simp [Value.oneCell']) ?_; intro W9 ho9 hg9 hs9))
          go_roundw
          case rel =>
            have e9 := putL_flat vrCells 4 vrCells_len m i ⟨xk, xv, xo, xt⟩ (by rw [HM.out]; omega)
            have ho8 : W9.ownsRow B 34 4 (.slice (some ⟨g, 0, none⟩) N cap) N (putL (m.flatMap vrCells) (i * 4) (vrCells ⟨xk, xv, xo, xt⟩)) := ho9
            rw [e9] at ho8
            exact ⟨i + 1, j + 1, m.set i ⟨xk, xv, xo, xt⟩, by omega, by omega, by go_num, by go_num, Lib.hid (HD.out.put _ HX.out HQ.out), Lib.hid ho8, Lib.hid (grown_trans (grown_trans HG.out (grown_more (more_wd _ _ _) _)) hg9)⟩
          case measure => simp [intOf]; omega
      · obtain rfl : j = N := by omega
        obtain ⟨cur, -, -, hc1, hc2, -⟩ := owns_block HO.out
        unfold maxLen at hc2
        obtain ⟨hs1, hs2⟩ := vslice_own (g := g) i j cap (by omega) hc1 (by omega)
        obtain ⟨W9, xs9, hrun, ho9, hx9, hg9, hs9⟩ := owns_clear HO.out 30 34 0 _ Try.underlying30 zv_vrow rfl (by decide) (by simp [Value.oneCell', Value.cells]) i (by omega) (cap - i)
        have HO9 := Lib.hid ho9
        have HX9 := Lib.hid hx9
        have HG9 := Lib.hid (grown_trans HG.out hg9)
        clear ho9 hx9 hg9 hs9 hc1 hc2 HOWN HO
        go_wp2
        go_ret
        obtain ⟨k1, k2⟩ := owns_cut HO9.out HD.out HZ.out.symm HZ.out.symm HX9.out
        exact ⟨by rw [k1]; rfl, by rw [k1]; exact k2, HG9.out⟩
end Go.Proofs.Ytlanghikmccmbaa
