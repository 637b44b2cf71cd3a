/- law 36: own, as, back, Light; whether two views are one, by the document. -/
import Derived.Test.YtlanghikmccmbaaVH
import Derived.Test.YtlanghikmccmbaaME
namespace Go.Proofs.Ytlanghikmccmbaa
open Go.ChangeShapes Go.WideShapes Go.ChangeAt Go.RowKit
set_option linter.unusedVariables false
set_option linter.unusedSimpArgs false
theorem info_rrow2 : (Try.prog.info? 26).map (fun i => (i.zero, i.size, i.bytes)) = some (some (.agg #[.string ⟨#[]⟩, .string ⟨#[]⟩, .int .i64 0, .int .i64 0]), 4, 48) := by kernel_rfl
theorem vrow_eq (x y : VRow) : x = y ↔ x.key = y.key ∧ x.value = y.value ∧ x.offset = y.offset ∧ x.time = y.time := by
  cases x; cases y; simp
instance (x y : VRow) : Decidable (x = y) := decidable_of_iff _ (vrow_eq x y).symm
instance : DecidableEq VRow := fun x y => inferInstance
theorem vw_eq (x y : Vw) : x = y ↔ x.next = y.next ∧ x.rows = y.rows := by
  cases x; cases y; simp
instance (x y : Vw) : Decidable (x = y) := decidable_of_iff _ (vw_eq x y).symm
instance : DecidableEq Vw := fun x y => inferInstance
theorem vflat_snoc (l : List VRow) (k : Nat) (x : VRow) (hx : l[k]? = some x) : (l.take (k + 1)).flatMap vrCells = (l.take k).flatMap vrCells ++ vrCells x := by
  rw [List.take_add_one, hx]; simp
/-- Yes or no; yes says p. -/
structure VYes (w w' : World) (x : Ending) (p : Prop) : Prop where
  out : ∃ b, x = .returned (.bool b) ∧ More w w' ∧ (b = true → p)
/-- Rows, handed back. -/
structure VRowsRet (w w' : World) (x : Ending) (l : List VRow) : Prop where
  out : ∃ a cap, x = .returned (.slice a l.length cap) ∧ VRowsAt w' a l ∧ More w w' ∧ From w.heap.size a l
/-- A view, handed back. -/
structure VwOne (w w' : World) (x : Ending) (v : Vw) : Prop where
  out : ∃ a cap, x = .returned (.agg #[.int .i64 v.next, .slice a v.rows.length cap]) ∧ VRowsAt w' a v.rows ∧ More w w'
theorem vrows_of_row {w : World} {L : List (Array Obj)} {m : Array Obj} {E : TypeId} {a : Option Addr} {cap : Nat} {l : List VRow} {N : Nat} (hN : l.length = N) (h : rowIn w.heap.size (shape L) m E 4 (.slice a N cap) N (l.flatMap vrCells)) (n : Nat) : VRowsAt (wd w (m :: L) n) a l := by
  subst hN
  exact RowAt.of_rd (rdrow_of_row h)
theorem vrows_shift {w : World} {x : Array Obj} {L L' : List (Array Obj)} {n n' B : Nat} {a : Option Addr} {l : List VRow} (hS : shape L' = shape L) (h : VRowsAt (wd w (x :: L) n) a l) (hf : From B a l) (hB : B = sz w.heap.size (shape L)) : VRowsAt (wd w (x :: L') n') a l := by
  refine ⟨fun hne => ?_⟩
  obtain ⟨b, off, rfl, hb, hc⟩ := h.out hne
  obtain ⟨b', off', he, hle⟩ := hf hne
  simp only [Option.some.injEq, Addr.mk.injEq] at he
  obtain ⟨rfl, rfl, _⟩ := he
  refine ⟨b, off, rfl, ?_, fun i hi => ?_⟩
  · rw [wd_size, shape_cons, hS]; rw [wd_size, shape_cons] at hb; exact hb
  · rw [← hc i hi]
    have h1 : (hp w.heap L').size ≤ b := by rw [hp_size, hS, ← hB]; exact hle
    have h2 : (hp w.heap L).size ≤ b := by rw [hp_size, ← hB]; exact hle
    have e : (wd w (x :: L') n').heap[b]? = (wd w (x :: L) n).heap[b]? := by
      show (hp w.heap L' ++ x)[b]? = (hp w.heap L ++ x)[b]?
      rw [Array.getElem?_append, Array.getElem?_append, if_neg (by omega), if_neg (by omega), hp_size, hp_size, hS]
    simp only [World.cell?, e]
set_option maxRecDepth 100000 in
set_option maxHeartbeats 1600000 in
theorem vlight_any (v : Vw) (a : Option Addr) (cap : Nat) (w : World) (hr : VRowsAt w a v.rows) (hf : ∀ x ∈ v.rows, x.key.length ≤ maxLen ∧ x.value.length ≤ maxLen) (hl : v.rows.length ≤ maxLen) :
    Calls Try.prog 7 #[.agg #[.int .i64 v.next, .slice a v.rows.length cap]] w fun x w' => VYes w w' x (v.rows.length ≤ 60 ∧ ∀ y ∈ v.rows, y.key.length ≤ 200 ∧ y.value.length ≤ 700) := by
  have HA := Lib.hid hr
  have HK := Lib.hid hf
  obtain ⟨nx, l⟩ := v
  dsimp only at HA HK hl ⊢
  unfold maxLen at hl
  clear hr hf
  refine calls_wd ?_
  go_enter Try.func7, Try.ntmps7
  by_cases h60 : (l.length : Int) ≤ 60
  · go_wp2
    go_loopw [3] (fun i wr => ∃ (k : Nat) (m : Ext), k ≤ l.length ∧ i = .int .i64 k ∧ (∀ (j : Nat) y, j < k → l[j]? = some y → y.key.length ≤ 200 ∧ y.value.length ≤ 700) ∧ wr = wd w [m.e, #[.cells #[.int .i64 nx, .slice a l.length cap] 24]] m.n) (fun i _ => l.length - (intOf i).toNat)
    case atStart => exact ⟨0, ⟨#[], w.drawn⟩, Nat.zero_le _, rfl, fun j y hj => by omega, (wd_empty _ _ _).symm⟩
    case round =>
      obtain ⟨k, m, hkl, rfl, hall, rfl⟩ := hrel
      have HALL := Lib.hid hall
      clear hall
      by_cases hlt : k < l.length
      · obtain ⟨x, hx⟩ : ∃ x, l[k]? = some x := ⟨_, List.getElem?_eq_getElem hlt⟩
        obtain ⟨bb, off, rfl, hb, c0, c1, c2, c3⟩ := vrows_at HA.out k x hx
        have HX := Lib.hid hx
        obtain ⟨hkx, hvx⟩ := HK.out x (List.mem_of_getElem? hx)
        unfold maxLen at hkx hvx
        obtain ⟨xk, xv, xo, xt⟩ := x
        simp only at c0 c1 c2 c3 hkx hvx
        have s1 := str_size xk
        have s2 := str_size xv
        clear hx
        by_cases h1 : (xk.length : Int) ≤ 200
        · by_cases h2 : (xv.length : Int) ≤ 700
          · go_wp2
            go_roundw
            case rel => exact ⟨k + 1, ⟨_, _⟩, by omega, by go_num, fun j y hj hy => by
              rcases Nat.lt_or_eq_of_le (Nat.le_of_lt_succ hj) with h | rfl
              · exact HALL.out j y h hy
              · rw [HX.out] at hy; cases hy; exact ⟨by show xk.length ≤ 200; omega, by show xv.length ≤ 700; omega⟩, by first | rfl | exact wd_merge _ _ _ _ _⟩
            case measure => simp [intOf]; omega
          · go_wp2
            go_ret
            exact ⟨_, rfl, more_wd _ _ _, fun h => by cases h⟩
        · go_wp2
          go_ret
          exact ⟨_, rfl, more_wd _ _ _, fun h => by cases h⟩
      · go_wp2
        go_ret
        exact ⟨_, rfl, more_wd _ _ _, fun _ => ⟨by show l.length ≤ 60; omega, fun y hy => by
          obtain ⟨j, hj⟩ := List.getElem?_of_mem hy
          exact HALL.out j y (by have := (List.getElem?_eq_some_iff.1 hj).1; omega) hj⟩⟩
  · go_wp2
    go_ret
    exact ⟨_, rfl, more_wd _ _ _, fun h => by cases h⟩
set_option maxRecDepth 100000 in
set_option maxHeartbeats 1600000 in
theorem as_any (l : List VRow) (a : Option Addr) (cap : Nat) (w : World) (hr : VRowsAt w a l) (hl : l.length ≤ 1000000) :
    Calls Try.prog 14 #[.slice a l.length cap] w fun x w' => VRowsRet w w' x l := by
  obtain ⟨i0, hi, hz0, hz1, hz2⟩ := info_parts info_rrow2
  have HA := Lib.hid hr
  clear hr
  refine calls_wd ?_
  go_enter Try.func14, Try.ntmps14
  go_wp2
  go_loopw [3, 4] (fun v i wr => ∃ (k : Nat) (m : Ext) (a' : Option Addr) (c' : Nat), k ≤ l.length ∧ i = .int .i64 k ∧ v = .slice a' k c' ∧ rowIn w.heap.size [] m.e 26 4 (.slice a' k c') k ((l.take k).flatMap vrCells) ∧ wr = wd w [m.e] m.n) (fun _ i _ => l.length - (intOf i).toNat)
  case atStart => exact ⟨0, ⟨#[], w.drawn⟩, none, 0, Nat.zero_le _, rfl, rfl, rowIn_nil _ _ _ _ _, (wd_empty _ _ _).symm⟩
  case round =>
    obtain ⟨k, m, a', c', hkl, rfl, rfl, hrow, rfl⟩ := hrel
    have HROW := Lib.hid hrow
    clear hrow
    by_cases hlt : k < l.length
    · obtain ⟨x, hx⟩ : ∃ x, l[k]? = some x := ⟨_, List.getElem?_eq_getElem hlt⟩
      obtain ⟨bb, off, rfl, hb, c0, c1, c2, c3⟩ := vrows_at HA.out k x hx
      have HS := Lib.hid (vflat_snoc l k x hx)
      obtain ⟨xk, xv, xo, xt⟩ := x
      simp only at c0 c1 c2 c3
      clear hx
      go_wp2_with (first
        | (at_builtin; refine wp_append_row (L := []) rfl _ _ _ rfl 26 i0 _ 4 48 Try.underlying22 hi hz0 hz1 hz2 rfl (by decide) (.slice a' k c') k _ rfl HROW.out _ _ 1 1 rfl rfl (by simp [Value.oneCell']) (by unfold maxLen; omega) (by omega) ?_; intro v9 m9 hr9; obtain ⟨a9, c9, rfl⟩ := rowIn_slice hr9))
      go_roundw
      case rel => exact ⟨k + 1, ⟨m9.e, m9.n⟩, a9, c9, by omega, by go_num, rfl, by rw [HS.out]; exact hr9, rfl⟩
      case measure => simp [intOf]; omega
    · obtain rfl : k = l.length := by omega
      have HROW2 : Hid (rowIn w.heap.size [] m.e 26 4 (.slice a' l.length c') l.length (l.flatMap vrCells)) := Lib.hid (by have := HROW.out; rwa [List.take_length] at this)
      clear HROW
      go_wp2
      go_ret
      exact ⟨a', c', rfl, vrows_of_row (L := []) rfl HROW2.out m.n, more_wd _ _ _, from_row HROW2.out rfl⟩
end Go.Proofs.Ytlanghikmccmbaa
