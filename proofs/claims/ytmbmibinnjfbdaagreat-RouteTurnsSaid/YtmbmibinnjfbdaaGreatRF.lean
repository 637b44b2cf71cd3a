/- Law 37: alike, light. -/
import Derived.Test.YtmbmibinnjfbdaaGreatRE
import Derived.Laws.StructEq
import Derived.ChangeKeysEq
namespace Go.Proofs.YtmbmibinnjfbdaaGreat
open Go.ChangeShapes Go.WideShapes Go.ChangeAt Go.RowKit
set_option linter.unusedVariables false
set_option linter.unusedSimpArgs false
theorem str_toList (l : List UInt8) : (str l).toList = l := by rw [Lib.toList_data, str_data]
/-- Two records, but for their places. -/
def alikeB (x y : Rec) : Bool := decide (x.time = y.time ∧ x.keyed = y.keyed ∧ x.key = y.key ∧ x.dead = y.dead ∧ x.value = y.value)
set_option maxRecDepth 100000 in
theorem rec_eql0 (t : Int) (ky : Bool) (k : List UInt8) (dd : Bool) (v : List UInt8) (t' : Int) (ky' : Bool) (k' : List UInt8) (dd' : Bool) (v' : List UInt8) (W : World) :
    (binOp .eql 30 (.agg #[.int .i64 0, .int .i64 t, .bool ky, .string (str k), .bool dd, .string (str v)]) (.agg #[.int .i64 0, .int .i64 t', .bool ky', .string (str k'), .bool dd', .string (str v')])).run Tryz.prog W = .ok (.bool (decide (t = t' ∧ ky = ky' ∧ k = k' ∧ dd = dd' ∧ v = v'))) W := by
  rw [run_eql_struct]
  go_simp
  simp only [str_toList]
  (repeat' split) <;> simp_all
set_option maxRecDepth 100000 in
set_option maxHeartbeats 1600000 in
theorem alike_any (x y : Rec) (w : World) : Calls Tryz.prog 7 #[.agg (recCells x).toArray, .agg (recCells y).toArray] w fun e w' => e = .returned (.bool (alikeB x y)) ∧ More w w' := by
  obtain ⟨d, t, ky, k, dd, v⟩ := x
  obtain ⟨d', t', ky', k', dd', v'⟩ := y
  have QE := fun W => rec_eql0 t ky k dd v t' ky' k' dd' v' W
  obtain ⟨B, hB⟩ : ∃ B, decide (t = t' ∧ ky = ky' ∧ k = k' ∧ dd = dd' ∧ v = v') = B := ⟨_, rfl⟩
  have HB : Hid (alikeB ⟨d, t, ky, k, dd, v⟩ ⟨d', t', ky', k', dd', v'⟩ = B) := Lib.hid hB
  rw [hB] at QE
  rw [HB.out]
  clear hB
  show Calls Tryz.prog 7 #[.agg #[.int .i64 d, .int .i64 t, .bool ky, .string (str k), .bool dd, .string (str v)], .agg #[.int .i64 d', .int .i64 t', .bool ky', .string (str k'), .bool dd', .string (str v')]] w _
  refine calls_wd ?_
  go_enter Tryz.func7, Tryz.ntmps7
  go_wp2
  go_ret
  exact ⟨rfl, more_wd _ _ _⟩
/-- A yes or a no; yes says p. -/
structure YesRet (w w' : World) (x : Ending) (p : Prop) : Prop where
  out : ∃ b, x = .returned (.bool b) ∧ More w w' ∧ (b = true → p)
set_option maxRecDepth 100000 in
set_option maxHeartbeats 1600000 in
theorem lightr_any (delta time : Int) (keyed dead : Bool) (key value : List UInt8) (w : World) (hk : key.length ≤ maxLen) (hv : value.length ≤ maxLen) : Calls Tryz.prog 9 #[.agg #[.int .i64 delta, .int .i64 time, .bool keyed, .string (str key), .bool dead, .string (str value)]] w fun x w' => YesRet w w' x (key.length ≤ 200) := by
  have h1 := str_size key
  have h2 := str_size value
  unfold maxLen at hk hv
  refine calls_wd ?_
  go_enter Tryz.func9, Tryz.ntmps9
  by_cases hkl : (key.length : Int) ≤ 200
  · go_wp2
    all_goals (go_ret; exact ⟨_, rfl, more_wd _ _ _, fun _ => by omega⟩)
  · go_wp2
    all_goals (go_ret; exact ⟨_, rfl, more_wd _ _ _, fun h => by simp_all⟩)
set_option maxRecDepth 100000 in
set_option maxHeartbeats 1600000 in
theorem light_any (a : Option Addr) (cap : Nat) (l : List Rec) (w : World) (h : RecsAt w a l) (hl : l.length ≤ maxLen) (hk : ∀ x ∈ l, x.key.length ≤ maxLen ∧ x.value.length ≤ maxLen) :
    Calls Tryz.prog 4 #[.slice a l.length cap] w fun x w' => YesRet w w' x (l.length ≤ 100 ∧ ∀ y ∈ l, y.key.length ≤ 200) := by
  have HA := Lib.hid h
  have HK := Lib.hid hk
  unfold maxLen at hl
  clear h hk
  refine calls_wd ?_
  go_enter Tryz.func4, Tryz.ntmps4
  by_cases h100 : (l.length : Int) ≤ 100
  · go_wp2
    go_loopw [3] (fun i wr => ∃ (k : Nat) (m : Ext), k ≤ l.length ∧ i = .int .i64 k ∧ (∀ (j : Nat) y, j < k → l[j]? = some y → y.key.length ≤ 200) ∧ wr = wd w [m.e] m.n) (fun i _ => l.length - (intOf i).toNat)
    case atStart => exact ⟨0, ⟨#[], w.drawn⟩, Nat.zero_le _, rfl, fun j y hj => by omega, (wd_empty _ _ _).symm⟩
    case round =>
      obtain ⟨k, m, hkl, rfl, hall, rfl⟩ := hrel
      have HALL := Lib.hid hall
      clear hall
      by_cases hlt : k < l.length
      · obtain ⟨x, hx⟩ : ∃ x, l[k]? = some x := ⟨_, List.getElem?_eq_getElem hlt⟩
        obtain ⟨bb, off, rfl, hb, c0, c1, c2, c3, c4, c5⟩ := recs_at HA.out k x hx
        have HX := Lib.hid hx
        obtain ⟨hkx, hvx⟩ := HK.out x (List.mem_of_getElem? hx)
        obtain ⟨xd, xt, xk, xkey, xdead, xval⟩ := x
        simp only at c0 c1 c2 c3 c4 c5 hkx hvx
        have HLR := Lib.hid (fun W => lightr_any xd xt xk xdead xkey xval W hkx hvx)
        clear hx hkx hvx
        go_wp2_with (first | (go_at_call 9; ((with_reducible refine (HLR.out _).mono ?_); rintro e w2 hbr; obtain ⟨bl, rfl, ⟨x9, n9, rfl⟩, hyes⟩ := hbr.out; have HYES := Lib.hid hyes; clear hyes; cases bl)))
        · go_ret
          exact ⟨_, rfl, more_wd _ _ _, fun h => by cases h⟩
        · go_roundw
          case rel => exact ⟨k + 1, ⟨_, _⟩, by omega, by go_num, fun j y hj hy => by
            rcases Nat.lt_or_eq_of_le (Nat.le_of_lt_succ hj) with h | rfl
            · exact HALL.out j y h hy
            · rw [HX.out] at hy; cases hy; exact HYES.out trivial, wd_merge _ _ _ _ _⟩
          case measure => simp [intOf]; omega
      · go_wp2
        go_ret
        exact ⟨_, rfl, more_wd _ _ _, fun _ => ⟨by omega, fun y hy => by
          obtain ⟨j, hj⟩ := List.getElem?_of_mem hy
          exact HALL.out j y (by have := (List.getElem?_eq_some_iff.1 hj).1; omega) hj⟩⟩
  · go_wp2
    go_ret
    exact ⟨_, rfl, more_wd _ _ _, fun h => by cases h⟩
end Go.Proofs.YtmbmibinnjfbdaaGreat
