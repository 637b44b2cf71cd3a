/- slices.Equal: at bytes, at records; whether two batches are one. -/
import Derived.Test.YtifoekadjnlhcaaGreatDoorMC
import Derived.Test.YtifoekadjnlhcaaGreatDoorMD
import Derived.Laws.StructEq
import Derived.ChangeKeysEq
namespace Go.Proofs.YtifoekadjnlhcaaGreatDoor
open Go.ChangeShapes Go.WideShapes Go.ChangeAt Go.RowKit
set_option linter.unusedVariables false
set_option linter.unusedSimpArgs false
theorem eq_of_take {α : Type} {a b : List α} (hl : a.length = b.length) (h : ∀ j, j < a.length → a[j]? = b[j]?) : a = b := by
  apply List.ext_getElem?
  intro i
  by_cases hi : i < a.length
  · exact h i hi
  · rw [List.getElem?_eq_none (by omega), List.getElem?_eq_none (by omega)]
theorem rec_eq (x y : Rec) : x = y ↔ x.delta = y.delta ∧ x.time = y.time ∧ x.keyed = y.keyed ∧ x.key = y.key ∧ x.dead = y.dead ∧ x.value = y.value := by
  cases x; cases y; simp
instance (x y : Rec) : Decidable (x = y) := decidable_of_iff _ (rec_eq x y).symm
instance : DecidableEq Rec := fun x y => inferInstance
theorem info_rec : (Tryz.prog.info? 85).map (fun i => (i.zero, i.size, i.bytes)) = some (some (.agg #[.int .i64 0, .int .i64 0, .bool false, .string ⟨#[]⟩, .bool false, .string ⟨#[]⟩]), 6, 64) := by kernel_rfl
set_option maxRecDepth 100000 in
set_option maxHeartbeats 1600000 in
theorem rsame_rec (d t : Int) (ky : Bool) (k : List UInt8) (dd : Bool) (v : List UInt8) (d' t' : Int) (ky' : Bool) (k' : List UInt8) (dd' : Bool) (v' : List UInt8) (w : World) :
    Calls Tryz.prog 107 #[.agg #[.int .i64 d, .int .i64 t, .bool ky, .string (str k), .bool dd, .string (str v)], .agg #[.int .i64 d', .int .i64 t', .bool ky', .string (str k'), .bool dd', .string (str v')]] w fun e w' =>
    e = .returned (.bool (decide ((⟨d, t, ky, k, dd, v⟩ : Rec) = ⟨d', t', ky', k', dd', v'⟩))) ∧ More w w' := by
  refine calls_wd ?_
  go_enter Tryz.func107, Tryz.ntmps107
  go_wp2
  all_goals (go_ret; refine ⟨ret_b ?_, more_wd _ _ _⟩; (try simp only [str_toList] at *); simp_all <;> exact Bool.eq_iff_iff.2 (by simp))
set_option maxRecDepth 100000 in
set_option maxHeartbeats 1600000 in
theorem rsameall_any (a1 a2 : Option Addr) (c1 c2 : Nat) (l1 l2 : List Rec) (w : World) (h1 : RecsAt w a1 l1) (h2 : RecsAt w a2 l2) (hm1 : l1.length ≤ maxLen) (hm2 : l2.length ≤ maxLen) :
    Calls Tryz.prog 76 #[.slice a1 l1.length c1, .slice a2 l2.length c2] w fun e w' => e = .returned (.bool (decide (l1 = l2))) ∧ More w w' := by
  have H1 := Lib.hid h1
  have H2 := Lib.hid h2
  clear h1 h2
  unfold maxLen at hm1 hm2
  by_cases hl : l1.length = l2.length
  · have HL := Lib.hid hl
    rw [← hl]
    clear hl hm2
    refine calls_wd ?_
    go_enter Tryz.func76, Tryz.ntmps76
    go_wp2
    go_loopw [5] (fun i wr => ∃ (k : Nat) (m : Ext), k ≤ l1.length ∧ i = .int .i64 k ∧ (∀ j, j < k → l1[j]? = l2[j]?) ∧ wr = wd w [m.e] m.n) (fun i _ => l1.length - (intOf i).toNat)
    case atStart => exact ⟨0, ⟨#[], w.drawn⟩, Nat.zero_le _, rfl, fun j hj => by omega, (wd_empty _ _ _).symm⟩
    case round =>
      obtain ⟨k, m, hk, rfl, hall, rfl⟩ := hrel
      have HA := Lib.hid hall
      clear hall
      by_cases hlt : k < l1.length
      · obtain ⟨x, hx⟩ : ∃ x, l1[k]? = some x := ⟨_, List.getElem?_eq_getElem hlt⟩
        obtain ⟨y, hy⟩ : ∃ y, l2[k]? = some y := ⟨_, List.getElem?_eq_getElem (by have := HL.out; omega)⟩
        obtain ⟨b1, o1, rfl, hb1, p0, p1, p2, p3, p4, p5⟩ := recs_at H1.out k x hx
        obtain ⟨b2, o2, rfl, hb2, q0, q1, q2, q3, q4, q5⟩ := recs_at H2.out k y hy
        have HX := Lib.hid hx
        have HY := Lib.hid hy
        clear hx hy
        obtain ⟨d, t, ky, key, dd, val⟩ := x
        obtain ⟨d', t', ky', key', dd', val'⟩ := y
        dsimp only at p0 p1 p2 p3 p4 p5 q0 q1 q2 q3 q4 q5
        have QN := fun W => rsame_rec d t ky key dd val d' t' ky' key' dd' val' W
        by_cases hxy : (⟨d, t, ky, key, dd, val⟩ : Rec) = ⟨d', t', ky', key', dd', val'⟩
        · rw [show decide ((⟨d, t, ky, key, dd, val⟩ : Rec) = ⟨d', t', ky', key', dd', val'⟩) = true from decide_eq_true hxy] at QN
          have HXY := Lib.hid hxy
          clear hxy
          go_wp2
          refine wp_region_wd (by kernel_rfl) (by kernel_rfl) ?_
          repeat (go_big_quiet_step ((first | (go_at_call 107; with_reducible exact Calls.wd_of (QN _)))))
          refine wpQuiet_nil ?_
          rintro _ ⟨mx, rfl⟩
          go_wp2
          go_roundw
          case rel => exact ⟨k + 1, ⟨_, _⟩, by omega, by go_num, fun j hj => by rcases Nat.lt_or_eq_of_le (Nat.le_of_lt_succ hj) with h | rfl; exact HA.out j h; rw [HX.out, HY.out, HXY.out], by rw [wd_merge]⟩
          case measure => simp [intOf]; omega
        · rw [show decide ((⟨d, t, ky, key, dd, val⟩ : Rec) = ⟨d', t', ky', key', dd', val'⟩) = false from decide_eq_false hxy] at QN
          have HN : Hid (decide (l1 = l2) = false) := Lib.hid (by
            rw [decide_eq_false_iff_not]; intro h; subst h
            have h1 := HX.out
            rw [HY.out] at h1
            exact hxy (Option.some.inj h1).symm)
          clear hxy
          go_wp2
          refine wp_region_wd (by kernel_rfl) (by kernel_rfl) ?_
          repeat (go_big_quiet_step ((first | (go_at_call 107; with_reducible exact Calls.wd_of (QN _)))))
          refine wpQuiet_nil ?_
          rintro _ ⟨mx, rfl⟩
          go_wp2
          all_goals (go_ret; exact ⟨by rw [HN.out]; rfl, more_wd _ _ _⟩)
      · have HE : Hid (decide (l1 = l2) = true) := Lib.hid (by rw [decide_eq_true_eq]; exact eq_of_take HL.out (fun j hj => HA.out j (by omega)))
        go_wp2
        go_ret
        exact ⟨by rw [HE.out]; rfl, more_wd _ _ _⟩
  · have hne : ((l1.length : Int) == (l2.length : Int)) = false := by rw [beq_eq_false_iff_ne]; omega
    have HN : Hid (decide (l1 = l2) = false) := Lib.hid (by rw [decide_eq_false_iff_not]; intro h; subst h; exact hl rfl)
    refine calls_wd ?_
    go_enter Tryz.func76, Tryz.ntmps76
    go_wp2
    go_ret
    exact ⟨by rw [HN.out]; rfl, more_wd _ _ _⟩
abbrev bbox (base count producer epoch seq : Int) (a : Option Addr) (n cap : Nat) : Array Obj := #[.cells #[.int .i64 base, .int .i64 count, .int .i64 producer, .int .i64 epoch, .int .i64 seq, .slice a n cap] 25]
theorem index6_0 (a b c d e f : Value) (W : World) : (Instr.index 401 (.agg #[a, b, c, d, e, f]) (.int .i64 0)).run Tryz.prog W = .ok a W := by kernel_rfl
theorem index6_1 (a b c d e f : Value) (W : World) : (Instr.index 401 (.agg #[a, b, c, d, e, f]) (.int .i64 1)).run Tryz.prog W = .ok b W := by kernel_rfl
theorem index6_2 (a b c d e f : Value) (W : World) : (Instr.index 401 (.agg #[a, b, c, d, e, f]) (.int .i64 2)).run Tryz.prog W = .ok c W := by kernel_rfl
theorem index6_3 (a b c d e f : Value) (W : World) : (Instr.index 401 (.agg #[a, b, c, d, e, f]) (.int .i64 3)).run Tryz.prog W = .ok d W := by kernel_rfl
theorem index6_4 (a b c d e f : Value) (W : World) : (Instr.index 401 (.agg #[a, b, c, d, e, f]) (.int .i64 4)).run Tryz.prog W = .ok e W := by kernel_rfl
theorem index6_5 (a b c d e f : Value) (W : World) : (Instr.index 401 (.agg #[a, b, c, d, e, f]) (.int .i64 5)).run Tryz.prog W = .ok f W := by kernel_rfl
attribute [local go_sem] index6_0 index6_1 index6_2 index6_3 index6_4 index6_5
end Go.Proofs.YtifoekadjnlhcaaGreatDoor
namespace Go.Proofs.YtifoekadjnlhcaaGreatDoor
open Go.ChangeShapes Go.WideShapes Go.ChangeAt Go.RowKit
set_option linter.unusedVariables false
set_option linter.unusedSimpArgs false
theorem bat_eq (x y : Bat) : x = y ↔ x.base = y.base ∧ x.count = y.count ∧ x.producer = y.producer ∧ x.epoch = y.epoch ∧ x.seq = y.seq ∧ x.recs = y.recs := by
  cases x; cases y; simp
instance (x y : Bat) : Decidable (x = y) := decidable_of_iff _ (bat_eq x y).symm
instance : DecidableEq Bat := fun x y => inferInstance
set_option maxRecDepth 100000 in
set_option maxHeartbeats 1600000 in
theorem rsame_bat (x y : Bat) (a1 a2 : Option Addr) (c1 c2 : Nat) (w : World) (h1 : RecsAt w a1 x.recs) (h2 : RecsAt w a2 y.recs) (hm1 : x.recs.length ≤ maxLen) (hm2 : y.recs.length ≤ maxLen) :
    Calls Tryz.prog 54 #[.agg #[.int .i64 x.base, .int .i64 x.count, .int .i64 x.producer, .int .i64 x.epoch, .int .i64 x.seq, .slice a1 x.recs.length c1], .agg #[.int .i64 y.base, .int .i64 y.count, .int .i64 y.producer, .int .i64 y.epoch, .int .i64 y.seq, .slice a2 y.recs.length c2]] w fun e w' =>
    e = .returned (.bool (decide (x = y))) ∧ More w w' := by
  have hq := fun W h1 h2 => rsameall_any a1 a2 c1 c2 x.recs y.recs W h1 h2 hm1 hm2
  have HE := Lib.hid (bat_eq x y)
  have H1 := Lib.hid h1
  have H2 := Lib.hid h2
  obtain ⟨b0, b1, b2, b3, b4, l1⟩ := x
  obtain ⟨d0, d1, d2, d3, d4, l2⟩ := y
  dsimp only at hq HE hm1 hm2 H1 H2 ⊢
  have HQ := Lib.hid hq
  unfold maxLen at hm1 hm2
  clear h1 h2 hq
  refine calls_wd ?_
  go_enter Tryz.func54, Tryz.ntmps54
  go_wp2_with (first | (go_at_call 76; ((with_reducible refine (HQ.out _ (H1.out.more (more_wd _ _ _)) (H2.out.more (more_wd _ _ _))).mono ?_); rintro e w1 ⟨rfl, x1, n1, rfl⟩)))
  all_goals (go_ret; refine ⟨ret_b ?_, more_wd _ _ _⟩; simp only [Bat.mk.injEq]; simp_all)
end Go.Proofs.YtifoekadjnlhcaaGreatDoor
namespace Go.Proofs.YtifoekadjnlhcaaGreatDoor
open Go.RowKit
set_option linter.unusedVariables false
set_option linter.unusedSimpArgs false
def numSt : Nat → List UInt8 → Int → List UInt8 × Int
  | 0, l, e => (l, e)
  | k + 1, l, e => (numL (numSt k l e).1 (numSt k l e).2, numE (numSt k l e).1 (numSt k l e).2)
def numAt (k : Nat) (l : List UInt8) (e : Int) : Int := numV (numSt k l e).1 (numSt k l e).2
def recSt : Nat → List UInt8 → Int → List UInt8 × Int
  | 0, l, e => (l, e)
  | k + 1, l, e => ((recGet (recSt k l e).1 (recSt k l e).2).1, (recGet (recSt k l e).1 (recSt k l e).2).2.1)
def recAt (k : Nat) (l : List UInt8) (e : Int) : List UInt8 × Int × Rec × Int := recGet (recSt k l e).1 (recSt k l e).2
def recsOf (n : Nat) (l : List UInt8) (e : Int) : List Rec := (List.range n).map fun k => (recAt k l e).2.2.1
theorem chk_all : ∀ (l : List Rec) (last count : Int), chk last count l = 0 → ∀ r ∈ l, recCheck r = 0
  | [], _, _, _ => by simp
  | r :: rs, last, count, h => by
    rw [chk_cons] at h
    by_cases h1 : recCheck r = 0
    · rw [if_neg (by rw [h1]; simp)] at h
      split at h
      · simp at h
      · intro x hx
        rcases List.mem_cons.1 hx with rfl | hx
        · exact h1
        · exact chk_all rs _ _ h x hx
    · rw [if_pos h1] at h; exact absurd h h1
def batN (l : List UInt8) : Nat := (max 0 (min (numAt 5 l 0) 32)).toNat
def batDec (l : List UInt8) : Bat := ⟨numAt 0 l 0, numAt 1 l 0, numAt 2 l 0, numAt 3 l 0, numAt 4 l 0, recsOf (batN l) (numSt 6 l 0).1 (numSt 6 l 0).2⟩
def batGet (l : List UInt8) : Bat × Int := if batPut (batDec l) = (l, 0) then (batDec l, 0) else (Bat.zero, 4)
end Go.Proofs.YtifoekadjnlhcaaGreatDoor
