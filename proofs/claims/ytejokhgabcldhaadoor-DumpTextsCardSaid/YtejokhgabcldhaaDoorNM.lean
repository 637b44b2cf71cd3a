/- dump: strings.Split, HasSuffix, TrimSuffix at one byte. -/
import Derived.Test.YtejokhgabcldhaaDoorNH
import Derived.Test.YtejokhgabcldhaaDoorShelf
namespace Go.Proofs.YtejokhgabcldhaaDoor
open Go.ChangeShapes Go.WideShapes Go.ChangeAt Go.RowKit
set_option linter.unusedVariables false
set_option linter.unusedSimpArgs false

theorem index_cases : ∀ (s : List UInt8) (c : UInt8), (Lib.indexByte s c = -1 ∧ c ∉ s) ∨ ∃ i : Nat, Lib.indexByte s c = i ∧ i < s.length ∧ s = s.take i ++ c :: s.drop (i + 1) ∧ c ∉ s.take i
  | [], c => .inl ⟨rfl, by simp⟩
  | b :: l, c => by
    unfold Lib.indexByte
    by_cases hb : b = c
    · subst hb
      refine .inr ⟨0, by simp, by simp, by simp, by simp⟩
    · have hb' : (b == c) = false := beq_eq_false_iff_ne.2 hb
      rw [hb']
      rcases index_cases l c with ⟨h1, h2⟩ | ⟨i, h1, h2, h3, h4⟩
      · refine .inl ⟨by simp [h1], ?_⟩
        rw [List.mem_cons, not_or]; exact ⟨Ne.symm hb, h2⟩
      · have hne : ((i : Int) == -1) = false := by rw [beq_eq_false_iff_ne]; omega
        refine .inr ⟨i + 1, ?_, by simp; omega, ?_, ?_⟩
        · rw [h1]; simp [hne]
        · rw [List.take_succ_cons, List.drop_succ_cons, List.cons_append, ← h3]
        · rw [List.take_succ_cons, List.mem_cons, not_or]; exact ⟨Ne.symm hb, h4⟩
theorem splitK_one (c : UInt8) : ∀ (k : Nat) (s : List UInt8), s.count c = k → Lib.splitK [c] 0 k s = splitC c s
  | 0, s, h => by
    rw [Lib.splitK, splitC_word c s (List.count_eq_zero.1 h)]
  | k + 1, s, h => by
    rw [Lib.splitK, Lib.index_one]
    rcases index_cases s c with ⟨h1, h2⟩ | ⟨i, h1, h2, h3, h4⟩
    · rw [List.count_eq_zero.2 h2] at h; cases h
    · have hne : ((i : Int) == -1) = false := by rw [beq_eq_false_iff_ne]; omega
      rw [h1, hne]
      simp only [Bool.false_eq_true, if_false, Int.toNat_natCast, Nat.add_zero, List.length_cons, List.length_nil, Nat.zero_add]
      have hc : (s.drop (i + 1)).count c = k := by
        rw [h3, List.count_append, List.count_cons_self, List.count_eq_zero.2 h4] at h
        omega
      rw [splitK_one c k _ hc]
      conv => rhs; rw [h3]
      rw [splitC_at c _ _ h4]
theorem splitC_len (c : UInt8) : ∀ s : List UInt8, (splitC c s).length = s.count c + 1
  | [] => rfl
  | x :: s => by
    have ih := splitC_len c s
    rw [splitC]
    by_cases hx : x = c
    · subst hx; rw [if_pos rfl, List.length_cons, ih, List.count_cons_self]
    · rw [if_neg hx, List.count_cons_of_ne hx, ← ih]
      cases hs : splitC c s with
      | nil => exact absurd hs (splitC_ne c s)
      | cons w ws => rfl
theorem splitB_one (c : UInt8) (s : List UInt8) : (Lib.splitB (str [c]) 0 (s.count c) (str s)).map Value.string = (splitC c s).flatMap strCell := by
  have h := Lib.splitB_data (str [c]) 0 (s.count c) (str s)
  rw [str_data, str_data, splitK_one c _ s rfl] at h
  have h2 : (Lib.splitB (str [c]) 0 (s.count c) (str s)).map Value.string = ((Lib.splitB (str [c]) 0 (s.count c) (str s)).map (·.data.toList)).flatMap strCell := by
    rw [List.flatMap_map]
    induction (Lib.splitB (str [c]) 0 (s.count c) (str s)) with
    | nil => rfl
    | cons x l ih => rw [List.map_cons, ih, List.flatMap_cons]; simp [strCell, str_of]
  rw [h2, h]
theorem cells_row (G : List (List UInt8)) (i : Nat) (x : List UInt8) (h : G[i]? = some x) : ((G.flatMap strCell).toArray)[i]? = some (.string (str x)) := by
  have := flat_at strCell 1 strCell_len G i x 0 h (by decide)
  simpa [strCell] using this
set_option maxRecDepth 100000 in
set_option maxHeartbeats 400000 in
theorem split_any (s : List UInt8) (c : UInt8) (w : World) (hs : s.length < 4294967281) :
    Calls Tryd.prog 37 #[.string (str s), .string (str [c])] w fun x w' => x = .returned (.slice (some ⟨w.heap.size, 0, none⟩) (splitC c s).length (splitC c s).length) ∧ w' = w.alloc (.cells ((splitC c s).flatMap strCell).toArray 9) := by
  have hcnt : Lib.countB (str s) (str [c]) = s.count c := Lib.count_one c s
  have hI : ∀ (x : ByteArray) (C : Array Value), x.size ≤ (str s).size → Calls Tryd.prog 69 #[.string x, .string (str [c])] (w.alloc (.cells C 9)) fun e w' => e = .returned (.int .i64 (Lib.indexB x (str [c]))) ∧ w' = w.alloc (.cells C 9) := fun x C _ => by
    refine (Tryd.strings_Index_one x c _).mono ?_
    rintro e w' ⟨rfl, rfl⟩
    refine ⟨?_, rfl⟩
    rw [← Lib.index_one]; rfl
  have hC : Calls Tryd.prog 68 #[.string (str s), .string (str [c])] w fun e w' => e = .returned (.int .i64 (Lib.countB (str s) (str [c]))) ∧ w' = w := by
    refine (Tryd.strings_Count_one (str s) c w).mono ?_
    rintro e w' ⟨rfl, rfl⟩
    refine ⟨?_, rfl⟩
    rw [hcnt]; rfl
  have hle : s.count c ≤ s.length := List.count_le_length
  have core : Calls Tryd.prog 51 #[.string (str s), .string (str [c]), .int .i64 0, .int .i64 (-1)] w fun e w' => e = .returned (.slice (some ⟨w.heap.size, 0, none⟩) (splitC c s).length (splitC c s).length) ∧ w' = w.alloc (.cells ((splitC c s).flatMap strCell).toArray 9) := by
    have h0 := Any.strings_genSplit_core Tryd.lays221 (by kernel_rfl) (str s) (str [c]) 0 (-1) (s.count c + 1) w (by rw [str_size]; exact hs) (by rw [str_size]; exact Nat.le_refl _) (Nat.zero_le _) hI hC (by decide) (by decide)
      (by rw [if_pos (by decide), hcnt, str_size]; omega)
    rw [Nat.add_sub_cancel] at h0
    have hl : (Lib.splitB (str [c]) 0 (s.count c) (str s)).length = s.count c + 1 := by
      have := congrArg List.length (splitB_one c s)
      rw [List.length_map, flat_len strCell 1 strCell_len, splitC_len, Nat.mul_one] at this
      exact this
    have hcf : Lib.cellsOf (Lib.splitB (str [c]) 0 (s.count c) (str s)) (s.count c + 1) = ((splitC c s).flatMap strCell).toArray := by
      rw [← splitB_one, ← hl]; exact Lib.cellsOf_full _
    rw [hl, hcf, ← splitC_len] at h0
    exact h0
  go_enter Tryd.func37, Tryd.ntmps37
  go_wp2_with (first | (go_at_call 51; refine core.mono ?_; rintro e w' ⟨rfl, hw⟩; rw [hw]))
  go_ret
  exact ⟨rfl, rfl⟩
/-- .. over pieces. -/
theorem split_wd (s : List UInt8) (c : UInt8) (w : World) (L : List (Array Obj)) (n : Nat) (hs : s.length < 4294967281) :
    Calls Tryd.prog 37 #[.string (str s), .string (str [c])] (wd w L n) fun x w' => x = .returned (.slice (some ⟨sz w.heap.size (shape L), 0, none⟩) (splitC c s).length (splitC c s).length) ∧ w' = wd w (#[.cells ((splitC c s).flatMap strCell).toArray 9] :: L) n := by
  refine (split_any s c (wd w L n) hs).mono ?_
  rintro x w' ⟨rfl, rfl⟩
  refine ⟨by rw [wd_size], ?_⟩
  rw [alloc_is_plus]; rfl
theorem suffix_any (s : List UInt8) (c : UInt8) (w : World) (hs : s.length ≤ 1099511627776) : Calls Tryd.prog 36 #[.string (str s), .string (str [c])] w fun x w' => x = .returned (.bool (decide (s.getLast? = some c))) ∧ w' = w := by
  refine (Tryd.strings_HasSuffix (str s) (str [c]) w (by rw [str_size]; omega)).mono ?_
  rintro x w' ⟨rfl, rfl⟩
  refine ⟨?_, rfl⟩
  rw [str_data, str_data]
  congr 2
  unfold Lib.hasSuffix
  rw [Bool.eq_iff_iff, List.isSuffixOf_iff_suffix, decide_eq_true_iff, List.getLast?_eq_some_iff]
  constructor
  · rintro ⟨t, rfl⟩; exact ⟨t, rfl⟩
  · rintro ⟨t, rfl⟩; exact ⟨t, rfl⟩
theorem trim_any (s : List UInt8) (c : UInt8) (w : World) (hs : s.length ≤ 1099511627776) : Calls Tryd.prog 38 #[.string (str s), .string (str [c])] w fun x w' => x = .returned (.string (str (if decide (s.getLast? = some c) then s.dropLast else s))) ∧ w' = w := by
  refine (Tryd.strings_TrimSuffix (str s) (str [c]) w (by rw [str_size]; omega)).mono ?_
  rintro x w' ⟨rfl, rfl⟩
  refine ⟨?_, rfl⟩
  rw [str_data, str_data]
  have e : Lib.hasSuffix s [c] = decide (s.getLast? = some c) := by
    unfold Lib.hasSuffix
    rw [Bool.eq_iff_iff, List.isSuffixOf_iff_suffix, decide_eq_true_iff, List.getLast?_eq_some_iff]
    constructor
    · rintro ⟨t, rfl⟩; exact ⟨t, rfl⟩
    · rintro ⟨t, rfl⟩; exact ⟨t, rfl⟩
  unfold Lib.trimSuffix
  rw [e, List.dropLast_eq_take]
  rfl
end Go.Proofs.YtejokhgabcldhaaDoor
