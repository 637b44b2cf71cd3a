/- dump: number, slices.Clone at records, may. -/
import Derived.Test.YtejokhgabcldhaaDoorNM
import Derived.Test.YtejokhgabcldhaaDoorNN
import Derived.Test.YtejokhgabcldhaaDoorNJ
import Derived.Test.YtejokhgabcldhaaDoorME
import Derived.Lib.SliceRun
namespace Go.Proofs.YtejokhgabcldhaaDoor
open Go.ChangeShapes Go.WideShapes Go.ChangeAt Go.RowKit
set_option linter.unusedVariables false
set_option linter.unusedSimpArgs false

set_option maxRecDepth 100000 in
set_option maxHeartbeats 1600000 in
theorem number_any (l : List UInt8) (w : World) (hl : l.length ≤ 1099511627) : Calls Tryd.prog 54 #[.string (str l)] w fun x w' => x = .returned (.int .i64 (numD l)) ∧ More w w' := by
  have hsz := str_size l
  refine calls_wd ?_
  go_enter Tryd.func54, Tryd.ntmps54
  go_wp2_with (first | (show wpList _ _ _ (⟨_, .convert _ _ _, _, _, _, _⟩ :: _) _ _; refine at_conv_own rfl _ rfl rfl (by omega) ?_; intro C fr cap hC; have HC := Lib.hid hC; clear hC))
  go_loopw [3, 9] (fun n i wr => ∃ (k N : Nat), k ≤ l.length ∧ n = .int .i64 N ∧ i = .int .i64 k ∧ wr = wd w [#[.cells C 5 fr]] (w.drawn + 1) ∧ N ≤ 4611686018427387909 ∧ numFold l 0 = numFold (l.drop k) N) (fun n i _ => l.length - (intOf i).toNat)
  case atStart => exact ⟨0, 0, Nat.zero_le _, rfl, rfl, rfl, by decide, by simp⟩
  case round =>
    obtain ⟨k, N, hk, rfl, rfl, rfl, hN, hf⟩ := hrel
    have HF := Lib.hid hf
    clear hf
    by_cases hlt : k < l.length
    · obtain ⟨c, hc⟩ : ∃ c, l[k]? = some c := ⟨_, List.getElem?_eq_getElem hlt⟩
      have hck : C[k]? = some (.int .u8 c.toNat) := by rw [HC.out k hlt, bc_get, hc]; rfl
      have HCC := Lib.hid hc
      have hcl := c.toNat_lt
      clear hc
      by_cases hbad : c.toNat < 48 ∨ 57 < c.toNat ∨ 461168601842738790 < N
      · have HE := Lib.hid (numD_stop HCC.out hbad HF.out)
        by_cases h1 : c.toNat < 48
        · have h1' : (c.toNat : Int) < 48 := by omega
          go_wp2
          go_ret
          exact ⟨by rw [HE.out]; rfl, more_wd _ _ _⟩
        · have h1' : ¬ (c.toNat : Int) < 48 := by omega
          by_cases h2 : 57 < c.toNat
          · have h2' : (57 : Int) < c.toNat := by omega
            go_wp2
            go_ret
            exact ⟨by rw [HE.out]; rfl, more_wd _ _ _⟩
          · have h2' : ¬ (57 : Int) < c.toNat := by omega
            have h3' : (461168601842738790 : Int) < N := by omega
            go_wp2
            go_ret
            exact ⟨by rw [HE.out]; rfl, more_wd _ _ _⟩
      · have HS := Lib.hid (numFold_step HCC.out (by omega) (by omega) (by omega) HF.out)
        have h1' : ¬ (c.toNat : Int) < 48 := by omega
        have h2' : ¬ (57 : Int) < c.toNat := by omega
        have h3' : ¬ (461168601842738790 : Int) < N := by omega
        have e1 : ((N * 10 + (c.toNat - 48) : Nat) : Int) = (N : Int) * 10 + ((c.toNat : Int) - 48) := by omega
        have hb1 : N * 10 + (c.toNat - 48) ≤ 4611686018427387909 := by omega
        clear hbad
        go_wp2
        go_roundw
        case rel => exact ⟨k + 1, N * 10 + (c.toNat - 48), by omega, by rw [e1], by go_num, by first | rfl | trivial, hb1, HS.out⟩
        case measure => simp [intOf]; omega
    · have HE := Lib.hid (numD_end (by omega) HF.out)
      have HD := Lib.hid (fun W => dig_any (N : Int) (by omega) (by omega) W)
      by_cases hne : l = []
      · subst hne
        have hq0 : (str []).toList.isEmpty = true := by rw [str_toList]; rfl
        go_wp2
        go_ret
        exact ⟨by rw [HE.out, if_pos (Or.inl (by simp))]; rfl, more_wd _ _ _⟩
      · have hq0 : (str l).toList.isEmpty = false := by rw [str_toList]; simp [hne]
        by_cases hq : digN (N : Int) = l
        · have hqq : ((str (digN (N : Int))).toList == (str l).toList) = true := by rw [hq]; simp
          have HE2 := Lib.hid (show numD l = N by rw [HE.out, if_neg (by simp [hne, hq])])
          obtain ⟨Z, hZ⟩ : ∃ Z, digN (N : Int) = Z := ⟨_, rfl⟩
          rw [hZ] at HD hqq
          clear hZ hq HE
          go_wp2_with (first | (go_at_call 34; ((with_reducible refine (HD.out _).mono ?_); rintro e w1 ⟨rfl, x1, n1, rfl⟩)))
          go_ret
          exact ⟨by rw [HE2.out]; rfl, more_wd _ _ _⟩
        · have hqq : ((str (digN (N : Int))).toList == (str l).toList) = false := by rw [str_toList, str_toList]; simp [hq]
          have HE2 := Lib.hid (show numD l = -1 by rw [HE.out, if_pos (.inr hq)])
          obtain ⟨Z, hZ⟩ : ∃ Z, digN (N : Int) = Z := ⟨_, rfl⟩
          rw [hZ] at HD hqq
          clear hZ hq HE
          go_wp2_with (first | (go_at_call 34; ((with_reducible refine (HD.out _).mono ?_); rintro e w1 ⟨rfl, x1, n1, rfl⟩)))
          go_ret
          exact ⟨by rw [HE2.out]; rfl, more_wd _ _ _⟩
/-! ### records, cloned -/
theorem info_recs : (Tryd.prog.info? 71).map (fun i => (i.zero, i.size, i.bytes)) = some (some (.agg #[.int .i64 0, .int .i64 0, .bool false, .string ⟨#[]⟩, .bool false, .string ⟨#[]⟩]), 6, 64) := by kernel_rfl
theorem rec_one (l : List Rec) : ∀ u ∈ l.flatMap recCells, u.oneCell' = true := by
  intro u hu
  obtain ⟨r, _, h⟩ := List.mem_flatMap.1 hu
  simp [recCells] at h
  rcases h with h | h | h | h | h | h <;> (subst h; rfl)
theorem recCells_len' (r : Rec) : (recCells r).length = 6 := rfl
set_option maxRecDepth 100000 in
set_option maxHeartbeats 800000 in
theorem clone_recs (a : Option Addr) (cap : Nat) (l : List Rec) (w : World) (h : RecsAt w a l) (hl : l.length ≤ 1000000) : Calls Tryd.prog 70 #[.slice a l.length cap] w fun e w' => ∃ v', e = .returned v' ∧ Made w w' 71 6 v' l.length (l.flatMap recCells) := by
  obtain ⟨i0, hi, hz0, hz1, hz2⟩ := info_parts info_recs
  have HV := Lib.hid h
  have q1 := fun (w : World) (a : Option Addr) (n c : Nat) => Lib.run_eql_slice_nil (P := Tryd.prog) w 33 71 a n c 0 0 Tryd.underlying33
  have HONE := Lib.hid (rec_one l)
  cases a with
  | none =>
    have hl0 : l = [] := by
      by_cases h0 : l = []
      · exact h0
      · obtain ⟨b, off, h1, _⟩ := h.out h0; cases h1
    subst hl0
    clear h
    refine calls_wd ?_
    go_enter Tryd.func70, Tryd.ntmps70
    go_wp2
    go_ret
    exact ⟨_, rfl, by rw [← wd_empty]; exact made_of (rowIn_nil _ _ _ _ _)⟩
  | some ad =>
    clear h
    have HLIT := Lib.hid (rowIn_lit w.heap.size [] #[] 71 6 0 (by decide) rfl)
    obtain ⟨X, hX⟩ : ∃ X, l.flatMap recCells = X := ⟨_, rfl⟩
    have HRD := Lib.hid (fun W hm => hX ▸ (HV.out.more (w' := W) hm).rd recCells_len' cap)
    rw [hX] at HONE ⊢
    obtain ⟨N, hN⟩ : ∃ N, l.length = N := ⟨_, rfl⟩
    rw [hN] at HRD hl ⊢
    clear hX HV
    refine calls_wd ?_
    go_enter Tryd.func70, Tryd.ntmps70
    go_wp2_with (at_builtin; refine wp_append_src (L := []) rfl _ _ _ rfl 71 i0 _ 6 64 Tryd.underlying33 hi hz0 hz1 hz2 rfl (by decide) (m := #[.cells #[] 71]) (n := w.drawn) rfl (.slice (some ⟨sz w.heap.size [], 0, none⟩) 0 0) 0 [] rfl HLIT.out (.slice (some ad) N cap) N X rfl (HRD.out _ (more_wd _ _ _)) HONE.out (by unfold maxLen; omega) (by omega) ?_; intro v' m' hrow')
    go_ret
    exact ⟨_, rfl, made_of (by have h := hrow'; simp only [Nat.zero_add, List.nil_append] at h; exact h)⟩
end Go.Proofs.YtejokhgabcldhaaDoor
