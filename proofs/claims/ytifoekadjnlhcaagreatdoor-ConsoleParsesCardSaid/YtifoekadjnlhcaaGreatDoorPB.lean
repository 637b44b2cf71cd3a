/- the document's console: number (printed by gen/cra.py). -/
import Derived.Test.YtifoekadjnlhcaaGreatDoorPA
import Derived.Test.YtifoekadjnlhcaaGreatDoorMI
import Derived.Test.YtifoekadjnlhcaaGreatDoorMK
namespace Go.Proofs.YtifoekadjnlhcaaGreatDoor
open Go.ChangeShapes Go.WideShapes Go.ChangeAt Go.RowKit
set_option linter.unusedVariables false
set_option linter.unusedSimpArgs false
theorem numR_no {t : Word} (h : numW t = none) : numR t = (0, false) := by unfold numR; rw [h]
theorem numW_head {t : Word} (h : headB t = false) : numW t = none := by unfold numW; rw [if_neg (by rw [h]; simp)]
theorem numW_dig {t : Word} {x : UInt8} (hx : x ∈ t) (h : digB x = false) : numW t = none := by
  unfold numW
  rw [if_neg]
  rintro ⟨_, h2⟩
  rw [List.all_eq_true] at h2
  rw [h2 x hx] at h; cases h
theorem numR_ok {t : Word} (h1 : headB t = true) (h2 : t.all digB = true) : numR t = (valW t, true) := by unfold numR numW; rw [if_pos ⟨h1, h2⟩]
structure RNum (w w' : World) (e : Ending) (t : Word) : Prop where
  out : e = .returned (.tuple #[.int .i64 ((numR t).1 : Nat), .bool (numR t).2]) ∧ More w w'
theorem rnum_of {w w' : World} {e : Ending} {t : Word} {n : Nat} {b : Bool} (h : numR t = (n, b)) (he : e = .returned (.tuple #[.int .i64 n, .bool b])) (hm : More w w') : RNum w w' e t := ⟨by rw [h]; exact ⟨he, hm⟩⟩
set_option maxRecDepth 100000 in
set_option maxHeartbeats 1600000 in
theorem rnumber_any (t : Word) (w : World) (hl : t.length ≤ 1099511627776) : Calls Tryz.prog 53 #[.string (str t)] w fun e w' => RNum w w' e t := by
  have hsz := str_size t
  cases t with
  | nil =>
    have HNO : Hid (numR [] = (0, false)) := Lib.hid rfl
    have hq0 : (str []).toList.isEmpty = true := by rw [str_toList]; rfl
    refine calls_wd ?_
    go_enter Tryz.func53, Tryz.ntmps53
    go_wp2
    go_ret2
    exact rnum_of HNO.out rfl (more_wd _ _ _)
  | cons c s =>
    obtain ⟨t, ht⟩ : ∃ t, c :: s = t := ⟨_, rfl⟩
    have hi0 : ∀ W, (Instr.index 9 (.string (str (c :: s))) (.int .i64 0)).run Tryz.prog W = .ok (.int .u8 c.toNat) W := fun W => sindex (P := Tryz.prog) 9 Tryz.underlying9 (c :: s) 0 c rfl W
    have hne : c :: s ≠ [] := by simp
    have h0 : (c :: s)[0]? = some c := rfl
    have hpos : 0 < (c :: s).length := by simp
    have HLONE : Hid ((c :: s).length = 1 → c :: s = [c]) := Lib.hid (fun h => by rw [List.eq_nil_of_length_eq_zero (l := s) (by simpa using h)])
    rw [ht] at hi0 hne h0 hsz hl hpos HLONE ⊢
    clear ht
    have hcl := c.toNat_lt
    obtain ⟨y0, hy0⟩ : ∃ y : Nat, c.toNat = y := ⟨_, rfl⟩
    rw [hy0] at hi0 hcl
    obtain ⟨N, hN⟩ : ∃ N, t.length = N := ⟨_, rfl⟩
    rw [hN] at hsz hl hpos HLONE
    have HN := Lib.hid hN
    clear hN
    by_cases hl12 : N ≤ 12
    · by_cases hz : 1 < N ∧ y0 = 48
      · obtain ⟨hz1, rfl⟩ := hz
        have HNO : Hid (numR t = (0, false)) := Lib.hid (numR_no (numW_head (by
          have hc : c = 48 := UInt8.toNat_inj.1 (by rw [hy0]; rfl)
          have h1 : t ≠ [48] := fun h => by have := HN.out; rw [h] at this; simp at this; omega
          unfold headB
          rw [h0, hc, decide_eq_false h1]
          simp)))
        refine calls_wd ?_
        go_enter Tryz.func53, Tryz.ntmps53
        go_wp2
        go_ret2
        exact rnum_of HNO.out rfl (more_wd _ _ _)
      · have HH : Hid (headB t = true) := Lib.hid (by
          by_cases h1 : N = 1
          · have h2 := HLONE.out h1
            unfold headB
            rw [h0, HN.out]
            by_cases h3 : c = 48
            · rw [h2, h3]; simp [hl12]
            · simp [hne, h1, h3]
          · have h3 : c ≠ 48 := fun h => hz ⟨by omega, by rw [← hy0, h]; rfl⟩
            unfold headB
            rw [h0, HN.out]
            simp [hne, hl12, h3])
        have HY0 := Lib.hid hy0
        clear hy0
        by_cases hg1 : 1 < N
        · have hyb : ((y0 : Int) == 48) = false := by
            rw [beq_eq_false_iff_ne]
            intro h
            exact hz ⟨hg1, by omega⟩
          clear hz HLONE
          refine calls_wd ?_
          go_enter Tryz.func53, Tryz.ntmps53
          go_wp2
          go_loopw [4, 5] (fun s4 s5 wr => ∃ (k V : Nat), k ≤ N ∧ s4 = .int .i64 V ∧ s5 = .int .i64 k ∧ V < 1000000000000 ∧ Hid (valW (t.take k) = V) ∧ Hid ((t.take k).all digB = true) ∧ wr = wd w [] w.drawn) (fun _ s5 _ => N - (intOf s5).toNat)
          case atStart => exact ⟨0, 0, Nat.zero_le _, rfl, rfl, by decide, Lib.hid rfl, Lib.hid rfl, rfl⟩
          case round =>
            obtain ⟨k, V, hkN, rfl, rfl, hV, HV, HD, rfl⟩ := hrel
            by_cases hk : k < N
            · obtain ⟨x, hx⟩ : ∃ x, t[k]? = some x := ⟨_, List.getElem?_eq_getElem (by rw [HN.out]; exact hk)⟩
              have hik : ∀ W, (Instr.index 9 (.string (str t)) (.int .i64 (k : Nat))).run Tryz.prog W = .ok (.int .u8 x.toNat) W := fun W => sindex (P := Tryz.prog) 9 Tryz.underlying9 t k x hx W
              have HTK := Lib.hid (take_snoc' hx)
              have HMEM := Lib.hid (List.mem_of_getElem? hx)
              have hxl := x.toNat_lt
              obtain ⟨y, hy⟩ : ∃ y : Nat, x.toNat = y := ⟨_, rfl⟩
              have HY := Lib.hid hy
              rw [hy] at hxl hik
              clear hx hy
              by_cases hd1 : 48 ≤ y
              · by_cases hd2 : y ≤ 57
                · have hv2 : V * 10 + (y - 48) < 1000000000000 := by
                    have h1 := valW_lt (k + 1) (t.take (k + 1)) (by rw [List.length_take]; omega) (by rw [HTK.out, List.all_append, HD.out]; simp [digB, HY.out, hd1, hd2])
                    rw [HTK.out, valW_snoc, HV.out, HY.out] at h1
                    exact Nat.lt_of_lt_of_le h1 (Nat.pow_le_pow_right (by decide) (show k + 1 ≤ 12 by omega))
                  have hdb1 : decide ((y : Int) < 48) = false := decide_eq_false (by omega)
                  have hdb2 : decide ((57 : Int) < (y : Int)) = false := decide_eq_false (by omega)
                  go_wp2
                  go_roundw
                  case rel => exact ⟨k + 1, V * 10 + (y - 48), by omega, by go_num, by go_num, hv2, Lib.hid (by rw [HTK.out, valW_snoc, HV.out, HY.out]), Lib.hid (by rw [HTK.out, List.all_append, HD.out]; simp [digB, HY.out, hd1, hd2]), by first | rfl | trivial⟩
                  case measure => simp [intOf]; omega
                · have hdb1 : decide ((y : Int) < 48) = false := decide_eq_false (by omega)
                  have HNO : Hid (numR t = (0, false)) := Lib.hid (numR_no (numW_dig HMEM.out (by simp [digB, HY.out, hd2])))
                  go_wp2
                  go_ret2
                  exact rnum_of HNO.out rfl (more_wd _ _ _)
              · have HNO : Hid (numR t = (0, false)) := Lib.hid (numR_no (numW_dig HMEM.out (by simp [digB, HY.out, hd1])))
                go_wp2
                go_ret2
                exact rnum_of HNO.out rfl (more_wd _ _ _)
            · obtain rfl : k = N := by omega
              go_wp2
              go_ret2
              rw [List.take_of_length_le (by rw [HN.out]; exact Nat.le_refl _)] at HV HD
              exact rnum_of (numR_ok HH.out HD.out) (by rw [HV.out]; rfl) (more_wd _ _ _)
        · have hb1 : decide ((1 : Int) < (N : Int)) = false := decide_eq_false (by omega)
          clear hz HLONE
          refine calls_wd ?_
          go_enter Tryz.func53, Tryz.ntmps53
          go_wp2
          go_loopw [4, 5] (fun s4 s5 wr => ∃ (k V : Nat), k ≤ N ∧ s4 = .int .i64 V ∧ s5 = .int .i64 k ∧ V < 1000000000000 ∧ Hid (valW (t.take k) = V) ∧ Hid ((t.take k).all digB = true) ∧ wr = wd w [] w.drawn) (fun _ s5 _ => N - (intOf s5).toNat)
          case atStart => exact ⟨0, 0, Nat.zero_le _, rfl, rfl, by decide, Lib.hid rfl, Lib.hid rfl, rfl⟩
          case round =>
            obtain ⟨k, V, hkN, rfl, rfl, hV, HV, HD, rfl⟩ := hrel
            by_cases hk : k < N
            · obtain ⟨x, hx⟩ : ∃ x, t[k]? = some x := ⟨_, List.getElem?_eq_getElem (by rw [HN.out]; exact hk)⟩
              have hik : ∀ W, (Instr.index 9 (.string (str t)) (.int .i64 (k : Nat))).run Tryz.prog W = .ok (.int .u8 x.toNat) W := fun W => sindex (P := Tryz.prog) 9 Tryz.underlying9 t k x hx W
              have HTK := Lib.hid (take_snoc' hx)
              have HMEM := Lib.hid (List.mem_of_getElem? hx)
              have hxl := x.toNat_lt
              obtain ⟨y, hy⟩ : ∃ y : Nat, x.toNat = y := ⟨_, rfl⟩
              have HY := Lib.hid hy
              rw [hy] at hxl hik
              clear hx hy
              by_cases hd1 : 48 ≤ y
              · by_cases hd2 : y ≤ 57
                · have hv2 : V * 10 + (y - 48) < 1000000000000 := by
                    have h1 := valW_lt (k + 1) (t.take (k + 1)) (by rw [List.length_take]; omega) (by rw [HTK.out, List.all_append, HD.out]; simp [digB, HY.out, hd1, hd2])
                    rw [HTK.out, valW_snoc, HV.out, HY.out] at h1
                    exact Nat.lt_of_lt_of_le h1 (Nat.pow_le_pow_right (by decide) (show k + 1 ≤ 12 by omega))
                  have hdb1 : decide ((y : Int) < 48) = false := decide_eq_false (by omega)
                  have hdb2 : decide ((57 : Int) < (y : Int)) = false := decide_eq_false (by omega)
                  go_wp2
                  go_roundw
                  case rel => exact ⟨k + 1, V * 10 + (y - 48), by omega, by go_num, by go_num, hv2, Lib.hid (by rw [HTK.out, valW_snoc, HV.out, HY.out]), Lib.hid (by rw [HTK.out, List.all_append, HD.out]; simp [digB, HY.out, hd1, hd2]), by first | rfl | trivial⟩
                  case measure => simp [intOf]; omega
                · have hdb1 : decide ((y : Int) < 48) = false := decide_eq_false (by omega)
                  have HNO : Hid (numR t = (0, false)) := Lib.hid (numR_no (numW_dig HMEM.out (by simp [digB, HY.out, hd2])))
                  go_wp2
                  go_ret2
                  exact rnum_of HNO.out rfl (more_wd _ _ _)
              · have HNO : Hid (numR t = (0, false)) := Lib.hid (numR_no (numW_dig HMEM.out (by simp [digB, HY.out, hd1])))
                go_wp2
                go_ret2
                exact rnum_of HNO.out rfl (more_wd _ _ _)
            · obtain rfl : k = N := by omega
              go_wp2
              go_ret2
              rw [List.take_of_length_le (by rw [HN.out]; exact Nat.le_refl _)] at HV HD
              exact rnum_of (numR_ok HH.out HD.out) (by rw [HV.out]; rfl) (more_wd _ _ _)
    · have HNO : Hid (numR t = (0, false)) := Lib.hid (numR_no (numW_head (by unfold headB; rw [HN.out]; simp [hl12])))
      refine calls_wd ?_
      go_enter Tryz.func53, Tryz.ntmps53
      go_wp2
      go_ret2
      exact rnum_of HNO.out rfl (more_wd _ _ _)
def shB : Nat → List UInt8
  | 0 => [115, 110, 121]
  | 1 => [115]
  | 2 => [115]
  | 4 => [115, 110, 110, 110]
  | 5 => [115, 110, 110]
  | 6 => [115, 115]
  | 7 => [115, 115, 110, 115]
  | 8 => [115, 115, 110]
  | 9 => [115, 115]
  | 10 => [115, 115, 110, 115, 110, 110]
  | 11 => [115, 115, 110]
  | _ => []
structure RShape (w w' : World) (e : Ending) (t : Word) : Prop where
  out : (match reqSh t with
    | some (k, _) => e = .returned (.tuple #[.string (str (shB k)), .int .u8 k])
    | none => e = .returned (.tuple #[.string (str []), .int .u8 0])) ∧ More w w'
theorem rshape_some {w w' : World} {e : Ending} {t : Word} {k : Nat} {sh : List TK} (h : reqSh t = some (k, sh)) (he : e = .returned (.tuple #[.string (str (shB k)), .int .u8 k])) (hm : More w w') : RShape w w' e t := ⟨by rw [h]; exact he, hm⟩
theorem rshape_none {w w' : World} {e : Ending} {t : Word} (h : reqSh t = none) (he : e = .returned (.tuple #[.string (str []), .int .u8 0])) (hm : More w w') : RShape w w' e t := ⟨by rw [h]; exact he, hm⟩
theorem shB_map {t : Word} {k : Nat} {sh : List TK} (h : reqSh t = some (k, sh)) : (shB k).map tkOf = sh ∧ shB k ≠ [] ∧ ∀ c ∈ shB k, c = 115 ∨ c = 110 ∨ c = 121 := by
  unfold reqSh at h
  repeat' (split at h)
  all_goals (cases h; first | exact ⟨rfl, by decide, by decide⟩ | done)
set_option maxRecDepth 100000 in
set_option maxHeartbeats 1600000 in
theorem rsh_create (w : World) : Calls Tryz.prog 28 #[.string (str w_create)] w fun e w' => RShape w w' e w_create := by
  have q0 : ((str w_create).toList == [99, 114, 101, 97, 116, 101]) = true := by rw [str_toList]; decide
  have HT : Hid (reqSh w_create = some (0, (shB 0).map tkOf)) := Lib.hid rfl
  obtain ⟨tw, htw⟩ : ∃ tw, w_create = tw := ⟨_, rfl⟩
  rw [htw] at HT q0 ⊢
  clear htw
  refine calls_wd ?_
  go_enter Tryz.func28, Tryz.ntmps28
  go_wp2
  go_ret2
  exact rshape_some HT.out rfl (more_wd _ _ _)
set_option maxRecDepth 100000 in
set_option maxHeartbeats 1600000 in
theorem rsh_remove (w : World) : Calls Tryz.prog 28 #[.string (str w_remove)] w fun e w' => RShape w w' e w_remove := by
  have q0 : ((str w_remove).toList == [99, 114, 101, 97, 116, 101]) = false := by rw [str_toList]; decide
  have q1 : ((str w_remove).toList == [114, 101, 109, 111, 118, 101]) = true := by rw [str_toList]; decide
  have HT : Hid (reqSh w_remove = some (1, (shB 1).map tkOf)) := Lib.hid rfl
  obtain ⟨tw, htw⟩ : ∃ tw, w_remove = tw := ⟨_, rfl⟩
  rw [htw] at HT q0 q1 ⊢
  clear htw
  refine calls_wd ?_
  go_enter Tryz.func28, Tryz.ntmps28
  go_wp2
  go_ret2
  exact rshape_some HT.out rfl (more_wd _ _ _)
set_option maxRecDepth 100000 in
set_option maxHeartbeats 1600000 in
theorem rsh_describe (w : World) : Calls Tryz.prog 28 #[.string (str w_describe)] w fun e w' => RShape w w' e w_describe := by
  have q0 : ((str w_describe).toList == [99, 114, 101, 97, 116, 101]) = false := by rw [str_toList]; decide
  have q1 : ((str w_describe).toList == [114, 101, 109, 111, 118, 101]) = false := by rw [str_toList]; decide
  have q2 : ((str w_describe).toList == [100, 101, 115, 99, 114, 105, 98, 101]) = true := by rw [str_toList]; decide
  have HT : Hid (reqSh w_describe = some (2, (shB 2).map tkOf)) := Lib.hid rfl
  obtain ⟨tw, htw⟩ : ∃ tw, w_describe = tw := ⟨_, rfl⟩
  rw [htw] at HT q0 q1 q2 ⊢
  clear htw
  refine calls_wd ?_
  go_enter Tryz.func28, Tryz.ntmps28
  go_wp2
  go_ret2
  exact rshape_some HT.out rfl (more_wd _ _ _)
set_option maxRecDepth 100000 in
set_option maxHeartbeats 1600000 in
theorem rsh_fetch (w : World) : Calls Tryz.prog 28 #[.string (str w_fetch)] w fun e w' => RShape w w' e w_fetch := by
  have q0 : ((str w_fetch).toList == [99, 114, 101, 97, 116, 101]) = false := by rw [str_toList]; decide
  have q1 : ((str w_fetch).toList == [114, 101, 109, 111, 118, 101]) = false := by rw [str_toList]; decide
  have q2 : ((str w_fetch).toList == [100, 101, 115, 99, 114, 105, 98, 101]) = false := by rw [str_toList]; decide
  have q3 : ((str w_fetch).toList == [102, 101, 116, 99, 104]) = true := by rw [str_toList]; decide
  have HT : Hid (reqSh w_fetch = some (4, (shB 4).map tkOf)) := Lib.hid rfl
  obtain ⟨tw, htw⟩ : ∃ tw, w_fetch = tw := ⟨_, rfl⟩
  rw [htw] at HT q0 q1 q2 q3 ⊢
  clear htw
  refine calls_wd ?_
  go_enter Tryz.func28, Tryz.ntmps28
  go_wp2
  go_ret2
  exact rshape_some HT.out rfl (more_wd _ _ _)
set_option maxRecDepth 100000 in
set_option maxHeartbeats 1600000 in
theorem rsh_bytime (w : World) : Calls Tryz.prog 28 #[.string (str w_bytime)] w fun e w' => RShape w w' e w_bytime := by
  have q0 : ((str w_bytime).toList == [99, 114, 101, 97, 116, 101]) = false := by rw [str_toList]; decide
  have q1 : ((str w_bytime).toList == [114, 101, 109, 111, 118, 101]) = false := by rw [str_toList]; decide
  have q2 : ((str w_bytime).toList == [100, 101, 115, 99, 114, 105, 98, 101]) = false := by rw [str_toList]; decide
  have q3 : ((str w_bytime).toList == [102, 101, 116, 99, 104]) = false := by rw [str_toList]; decide
  have q4 : ((str w_bytime).toList == [98, 121, 116, 105, 109, 101]) = true := by rw [str_toList]; decide
  have HT : Hid (reqSh w_bytime = some (5, (shB 5).map tkOf)) := Lib.hid rfl
  obtain ⟨tw, htw⟩ : ∃ tw, w_bytime = tw := ⟨_, rfl⟩
  rw [htw] at HT q0 q1 q2 q3 q4 ⊢
  clear htw
  refine calls_wd ?_
  go_enter Tryz.func28, Tryz.ntmps28
  go_wp2
  go_ret2
  exact rshape_some HT.out rfl (more_wd _ _ _)
set_option maxRecDepth 100000 in
set_option maxHeartbeats 1600000 in
theorem rsh_join (w : World) : Calls Tryz.prog 28 #[.string (str w_join)] w fun e w' => RShape w w' e w_join := by
  have q0 : ((str w_join).toList == [99, 114, 101, 97, 116, 101]) = false := by rw [str_toList]; decide
  have q1 : ((str w_join).toList == [114, 101, 109, 111, 118, 101]) = false := by rw [str_toList]; decide
  have q2 : ((str w_join).toList == [100, 101, 115, 99, 114, 105, 98, 101]) = false := by rw [str_toList]; decide
  have q3 : ((str w_join).toList == [102, 101, 116, 99, 104]) = false := by rw [str_toList]; decide
  have q4 : ((str w_join).toList == [98, 121, 116, 105, 109, 101]) = false := by rw [str_toList]; decide
  have q5 : ((str w_join).toList == [106, 111, 105, 110]) = true := by rw [str_toList]; decide
  have HT : Hid (reqSh w_join = some (6, (shB 6).map tkOf)) := Lib.hid rfl
  obtain ⟨tw, htw⟩ : ∃ tw, w_join = tw := ⟨_, rfl⟩
  rw [htw] at HT q0 q1 q2 q3 q4 q5 ⊢
  clear htw
  refine calls_wd ?_
  go_enter Tryz.func28, Tryz.ntmps28
  go_wp2
  go_ret2
  exact rshape_some HT.out rfl (more_wd _ _ _)
set_option maxRecDepth 100000 in
set_option maxHeartbeats 1600000 in
theorem rsh_leave (w : World) : Calls Tryz.prog 28 #[.string (str w_leave)] w fun e w' => RShape w w' e w_leave := by
  have q0 : ((str w_leave).toList == [99, 114, 101, 97, 116, 101]) = false := by rw [str_toList]; decide
  have q1 : ((str w_leave).toList == [114, 101, 109, 111, 118, 101]) = false := by rw [str_toList]; decide
  have q2 : ((str w_leave).toList == [100, 101, 115, 99, 114, 105, 98, 101]) = false := by rw [str_toList]; decide
  have q3 : ((str w_leave).toList == [102, 101, 116, 99, 104]) = false := by rw [str_toList]; decide
  have q4 : ((str w_leave).toList == [98, 121, 116, 105, 109, 101]) = false := by rw [str_toList]; decide
  have q5 : ((str w_leave).toList == [106, 111, 105, 110]) = false := by rw [str_toList]; decide
  have q6 : ((str w_leave).toList == [108, 101, 97, 118, 101]) = true := by rw [str_toList]; decide
  have HT : Hid (reqSh w_leave = some (9, (shB 9).map tkOf)) := Lib.hid rfl
  obtain ⟨tw, htw⟩ : ∃ tw, w_leave = tw := ⟨_, rfl⟩
  rw [htw] at HT q0 q1 q2 q3 q4 q5 q6 ⊢
  clear htw
  refine calls_wd ?_
  go_enter Tryz.func28, Tryz.ntmps28
  go_wp2
  go_ret2
  exact rshape_some HT.out rfl (more_wd _ _ _)
set_option maxRecDepth 100000 in
set_option maxHeartbeats 1600000 in
theorem rsh_sync (w : World) : Calls Tryz.prog 28 #[.string (str w_sync)] w fun e w' => RShape w w' e w_sync := by
  have q0 : ((str w_sync).toList == [99, 114, 101, 97, 116, 101]) = false := by rw [str_toList]; decide
  have q1 : ((str w_sync).toList == [114, 101, 109, 111, 118, 101]) = false := by rw [str_toList]; decide
  have q2 : ((str w_sync).toList == [100, 101, 115, 99, 114, 105, 98, 101]) = false := by rw [str_toList]; decide
  have q3 : ((str w_sync).toList == [102, 101, 116, 99, 104]) = false := by rw [str_toList]; decide
  have q4 : ((str w_sync).toList == [98, 121, 116, 105, 109, 101]) = false := by rw [str_toList]; decide
  have q5 : ((str w_sync).toList == [106, 111, 105, 110]) = false := by rw [str_toList]; decide
  have q6 : ((str w_sync).toList == [108, 101, 97, 118, 101]) = false := by rw [str_toList]; decide
  have q7 : ((str w_sync).toList == [115, 121, 110, 99]) = true := by rw [str_toList]; decide
  have HT : Hid (reqSh w_sync = some (7, (shB 7).map tkOf)) := Lib.hid rfl
  obtain ⟨tw, htw⟩ : ∃ tw, w_sync = tw := ⟨_, rfl⟩
  rw [htw] at HT q0 q1 q2 q3 q4 q5 q6 q7 ⊢
  clear htw
  refine calls_wd ?_
  go_enter Tryz.func28, Tryz.ntmps28
  go_wp2
  go_ret2
  exact rshape_some HT.out rfl (more_wd _ _ _)
set_option maxRecDepth 100000 in
set_option maxHeartbeats 1600000 in
theorem rsh_beat (w : World) : Calls Tryz.prog 28 #[.string (str w_beat)] w fun e w' => RShape w w' e w_beat := by
  have q0 : ((str w_beat).toList == [99, 114, 101, 97, 116, 101]) = false := by rw [str_toList]; decide
  have q1 : ((str w_beat).toList == [114, 101, 109, 111, 118, 101]) = false := by rw [str_toList]; decide
  have q2 : ((str w_beat).toList == [100, 101, 115, 99, 114, 105, 98, 101]) = false := by rw [str_toList]; decide
  have q3 : ((str w_beat).toList == [102, 101, 116, 99, 104]) = false := by rw [str_toList]; decide
  have q4 : ((str w_beat).toList == [98, 121, 116, 105, 109, 101]) = false := by rw [str_toList]; decide
  have q5 : ((str w_beat).toList == [106, 111, 105, 110]) = false := by rw [str_toList]; decide
  have q6 : ((str w_beat).toList == [108, 101, 97, 118, 101]) = false := by rw [str_toList]; decide
  have q7 : ((str w_beat).toList == [115, 121, 110, 99]) = false := by rw [str_toList]; decide
  have q8 : ((str w_beat).toList == [98, 101, 97, 116]) = true := by rw [str_toList]; decide
  have HT : Hid (reqSh w_beat = some (8, (shB 8).map tkOf)) := Lib.hid rfl
  obtain ⟨tw, htw⟩ : ∃ tw, w_beat = tw := ⟨_, rfl⟩
  rw [htw] at HT q0 q1 q2 q3 q4 q5 q6 q7 q8 ⊢
  clear htw
  refine calls_wd ?_
  go_enter Tryz.func28, Tryz.ntmps28
  go_wp2
  go_ret2
  exact rshape_some HT.out rfl (more_wd _ _ _)
set_option maxRecDepth 100000 in
set_option maxHeartbeats 1600000 in
theorem rsh_commit (w : World) : Calls Tryz.prog 28 #[.string (str w_commit)] w fun e w' => RShape w w' e w_commit := by
  have q0 : ((str w_commit).toList == [99, 114, 101, 97, 116, 101]) = false := by rw [str_toList]; decide
  have q1 : ((str w_commit).toList == [114, 101, 109, 111, 118, 101]) = false := by rw [str_toList]; decide
  have q2 : ((str w_commit).toList == [100, 101, 115, 99, 114, 105, 98, 101]) = false := by rw [str_toList]; decide
  have q3 : ((str w_commit).toList == [102, 101, 116, 99, 104]) = false := by rw [str_toList]; decide
  have q4 : ((str w_commit).toList == [98, 121, 116, 105, 109, 101]) = false := by rw [str_toList]; decide
  have q5 : ((str w_commit).toList == [106, 111, 105, 110]) = false := by rw [str_toList]; decide
  have q6 : ((str w_commit).toList == [108, 101, 97, 118, 101]) = false := by rw [str_toList]; decide
  have q7 : ((str w_commit).toList == [115, 121, 110, 99]) = false := by rw [str_toList]; decide
  have q8 : ((str w_commit).toList == [98, 101, 97, 116]) = false := by rw [str_toList]; decide
  have q9 : ((str w_commit).toList == [99, 111, 109, 109, 105, 116]) = true := by rw [str_toList]; decide
  have HT : Hid (reqSh w_commit = some (10, (shB 10).map tkOf)) := Lib.hid rfl
  obtain ⟨tw, htw⟩ : ∃ tw, w_commit = tw := ⟨_, rfl⟩
  rw [htw] at HT q0 q1 q2 q3 q4 q5 q6 q7 q8 q9 ⊢
  clear htw
  refine calls_wd ?_
  go_enter Tryz.func28, Tryz.ntmps28
  go_wp2
  go_ret2
  exact rshape_some HT.out rfl (more_wd _ _ _)
set_option maxRecDepth 100000 in
set_option maxHeartbeats 1600000 in
theorem rsh_committed (w : World) : Calls Tryz.prog 28 #[.string (str w_committed)] w fun e w' => RShape w w' e w_committed := by
  have q0 : ((str w_committed).toList == [99, 114, 101, 97, 116, 101]) = false := by rw [str_toList]; decide
  have q1 : ((str w_committed).toList == [114, 101, 109, 111, 118, 101]) = false := by rw [str_toList]; decide
  have q2 : ((str w_committed).toList == [100, 101, 115, 99, 114, 105, 98, 101]) = false := by rw [str_toList]; decide
  have q3 : ((str w_committed).toList == [102, 101, 116, 99, 104]) = false := by rw [str_toList]; decide
  have q4 : ((str w_committed).toList == [98, 121, 116, 105, 109, 101]) = false := by rw [str_toList]; decide
  have q5 : ((str w_committed).toList == [106, 111, 105, 110]) = false := by rw [str_toList]; decide
  have q6 : ((str w_committed).toList == [108, 101, 97, 118, 101]) = false := by rw [str_toList]; decide
  have q7 : ((str w_committed).toList == [115, 121, 110, 99]) = false := by rw [str_toList]; decide
  have q8 : ((str w_committed).toList == [98, 101, 97, 116]) = false := by rw [str_toList]; decide
  have q9 : ((str w_committed).toList == [99, 111, 109, 109, 105, 116]) = false := by rw [str_toList]; decide
  have q10 : ((str w_committed).toList == [99, 111, 109, 109, 105, 116, 116, 101, 100]) = true := by rw [str_toList]; decide
  have HT : Hid (reqSh w_committed = some (11, (shB 11).map tkOf)) := Lib.hid rfl
  obtain ⟨tw, htw⟩ : ∃ tw, w_committed = tw := ⟨_, rfl⟩
  rw [htw] at HT q0 q1 q2 q3 q4 q5 q6 q7 q8 q9 q10 ⊢
  clear htw
  refine calls_wd ?_
  go_enter Tryz.func28, Tryz.ntmps28
  go_wp2
  go_ret2
  exact rshape_some HT.out rfl (more_wd _ _ _)
set_option maxRecDepth 100000 in
set_option maxHeartbeats 1600000 in
theorem rshape_any (t : Word) (w : World) : Calls Tryz.prog 28 #[.string (str t)] w fun e w' => RShape w w' e t := by
  by_cases h_create : t = w_create
  · subst h_create; exact rsh_create w
  by_cases h_remove : t = w_remove
  · subst h_remove; exact rsh_remove w
  by_cases h_describe : t = w_describe
  · subst h_describe; exact rsh_describe w
  by_cases h_fetch : t = w_fetch
  · subst h_fetch; exact rsh_fetch w
  by_cases h_bytime : t = w_bytime
  · subst h_bytime; exact rsh_bytime w
  by_cases h_join : t = w_join
  · subst h_join; exact rsh_join w
  by_cases h_leave : t = w_leave
  · subst h_leave; exact rsh_leave w
  by_cases h_sync : t = w_sync
  · subst h_sync; exact rsh_sync w
  by_cases h_beat : t = w_beat
  · subst h_beat; exact rsh_beat w
  by_cases h_commit : t = w_commit
  · subst h_commit; exact rsh_commit w
  by_cases h_committed : t = w_committed
  · subst h_committed; exact rsh_committed w
  have HT : Hid (reqSh t = none) := Lib.hid (by unfold reqSh; rw [if_neg h_create, if_neg h_remove, if_neg h_describe, if_neg h_fetch, if_neg h_bytime, if_neg h_join, if_neg h_leave, if_neg h_sync, if_neg h_beat, if_neg h_commit, if_neg h_committed])
  have hne : ∀ l, t ≠ l → ((str t).toList == l) = false := fun l h => by rw [str_toList]; exact beq_false_of_ne h
  have q0 := hne w_create h_create
  have q1 := hne w_remove h_remove
  have q2 := hne w_describe h_describe
  have q3 := hne w_fetch h_fetch
  have q4 := hne w_bytime h_bytime
  have q5 := hne w_join h_join
  have q6 := hne w_leave h_leave
  have q7 := hne w_sync h_sync
  have q8 := hne w_beat h_beat
  have q9 := hne w_commit h_commit
  have q10 := hne w_committed h_committed
  clear hne h_create h_remove h_describe h_fetch h_bytime h_join h_leave h_sync h_beat h_commit h_committed
  unfold w_create at q0
  unfold w_remove at q1
  unfold w_describe at q2
  unfold w_fetch at q3
  unfold w_bytime at q4
  unfold w_join at q5
  unfold w_leave at q6
  unfold w_sync at q7
  unfold w_beat at q8
  unfold w_commit at q9
  unfold w_committed at q10
  refine calls_wd ?_
  go_enter Tryz.func28, Tryz.ntmps28
  go_wp2
  go_ret2
  exact rshape_none HT.out rfl (more_wd _ _ _)
theorem mem_take_succ {t : Word} {k : Nat} {x c : UInt8} (h : t[k]? = some x) (h1 : c ∉ t.take k) (h2 : x ≠ c) : c ∉ t.take (k + 1) := by
  rw [take_snoc' h]
  intro hm
  rcases List.mem_append.1 hm with h | h
  · exact h1 h
  · simp at h; exact h2 h.symm
theorem cutC_look {t : Word} {k : Nat} {c : UInt8} (h : t[k]? = some c) (h1 : c ∉ t.take k) : cutC c t = some (t.take k, t.drop (k + 1)) := by
  have e : t = t.take k ++ c :: t.drop (k + 1) := by
    have hlt := (List.getElem?_eq_some_iff.1 h).1
    rw [← List.take_append_drop k t]
    congr 1
    · simp
    · rw [List.take_append_drop]
      rw [List.drop_eq_getElem_cons hlt]
      congr 1
      exact (List.getElem?_eq_some_iff.1 h).2
  conv => lhs; rw [e]
  exact cutC_at c _ _ h1
theorem getLast_at {t : Word} {x : UInt8} {n : Nat} (hn : t.length = n + 1) (h : t[n]? = some x) : t.getLast? = some x := by
  rw [List.getLast?_eq_getElem?, hn]; exact h
theorem dropLast_take {t : Word} {n : Nat} (hn : t.length = n + 1) : t.dropLast = t.take n := by
  rw [List.dropLast_eq_take, hn]; rfl
set_option maxRecDepth 100000 in
set_option maxHeartbeats 1600000 in
theorem rrecord_any (t : Word) (w : World) (hl : t.length ≤ 1099511627776) : Calls Tryz.prog 52 #[.string (str t)] w fun e w' => e = .returned (crec (recW t)) ∧ More w w' := by
  have hsz := str_size t
  have HTO := Lib.hid (fun K h W => str_to t K h W)
  have HFROM := Lib.hid (fun K h W => str_from t K h W)
  obtain ⟨N, hN⟩ : ∃ N, t.length = N := ⟨_, rfl⟩
  rw [hN] at hsz hl HTO HFROM
  have HN := Lib.hid hN
  clear hN
  refine calls_wd ?_
  go_enter Tryz.func52, Tryz.ntmps52
  go_wp2
  go_loopw [3] (fun s3 wr => ∃ k : Nat, k ≤ N ∧ s3 = .int .i64 k ∧ Hid (61 ∉ t.take k) ∧ wr = wd w [#[.cells #[.int .i64 0, .int .i64 0, .bool false, .string { data := #[] }, .bool false, .string { data := #[] }] 85]] w.drawn) (fun s3 _ => N - (intOf s3).toNat)
  case atStart => exact ⟨0, Nat.zero_le _, rfl, Lib.hid (by simp), rfl⟩
  case round =>
    obtain ⟨k, hkN, rfl, HNM, rfl⟩ := hrel
    by_cases hk : k < N
    · obtain ⟨x, hx⟩ : ∃ x, t[k]? = some x := ⟨_, List.getElem?_eq_getElem (by rw [HN.out]; exact hk)⟩
      have hik : ∀ W, (Instr.index 9 (.string (str t)) (.int .i64 (k : Nat))).run Tryz.prog W = .ok (.int .u8 x.toNat) W := fun W => sindex (P := Tryz.prog) 9 Tryz.underlying9 t k x hx W
      have HX := Lib.hid hx
      clear hx
      by_cases h61 : x = 61
      · subst h61
        have HR : Hid (recW t = ⟨0, 0, true, t.take k, false, t.drop (k + 1)⟩) := Lib.hid (by unfold recW; rw [cutC_look HX.out HNM.out])
        have h1 := HTO.out k (by omega)
        have h2 := HFROM.out (k + 1) (by omega)
        rw [show ((k + 1 : Nat) : Int) = (k : Int) + 1 by omega] at h2
        go_wp2
        refine wp_region_tail [0, 1, 2, 3, 4, 5, 6, 7] [8] [true, true, true, true, true, true, true, true] [false, false, false, false, false, false, false, false, true] ⟨rfl, rfl⟩ (by kernel_rfl) (by kernel_rfl) (fun _ _ d _ _ h => by cases d <;> exact h) ?_
        apply Exists.intro
        refine ⟨?_, ?_⟩
        · simp only [sel_t, sel_f, sel_n]
          repeat (go_big_quiet_step ((fail)))
          exact wpQuiet_nil rfl
        intro m0
        simp only [sel_t, sel_f, sel_n]
        go_wp2
        refine bodyPost_ret (v := .agg #[.int .i64 0, .int .i64 0, .bool true, .string (str (t.take k)), .bool false, .string (str (t.drop (k + 1)))]) (by simp [results, Tryz.results52, go_sem]) rfl ?_
        exact ⟨by rw [HR.out], more_wd _ _ _⟩
      · have hxl := x.toNat_lt
        have hxb : ((x.toNat : Int) == 61) = false := by
          rw [beq_eq_false_iff_ne]
          intro h
          exact h61 (UInt8.toNat_inj.1 (by show x.toNat = 61; omega))
        have HNM2 := Lib.hid (mem_take_succ HX.out HNM.out h61)
        go_wp2
        go_roundw
        case rel => exact ⟨k + 1, by omega, by go_num, HNM2, by first | rfl | trivial⟩
        case measure => simp [intOf]; omega
    · obtain rfl : k = N := by omega
      have hNM : 61 ∉ t := by have := HNM.out; rw [List.take_of_length_le (by rw [HN.out]; exact Nat.le_refl _)] at this; exact this
      have HC := Lib.hid (cutC_none 61 t hNM)
      clear hNM
      cases k with
      | zero =>
        have HR : Hid (recW t = ⟨0, 0, false, [], false, t⟩) := Lib.hid (by
          have h0 : t = [] := List.eq_nil_of_length_eq_zero HN.out
          unfold recW; rw [HC.out]; dsimp only; rw [h0]; rfl)
        go_wp2
        refine bodyPost_ret (v := .agg #[.int .i64 0, .int .i64 0, .bool false, .string { data := #[] }, .bool false, .string (str t)]) (by simp [results, Tryz.results52, go_sem]) rfl ?_
        exact ⟨by rw [HR.out]; rfl, more_wd _ _ _⟩
      | succ n =>
        obtain ⟨x, hx⟩ : ∃ x, t[n]? = some x := ⟨_, List.getElem?_eq_getElem (by rw [HN.out]; omega)⟩
        have hin : ∀ W, (Instr.index 9 (.string (str t)) (.int .i64 (n : Nat))).run Tryz.prog W = .ok (.int .u8 x.toNat) W := fun W => sindex (P := Tryz.prog) 9 Tryz.underlying9 t n x hx W
        have hsub : ((n + 1 : Nat) : Int) - 1 = (n : Int) := by omega
        have HX := Lib.hid hx
        clear hx
        by_cases h33 : x = 33
        · subst h33
          have HR : Hid (recW t = ⟨0, 0, true, t.take n, true, []⟩) := Lib.hid (by unfold recW; rw [HC.out]; dsimp only; rw [if_pos (getLast_at HN.out HX.out), dropLast_take HN.out])
          have h1 := HTO.out n (by omega)
          go_wp2
          refine bodyPost_ret (v := .agg #[.int .i64 0, .int .i64 0, .bool true, .string (str (t.take n)), .bool true, .string { data := #[] }]) (by simp [results, Tryz.results52, go_sem]) rfl ?_
          exact ⟨by rw [HR.out]; rfl, more_wd _ _ _⟩
        · have hxl := x.toNat_lt
          have hxb : ((x.toNat : Int) == 33) = false := by
            rw [beq_eq_false_iff_ne]
            intro h
            exact h33 (UInt8.toNat_inj.1 (by show x.toNat = 33; omega))
          have HR : Hid (recW t = ⟨0, 0, false, [], false, t⟩) := Lib.hid (by
            unfold recW; rw [HC.out]; dsimp only
            rw [if_neg (by rw [getLast_at HN.out HX.out]; intro h; exact h33 (Option.some.inj h))])
          go_wp2
          refine bodyPost_ret (v := .agg #[.int .i64 0, .int .i64 0, .bool false, .string { data := #[] }, .bool false, .string (str t)]) (by simp [results, Tryz.results52, go_sem]) rfl ?_
          exact ⟨by rw [HR.out]; rfl, more_wd _ _ _⟩
end Go.Proofs.YtifoekadjnlhcaaGreatDoor
