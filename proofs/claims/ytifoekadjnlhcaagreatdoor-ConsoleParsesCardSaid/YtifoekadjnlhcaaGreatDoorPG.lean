/- the document's console: Digits; lines that are the same; the law's walk. -/
import Derived.Test.YtifoekadjnlhcaaGreatDoorPF
import Derived.Test.YtifoekadjnlhcaaGreatDoorNA
import Derived.Test.YtifoekadjnlhcaaGreatDoorMW
import Derived.Test.YtifoekadjnlhcaaGreatDoorMV
namespace Go.Proofs.YtifoekadjnlhcaaGreatDoor
open Go.ChangeShapes Go.WideShapes Go.ChangeAt Go.RowKit
set_option linter.unusedVariables false
set_option linter.unusedSimpArgs false
set_option maxRecDepth 100000 in
set_option maxHeartbeats 1600000 in
theorem rdigI_any (n : Int) (h1 : -4611686018427387910 ≤ n) (h2 : n ≤ 4611686018427387910) (w : World) : Calls Tryz.prog 14 #[.int .i64 n] w fun x w' => x = .returned (.string (str (digI n))) ∧ More w w' := by
  by_cases h0 : n < 0
  · obtain ⟨k, hkn⟩ : ∃ k : Nat, -n = (k : Int) := ⟨(-n).toNat, by omega⟩
    have hk : k ≤ 4611686018427387910 := by omega
    have H : Hid (∀ w, Calls Tryz.prog 14 #[.int .i64 k] w fun x w' => x = .returned (.string (str (digs k))) ∧ More w w') := Lib.hid (rdigs_any k hk)
    have hdl := digs_len 18 k (Nat.lt_of_le_of_lt hk (by decide))
    have ha := sadd (P := Tryz.prog) [45] (digs k) (by simp; omega)
    clear hdl
    rw [show str [45] = { data := #[45] } from rfl] at ha
    have hd : Hid (digI n = [45] ++ digs k) := Lib.hid (by unfold digI; rw [if_pos h0, hkn]; rfl)
    have hkm : (k : Int) ≤ 4611686018427387910 := by omega
    clear h1 h2
    refine calls_wd ?_
    go_enter Tryz.func14, Tryz.ntmps14
    go_wp2_with (first | (go_at_call 14; ((with_reducible refine (H.out _).mono ?_); rintro e w1 ⟨rfl, x1, n1, rfl⟩)))
    go_ret
    exact ⟨by rw [hd.out]; rfl, more_wd _ _ _⟩
  · have h := rdigs_any n.toNat (by omega) w
    rw [show ((n.toNat : Nat) : Int) = n by omega] at h
    have e : digI n = digs n.toNat := by unfold digI; rw [if_neg h0]
    rw [e]; exact h
set_option maxRecDepth 100000 in
set_option maxHeartbeats 1600000 in
theorem sames_eq (l : List Word) (v1 v2 : Value) (w : World) (h1 : SRd w v1 l) (h2 : SRd w v2 l) : Calls Tryz.prog 10 #[v1, v2] w fun e w' => e = .returned (.bool true) ∧ More w w' := by
  obtain ⟨a1, c1, rfl, hc1, hm1, hr1⟩ := h1.out
  obtain ⟨a2, c2, rfl, hc2, hm2, hr2⟩ := h2.out
  have HR1 := Lib.hid hr1
  have HR2 := Lib.hid hr2
  obtain ⟨N, hN⟩ : ∃ N, l.length = N := ⟨_, rfl⟩
  rw [hN] at hc1 hc2 ⊢
  have HN := Lib.hid hN
  have hNb : N ≤ 9223372036854775807 := by unfold maxLen at hm1; omega
  clear hN hr1 hr2 h1 h2 hm1 hm2
  refine calls_wd ?_
  go_enter Tryz.func10, Tryz.ntmps10
  go_wp2
  go_loopw [5] (fun s5 wr => ∃ (k : Nat) (m : Ext), k ≤ N ∧ s5 = .int .i64 k ∧ wr = wd w [m.e] m.n) (fun s5 _ => N - (intOf s5).toNat)
  case atStart => exact ⟨0, ⟨#[], _⟩, Nat.zero_le _, rfl, (wd_empty _ _ _).symm⟩
  case round =>
    obtain ⟨k, m, hkN, rfl, rfl⟩ := hrel
    by_cases hk : k < N
    · obtain ⟨x, hx⟩ : ∃ x, l[k]? = some x := ⟨_, List.getElem?_eq_getElem (by rw [HN.out]; exact hk)⟩
      have hne : l ≠ [] := fun h => by rw [h] at hx; cases hx
      obtain ⟨b1, o1, rfl, hb1, hq1⟩ := HR1.out hne
      obtain ⟨b2, o2, rfl, hb2, hq2⟩ := HR2.out hne
      have hcell1 := hq1 k x hx
      have hcell2 := hq2 k x hx
      clear hx hne hq1 hq2
      go_wp2
      refine wp_region_wd (by kernel_rfl) (by kernel_rfl) ?_
      repeat (go_big_quiet_step ((fail)))
      refine wpQuiet_nil ?_
      rintro _ ⟨mx, rfl⟩
      go_wp2
      go_roundw
      case rel => exact ⟨k + 1, ⟨m.e ++ mx.e, mx.n⟩, by omega, by go_num, by rw [wd_merge]⟩
      case measure => simp [intOf]; omega
    · obtain rfl : k = N := by omega
      go_wp2
      go_ret
      exact ⟨rfl, more_wd _ _ _⟩
theorem recs_le {S : Nat} {w : World} {a : Option Addr} {cap : Nat} {l : List Rec} (h : RecsNew S w a cap l) : l.length ≤ maxLen := by
  by_cases hne : l = []
  · rw [hne]; exact Nat.zero_le _
  · obtain ⟨b, cs, el, h1, h2, h3, h4, h5, h6, h7⟩ := h.out hne
    exact Nat.le_trans h4 h5
theorem blank_at (w : World) : StpAt w (stpBlank 0) none none 0 := ⟨RowAt.nil _, ⟨none, 0, rfl, Nat.le_refl _, Nat.zero_le _, fun h => absurd rfl h⟩⟩
set_option maxRecDepth 100000 in
set_option maxHeartbeats 1600000 in
theorem parses_walk (l : List UInt8) (n : Int) (w : World) (hl : l.length ≤ maxLen) : Calls Tryz.prog 3 #[.string (str l), .int .i64 n] w fun x w' => x = .returned (.bool true) ∧ More w w' := by
  have hsz := str_size l
  unfold maxLen at hl
  by_cases h3 : 1000 < l.length
  · refine calls_wd ?_
    go_enter Tryz.func3, Tryz.ntmps3
    go_wp2_with (first | (go_at_call 6; ((with_reducible refine (awake28 _).mono ?_); rintro e w1 ⟨rfl, x1, n1, rfl⟩)))
    go_ret
    exact ⟨rfl, more_wd _ _ _⟩
  by_cases h4 : n < -4611686018427387903
  · refine calls_wd ?_
    go_enter Tryz.func3, Tryz.ntmps3
    go_wp2_with (first | (go_at_call 6; ((with_reducible refine (awake28 _).mono ?_); rintro e w1 ⟨rfl, x1, n1, rfl⟩)))
    go_ret
    exact ⟨rfl, more_wd _ _ _⟩
  by_cases h5 : 4611686018427387903 < n
  · refine calls_wd ?_
    go_enter Tryz.func3, Tryz.ntmps3
    go_wp2_with (first | (go_at_call 6; ((with_reducible refine (awake28 _).mono ?_); rintro e w1 ⟨rfl, x1, n1, rfl⟩)))
    go_ret
    exact ⟨rfl, more_wd _ _ _⟩
  have HP := Lib.hid (fun W => parse_any l W (by omega))
  have HR := Lib.hid (fun W => rparse_any l W (by omega))
  have HW := Lib.hid (fun W => cwords_any l W (by omega))
  have HV := Lib.hid (fun W => rwords_any l W (by omega))
  have HD := Lib.hid (fun W => cdig_any n (by omega) (by omega) W)
  have HE := Lib.hid (fun W => rdigI_any n (by omega) (by omega) W)
  have HPE := Lib.hid (parse_eq l)
  have hq : ((str (digI n)).toList == (str (digI n)).toList) = true := beq_self_eq_true _
  cases hp : parseW l with
  | none =>
    have HN := Lib.hid hp
    have HB := Lib.hid (fun W => (rsame_stp (stpBlank 0) (stpBlank 0) none none 0 0 none none 0 0 W (blank_at W) (blank_at W) (Nat.zero_le _) (Nat.zero_le _)).mono fun e w' h => by rw [decide_eq_true rfl] at h; exact h)
    clear hp
    refine calls_wd ?_
    go_enter Tryz.func3, Tryz.ntmps3
    go_wp2_with (first
      | (go_at_call 7; refine (HP.out _).mono ?_; rintro e w1 hs; have hs2 := hs.out; rw [HN.out] at hs2; obtain ⟨rfl, x0, n0, rfl⟩ := hs2; clear hs)
      | (go_at_call 8; refine (HR.out _).mono ?_; rintro e w1 hs; have hs2 := hs.out; rw [← HPE.out, HN.out] at hs2; obtain ⟨rfl, x1, n1, rfl⟩ := hs2; clear hs)
      | (go_at_call 9; ((with_reducible refine (HB.out _).mono ?_); rintro e w1 ⟨rfl, x1, n1, rfl⟩))
      | (go_at_call 11; refine (HW.out _).mono ?_; rintro e w1 hs; obtain ⟨v7, x7, n7, rfl, rfl, hsr⟩ := hs.out; rw [wd_plus] at hsr; have HS7 := Lib.hid (fun W hm => hsr.more (w' := W) hm); obtain ⟨a7, c7, rfl, -, -, -⟩ := hsr.out; clear hs hsr)
      | (go_at_call 12; refine (HV.out _).mono ?_; rintro e w1 hs; obtain ⟨v8, x8, n8, rfl, rfl, hsr⟩ := hs.out; rw [wd_plus] at hsr; have HS8 := Lib.hid (fun W hm => hsr.more (w' := W) hm); obtain ⟨a8, c8, rfl, -, -, -⟩ := hsr.out; clear hs hsr)
      | (go_at_call 10; ((with_reducible refine (sames_eq _ _ _ _ (HS7.out _ (by first | exact more_same _ _ _ _ | exact more_cons (more_same _ _ _ _))) (HS8.out _ (by first | exact more_same _ _ _ _ | exact more_cons (more_same _ _ _ _)))).mono ?_); rintro e w1 ⟨rfl, x1, n1, rfl⟩))
      | (go_at_call 13; ((with_reducible refine (HD.out _).mono ?_); rintro e w1 ⟨rfl, x1, n1, rfl⟩))
      | (go_at_call 14; ((with_reducible refine (HE.out _).mono ?_); rintro e w1 ⟨rfl, x1, n1, rfl⟩))
      | (go_at_call 6; ((with_reducible refine (awake28 _).mono ?_); rintro e w1 ⟨rfl, x1, n1, rfl⟩)))
    all_goals go_ret
    all_goals exact ⟨rfl, more_wd _ _ _⟩
  | some s =>
    have HN := Lib.hid hp
    have HB := Lib.hid (fun W a1 a2 c1 c2 f1 f2 d1 d2 h1 h2 hm => (rsame_stp s s a1 a2 c1 c2 f1 f2 d1 d2 W h1 h2 hm hm).mono fun e w' h => by rw [decide_eq_true rfl] at h; exact h)
    clear hp
    refine calls_wd ?_
    go_enter Tryz.func3, Tryz.ntmps3
    go_wp2_with (first
      | (go_at_call 7; refine (HP.out _).mono ?_; rintro e w1 hs; have hs2 := hs.out; rw [HN.out] at hs2; obtain ⟨a5, cap5, f5, d5, rfl, ⟨x0, n0, rfl⟩, hst, hrn, -⟩ := hs2; rw [wd_plus] at hst; have HT5 := Lib.hid (fun W hm => hst.more (w' := W) hm); have HM5 := Lib.hid (recs_le hrn); clear hs hst hrn)
      | (go_at_call 8; refine (HR.out _).mono ?_; rintro e w1 hs; have hs2 := hs.out; rw [← HPE.out, HN.out] at hs2; obtain ⟨a6, cap6, f6, d6, x1, n1, rfl, rfl, hst⟩ := hs2; rw [wd_plus] at hst; have HT6 := Lib.hid (fun W hm => hst.more (w' := W) hm); clear hs hst)
      | (go_at_call 9; ((with_reducible refine (HB.out _ _ _ _ _ _ _ _ _ (HT5.out _ (by first | exact more_same _ _ _ _ | exact more_cons (more_same _ _ _ _) | exact more_cons (more_cons (more_same _ _ _ _)) | exact more_cons (more_cons (more_cons (more_same _ _ _ _))))) (HT6.out _ (by first | exact more_same _ _ _ _ | exact more_cons (more_same _ _ _ _) | exact more_cons (more_cons (more_same _ _ _ _)))) HM5.out).mono ?_); rintro e w1 ⟨rfl, x1, n1, rfl⟩))
      | (go_at_call 11; refine (HW.out _).mono ?_; rintro e w1 hs; obtain ⟨v7, x7, n7, rfl, rfl, hsr⟩ := hs.out; rw [wd_plus] at hsr; have HS7 := Lib.hid (fun W hm => hsr.more (w' := W) hm); obtain ⟨a7, c7, rfl, -, -, -⟩ := hsr.out; clear hs hsr)
      | (go_at_call 12; refine (HV.out _).mono ?_; rintro e w1 hs; obtain ⟨v8, x8, n8, rfl, rfl, hsr⟩ := hs.out; rw [wd_plus] at hsr; have HS8 := Lib.hid (fun W hm => hsr.more (w' := W) hm); obtain ⟨a8, c8, rfl, -, -, -⟩ := hsr.out; clear hs hsr)
      | (go_at_call 10; ((with_reducible refine (sames_eq _ _ _ _ (HS7.out _ (by first | exact more_same _ _ _ _ | exact more_cons (more_same _ _ _ _))) (HS8.out _ (by first | exact more_same _ _ _ _ | exact more_cons (more_same _ _ _ _)))).mono ?_); rintro e w1 ⟨rfl, x1, n1, rfl⟩))
      | (go_at_call 13; ((with_reducible refine (HD.out _).mono ?_); rintro e w1 ⟨rfl, x1, n1, rfl⟩))
      | (go_at_call 14; ((with_reducible refine (HE.out _).mono ?_); rintro e w1 ⟨rfl, x1, n1, rfl⟩))
      | (go_at_call 6; ((with_reducible refine (awake28 _).mono ?_); rintro e w1 ⟨rfl, x1, n1, rfl⟩)))
    all_goals go_ret
    all_goals exact ⟨rfl, more_wd _ _ _⟩
end Go.Proofs.YtifoekadjnlhcaaGreatDoor
