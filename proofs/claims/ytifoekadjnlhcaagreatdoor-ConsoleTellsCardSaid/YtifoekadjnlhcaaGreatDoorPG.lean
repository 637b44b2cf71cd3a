/- the document's console: Digits; lines that are the same; the law's walk. -/
import Derived.Test.YtifoekadjnlhcaaGreatDoorMI
import Derived.Test.YtifoekadjnlhcaaGreatDoorMJ
import Derived.Test.YtifoekadjnlhcaaGreatDoorNA
namespace Go.Proofs.YtifoekadjnlhcaaGreatDoor
open Go.ChangeShapes Go.WideShapes Go.ChangeAt Go.RowKit
set_option linter.unusedVariables false
set_option linter.unusedSimpArgs false
set_option maxRecDepth 100000 in
set_option maxHeartbeats 1600000 in
theorem rdigI_any (n : Int) (h1 : -4611686018427387910 ≤ n) (h2 : n ≤ 4611686018427387910) (w : World) : Calls Tryz.prog 14 #[.int .i64 n] w fun x w' => x = .returned (.string (str (digI n))) ∧ More w w' := by
  by_cases h0 : n < 0
  · obtain ⟨k, hkn⟩ : ∃ k : Nat, -n = (k : Int) := ⟨(-n).toNat, by omega⟩
    have hk : k ≤ 4611686018427387910 := by omega
    have H : Hid (∀ w, Calls Tryz.prog 14 #[.int .i64 k] w fun x w' => x = .returned (.string (str (digs k))) ∧ More w w') := Lib.hid (rdigs_any k hk)
    have hdl := digs_len 18 k (Nat.lt_of_le_of_lt hk (by decide))
    have ha := sadd (P := Tryz.prog) [45] (digs k) (by simp; omega)
    clear hdl
    rw [show str [45] = { data := #[45] } from rfl] at ha
    have hd : Hid (digI n = [45] ++ digs k) := Lib.hid (by unfold digI; rw [if_pos h0, hkn]; rfl)
    have hkm : (k : Int) ≤ 4611686018427387910 := by omega
    clear h1 h2
    refine calls_wd ?_
    go_enter Tryz.func14, Tryz.ntmps14
    go_wp2_with (first | (go_at_call 14; ((with_reducible refine (H.out _).mono ?_); rintro e w1 ⟨rfl, x1, n1, rfl⟩)))
    go_ret
    exact ⟨by rw [hd.out]; rfl, more_wd _ _ _⟩
  · have h := rdigs_any n.toNat (by omega) w
    rw [show ((n.toNat : Nat) : Int) = n by omega] at h
    have e : digI n = digs n.toNat := by unfold digI; rw [if_neg h0]
    rw [e]; exact h
set_option maxRecDepth 100000 in
set_option maxHeartbeats 1600000 in
theorem sames_eq (l : List Word) (v1 v2 : Value) (w : World) (h1 : SRd w v1 l) (h2 : SRd w v2 l) : Calls Tryz.prog 10 #[v1, v2] w fun e w' => e = .returned (.bool true) ∧ More w w' := by
  obtain ⟨a1, c1, rfl, hc1, hm1, hr1⟩ := h1.out
  obtain ⟨a2, c2, rfl, hc2, hm2, hr2⟩ := h2.out
  have HR1 := Lib.hid hr1
  have HR2 := Lib.hid hr2
  obtain ⟨N, hN⟩ : ∃ N, l.length = N := ⟨_, rfl⟩
  rw [hN] at hc1 hc2 ⊢
  have HN := Lib.hid hN
  have hNb : N ≤ 9223372036854775807 := by unfold maxLen at hm1; omega
  clear hN hr1 hr2 h1 h2 hm1 hm2
  refine calls_wd ?_
  go_enter Tryz.func10, Tryz.ntmps10
  go_wp2
  go_loopw [5] (fun s5 wr => ∃ (k : Nat) (m : Ext), k ≤ N ∧ s5 = .int .i64 k ∧ wr = wd w [m.e] m.n) (fun s5 _ => N - (intOf s5).toNat)
  case atStart => exact ⟨0, ⟨#[], _⟩, Nat.zero_le _, rfl, (wd_empty _ _ _).symm⟩
  case round =>
    obtain ⟨k, m, hkN, rfl, rfl⟩ := hrel
    by_cases hk : k < N
    · obtain ⟨x, hx⟩ : ∃ x, l[k]? = some x := ⟨_, List.getElem?_eq_getElem (by rw [HN.out]; exact hk)⟩
      have hne : l ≠ [] := fun h => by rw [h] at hx; cases hx
      obtain ⟨b1, o1, rfl, hb1, hq1⟩ := HR1.out hne
      obtain ⟨b2, o2, rfl, hb2, hq2⟩ := HR2.out hne
      have hcell1 := hq1 k x hx
      have hcell2 := hq2 k x hx
      clear hx hne hq1 hq2
      go_wp2
      refine wp_region_wd (by kernel_rfl) (by kernel_rfl) ?_
      repeat (go_big_quiet_step ((fail)))
      refine wpQuiet_nil ?_
      rintro _ ⟨mx, rfl⟩
      go_wp2
      go_roundw
      case rel => exact ⟨k + 1, ⟨m.e ++ mx.e, mx.n⟩, by omega, by go_num, by rw [wd_merge]⟩
      case measure => simp [intOf]; omega
    · obtain rfl : k = N := by omega
      go_wp2
      go_ret
      exact ⟨rfl, more_wd _ _ _⟩
end Go.Proofs.YtifoekadjnlhcaaGreatDoor
