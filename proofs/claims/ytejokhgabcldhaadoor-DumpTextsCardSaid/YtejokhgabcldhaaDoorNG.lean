/- dump: the reference's Unquote. -/
import Derived.Test.YtejokhgabcldhaaDoorNF
namespace Go.Proofs.YtejokhgabcldhaaDoor
open Go.ChangeShapes Go.WideShapes Go.ChangeAt Go.RowKit
set_option linter.unusedVariables false
set_option linter.unusedSimpArgs false

theorem half_byte2 {a b : Nat} (ha : a < 16) (hb : b < 16) : 16 * (a : Int) + (b : Int) = (UInt8.ofNat (16 * a + b)).toNat := by rw [← half_byte ha hb]; omega
theorem half_same (c : UInt8) (w : World) : Calls Tryd.prog 23 #[.int .u8 c.toNat] w fun x w' => x = .returned (.int .u8 (halfB c : Nat)) ∧ w' = w := (half_any c w).mono (fun _ _ h => ⟨h.1, h.2.symm⟩)
set_option maxRecDepth 100000 in
set_option maxHeartbeats 3200000 in
theorem runquote_any (l : List UInt8) (w : World) (hl : l.length ≤ 1099511627) : Calls Tryd.prog 9 #[.string (str l)] w fun x w' => TxtRet w w' x (unquote l) := by
  by_cases hne : l = [37, 45]
  · subst hne
    have hq0 : ((str [37, 45]).toList == [37, 45]) = true := by rw [str_toList]; rfl
    refine calls_wd ?_
    go_enter Tryd.func9, Tryd.ntmps9
    go_wp2
    go_ret2
    exact ⟨rfl, more_wd _ _ _⟩
  have hq0 : ((str l).toList == [37, 45]) = false := by rw [str_toList]; simp [hne]
  have hsz := str_size l
  refine calls_wd ?_
  go_enter Tryd.func9, Tryd.ntmps9
  go_wp2
  go_loopw [4, 5] (fun v i wr => ∃ (k : Nat) (m : Ext) (G : List UInt8), k ≤ l.length ∧ i = .int .i64 k ∧ wr = wd w [m.e] m.n ∧ BRow w [] m.e v G ∧ G.length ≤ k ∧ unq l = (unq (l.drop k)).map (G ++ ·)) (fun v i _ => l.length - (intOf i).toNat)
  case atStart => exact ⟨0, ⟨#[], _⟩, [], Nat.zero_le _, rfl, by rw [wd_empty], brow_nil _ _ _, Nat.le_refl _, by simp⟩
  case round =>
    obtain ⟨k, m, G, hk, rfl, rfl, hr, hG, hu⟩ := hrel
    have HU := Lib.hid hu
    have HR := Lib.hid hr
    obtain ⟨av, cv, rfl⟩ := rowIn_slice hr
    clear hu hr
    by_cases hlt : k < l.length
    · obtain ⟨c, hc⟩ : ∃ c, l[k]? = some c := ⟨_, List.getElem?_eq_getElem hlt⟩
      have hix := sindex (P := Tryd.prog) 9 Tryd.underlying9 l k c hc
      have HC := Lib.hid hc
      clear hc
      have hcl := c.toNat_lt
      by_cases hp : c = 37
      · subst hp
        by_cases h3 : l.length < k + 3
        · go_wp2
          go_ret2
          exact ⟨by rw [unquote_none hne (unq_fails HU.out HC.out h3)]; rfl, more_wd _ _ _⟩
        · obtain ⟨a, ha⟩ : ∃ a, l[k + 1]? = some a := ⟨_, List.getElem?_eq_getElem (by omega)⟩
          obtain ⟨b, hb⟩ : ∃ b, l[k + 2]? = some b := ⟨_, List.getElem?_eq_getElem (by omega)⟩
          have hia := sindex (P := Tryd.prog) 9 Tryd.underlying9 l (k + 1) a ha
          have hib := sindex (P := Tryd.prog) 9 Tryd.underlying9 l (k + 2) b hb
          rw [show (((k + 1 : Nat)) : Int) = (k : Int) + 1 by omega] at hia
          rw [show (((k + 2 : Nat)) : Int) = (k : Int) + 2 by omega] at hib
          have HA := Lib.hid ha
          have HB := Lib.hid hb
          clear ha hb
          have IA := Lib.hid (fun w => half_any a w)
          have IB := Lib.hid (fun w => half_any b w)
          have JA := Lib.hid (fun w => half_same a w)
          have JB := Lib.hid (fun w => half_same b w)
          have la := halfB_le a
          have lb := halfB_le b
          by_cases h1 : halfB a < 16
          · by_cases h2 : halfB b < 16
            · have g1 : (halfB a : Int) < 16 := by omega
              have g2 : (halfB b : Int) < 16 := by omega
              go_wp2_with (first | (go_at_call 23; ((with_reducible refine (IA.out _).mono ?_); rintro e w1 ⟨rfl, rfl⟩)) | (go_at_call 23; ((with_reducible refine (IB.out _).mono ?_); rintro e w1 ⟨rfl, rfl⟩)))
              refine wp_region_mixf (fun (s : Ext) => wd w [s.e] s.n) ((⟨m.e, m.n + 1⟩ : Ext)) [0, 1, 2, 3, 4, 5, 6, 7, 8, 9, 10, 11, 12] [13, 14, 15] [true, true, true, true, true, true, true, true, true, true, true, true, true] [false, false, false, false, false, false, false, false, false, false, false, false, false, true, true, true] rfl ⟨rfl, rfl⟩ (by kernel_rfl) (by kernel_rfl) (fun _ _ d _ _ h => by cases d <;> exact h) ?_
              apply Exists.intro
              refine ⟨?_, ?_⟩
              · intro E
                simp only [sel_t, sel_f, sel_n]
                repeat (first | go_big_quiet_skip | (go_big_quiet_want; go_big_quiet_op; first | go_big_quiet_on | (apply Exists.intro; refine ⟨?_, ?_⟩; (focus ((first | (go_at_call 23; with_reducible exact JA.out _) | (go_at_call 23; with_reducible exact JB.out _)))); go_big_quiet_on)))
                exact wpQuiet_nil rfl
              simp only [sel_t, sel_f, sel_n, loudly_cons, loudly_nil]
              go_wp2
              refine ⟨⟨⟨_, _⟩, by rw [wd_merge]⟩, ?_⟩
              rw [loudly_cons]
              go_wp2_with (first | (at_builtin; refine at_append_byte (L := []) (l := G) rfl _ _ rfl rfl HR.out (16 * (halfB a : Int) + (halfB b : Int)) (UInt8.ofNat (16 * halfB a + halfB b)) (half_byte2 h1 h2) _ rfl _ (by omega) ?_; intro v' m' hr'; obtain ⟨a5, c5, rfl⟩ := rowIn_slice hr'; have HR2 := Lib.hid hr'; clear hr'))
              refine ⟨⟨m', rfl⟩, ?_⟩
              rw [loudly_cons]
              go_wp2
              refine ⟨⟨m', rfl⟩, ?_⟩
              rw [loudly_nil]
              go_wp2
              go_roundw
              case rel => exact ⟨k + 3, m', G ++ [UInt8.ofNat (16 * halfB a + halfB b)], by omega, by go_num, rfl, by rw [show G.length + 1 = (G ++ [UInt8.ofNat (16 * halfB a + halfB b)]).length by simp]; exact HR2.out, by simp; omega, unq_step3 HU.out HC.out HA.out HB.out h1 h2⟩
              case measure => simp [intOf]; omega
            · have g2 : ¬ (halfB b : Int) < 16 := by omega
              go_wp2_with (first | (go_at_call 23; ((with_reducible refine (IA.out _).mono ?_); rintro e w1 ⟨rfl, rfl⟩)) | (go_at_call 23; ((with_reducible refine (IB.out _).mono ?_); rintro e w1 ⟨rfl, rfl⟩)))
              all_goals (go_ret2; exact ⟨by rw [unquote_none hne (unq_fail3 HU.out HC.out HA.out HB.out (by omega))]; rfl, more_wd _ _ _⟩)
          · have g1 : ¬ (halfB a : Int) < 16 := by omega
            go_wp2_with (first | (go_at_call 23; ((with_reducible refine (IA.out _).mono ?_); rintro e w1 ⟨rfl, rfl⟩)) | (go_at_call 23; ((with_reducible refine (IB.out _).mono ?_); rintro e w1 ⟨rfl, rfl⟩)))
            all_goals (go_ret2; exact ⟨by rw [unquote_none hne (unq_fail3 HU.out HC.out HA.out HB.out (by omega))]; rfl, more_wd _ _ _⟩)
      · have h3 : ((c.toNat : Int) != 37) = true := by rw [bne_iff_ne]; intro h; exact hp (UInt8.toNat_inj.1 (by show c.toNat = 37; omega))
        go_wp2_with (first | (at_builtin; refine at_append_byte (L := []) rfl _ _ rfl rfl HR.out c.toNat c rfl _ rfl _ (by omega) ?_; intro v' m' hr'; obtain ⟨a5, c5, rfl⟩ := rowIn_slice hr'; have HR2 := Lib.hid hr'; clear hr'))
        go_roundw
        case rel => exact ⟨k + 1, m', G ++ [c], by omega, by go_num, rfl, by rw [show G.length + 1 = (G ++ [c]).length by simp]; exact HR2.out, by simp; omega, unq_step HU.out HC.out hp⟩
        case measure => simp [intOf]; omega
    · have hG2 := Lib.hid (unquote_some hne (unq_done HU.out (by omega)))
      have hcv := fun W' hW => (RB.of_row (k := m.n) HR.out _ rfl |>.more (w' := W') hW).run_str (P := Tryd.prog) 49 9 5 Tryd.underlying49 Tryd.underlying5 Tryd.underlying9
      have hc0 := hcv _ (more_same w [m.e] m.n m.n)
      have hc1 := fun e n => hcv (wd w [e, m.e] n) (more_cons (more_same w [m.e] m.n n))
      clear hcv
      clear HU
      by_cases hG0 : G = []
      · subst hG0
        have HE := Lib.hid (show unquote l = ([], false) by rw [hG2.out]; simp)
        clear hG2
        go_wp2
        go_ret2
        exact ⟨by rw [HE.out]; rfl, more_wd _ _ _⟩
      · have hlen : ((G.length : Int) == 0) = false := by rw [beq_eq_false_iff_ne]; have := List.length_pos_iff.2 hG0; omega
        by_cases hq : quote G = l
        · have HE := Lib.hid (show unquote l = (G, true) by rw [hG2.out, if_neg (by simp [hG0, hq])])
          have hqq : ((str (quote G)).toList == (str l).toList) = true := by rw [hq]; simp
          clear hG2 hq
          go_wp2_with (first | (go_at_call 11; ((with_reducible refine (rquote_any G _ (by omega)).mono ?_); rintro e w1 ⟨rfl, x1, n1, rfl⟩)))
          go_ret2
          exact ⟨by rw [HE.out]; rfl, more_wd _ _ _⟩
        · have HE := Lib.hid (show unquote l = ([], false) by rw [hG2.out, if_pos (.inr hq)])
          have hqq : ((str (quote G)).toList == (str l).toList) = false := by rw [str_toList, str_toList]; simp [hq]
          clear hG2 hq
          go_wp2_with (first | (go_at_call 11; ((with_reducible refine (rquote_any G _ (by omega)).mono ?_); rintro e w1 ⟨rfl, x1, n1, rfl⟩)))
          go_ret2
          exact ⟨by rw [HE.out]; rfl, more_wd _ _ _⟩
end Go.Proofs.YtejokhgabcldhaaDoor
