/- dump: Unquote, both. -/
import Derived.Test.YtejokhgabcldhaaDoorND
import Derived.Test.YtejokhgabcldhaaDoorNE
namespace Go.Proofs.YtejokhgabcldhaaDoor
open Go.ChangeShapes Go.WideShapes Go.ChangeAt Go.RowKit
set_option linter.unusedVariables false
set_option linter.unusedSimpArgs false

set_option maxRecDepth 100000 in
theorem idx_half' : ∀ n, n < 256 → Lib.indexByte [48, 49, 50, 51, 52, 53, 54, 55, 56, 57, 97, 98, 99, 100, 101, 102] (UInt8.ofNat n) = (if halfB (UInt8.ofNat n) < 16 then (halfB (UInt8.ofNat n) : Int) else -1) := by decide
theorem idx_half (c : UInt8) : Lib.indexByte [48, 49, 50, 51, 52, 53, 54, 55, 56, 57, 97, 98, 99, 100, 101, 102] c = (if halfB c < 16 then (halfB c : Int) else -1) := by
  have h := idx_half' c.toNat c.toNat_lt
  rw [UInt8.ofNat_toNat] at h
  exact h
theorem index_any (c : UInt8) (w : World) : Calls Tryd.prog 22 #[.string { data := #[48, 49, 50, 51, 52, 53, 54, 55, 56, 57, 97, 98, 99, 100, 101, 102] }, .int .u8 c.toNat] w fun x w' => x = .returned (.int .i64 (if halfB c < 16 then (halfB c : Int) else -1)) ∧ w = w' := by
  refine (Tryd.strings_IndexByte _ _ w).mono ?_
  rintro x w' ⟨rfl, rfl⟩
  refine ⟨?_, rfl⟩
  rw [← idx_half c]
  congr 3
  simp
set_option maxRecDepth 100000 in
set_option maxHeartbeats 400000 in
theorem half_any (c : UInt8) (w : World) : Calls Tryd.prog 23 #[.int .u8 c.toNat] w fun x w' => x = .returned (.int .u8 (halfB c : Nat)) ∧ w = w' := by
  have hc := c.toNat_lt
  unfold halfB
  have h0 : (48 ≤ c.toNat ∧ c.toNat ≤ 57) ∨ (¬ (48 ≤ c.toNat ∧ c.toNat ≤ 57) ∧ 97 ≤ c.toNat ∧ c.toNat ≤ 102) ∨ (¬ (48 ≤ c.toNat ∧ c.toNat ≤ 57) ∧ ¬ (97 ≤ c.toNat ∧ c.toNat ≤ 102)) := by omega
  rcases h0 with h | ⟨h, h1, h2⟩ | ⟨h, h1⟩
  · rw [if_pos h]
    go_enter Tryd.func23, Tryd.ntmps23
    go_wp2
    go_ret
    exact ⟨ret_i (by omega), rfl⟩
  · rw [if_neg h, if_pos ⟨h1, h2⟩]
    go_enter Tryd.func23, Tryd.ntmps23
    go_wp2
    go_ret
    exact ⟨ret_i (by omega), rfl⟩
  · rw [if_neg h, if_neg h1]
    go_enter Tryd.func23, Tryd.ntmps23
    go_wp2
    all_goals (go_ret; exact ⟨rfl, rfl⟩)
theorem unq_drop {l : List UInt8} {k : Nat} {c : UInt8} (h : l[k]? = some c) : l.drop k = c :: l.drop (k + 1) := by
  obtain ⟨hk, rfl⟩ := List.getElem?_eq_some_iff.1 h
  exact List.drop_eq_getElem_cons hk
theorem opt_map_map (o : Option (List UInt8)) (f g : List UInt8 → List UInt8) : (o.map f).map g = o.map (fun x => g (f x)) := by cases o <;> rfl
theorem unq_step {l G : List UInt8} {k : Nat} {c : UInt8} (h : unq l = (unq (l.drop k)).map (G ++ ·)) (hc : l[k]? = some c) (hp : c ≠ 37) : unq l = (unq (l.drop (k + 1))).map ((G ++ [c]) ++ ·) := by
  rw [h, unq_drop hc, unq_plain hp, opt_map_map]
  congr 1
  funext x
  simp
theorem unq_step3 {l G : List UInt8} {k : Nat} {a b : UInt8} (h : unq l = (unq (l.drop k)).map (G ++ ·)) (hc : l[k]? = some 37) (ha : l[k + 1]? = some a) (hb : l[k + 2]? = some b) (h1 : halfB a < 16) (h2 : halfB b < 16) :
    unq l = (unq (l.drop (k + 3))).map ((G ++ [UInt8.ofNat (16 * halfB a + halfB b)]) ++ ·) := by
  rw [h, unq_drop hc, unq_drop ha, unq_drop hb, unq_hex a b _ h1 h2, opt_map_map]
  congr 1
  funext x
  simp
theorem unq_fail3 {l G : List UInt8} {k : Nat} {a b : UInt8} (h : unq l = (unq (l.drop k)).map (G ++ ·)) (hc : l[k]? = some 37) (ha : l[k + 1]? = some a) (hb : l[k + 2]? = some b) (h1 : ¬ (halfB a < 16 ∧ halfB b < 16)) : unq l = none := by
  rw [h, unq_drop hc, unq_drop ha, unq_drop hb, unq_bad a b _ h1]; rfl
theorem unq_fails {l G : List UInt8} {k : Nat} (h : unq l = (unq (l.drop k)).map (G ++ ·)) (hc : l[k]? = some 37) (hs : l.length < k + 3) : unq l = none := by
  rw [h, unq_drop hc, unq_short _ (by rw [List.length_drop]; omega)]; rfl
theorem unq_done {l G : List UInt8} {k : Nat} (h : unq l = (unq (l.drop k)).map (G ++ ·)) (hk : l.length ≤ k) : unq l = some G := by
  rw [h, List.drop_of_length_le hk]; simp [unq]
theorem unquote_none {l : List UInt8} (hne : l ≠ [37, 45]) (h : unq l = none) : unquote l = ([], false) := by unfold unquote; rw [if_neg hne, h]
theorem unquote_some {l G : List UInt8} (hne : l ≠ [37, 45]) (h : unq l = some G) : unquote l = if G = [] ∨ quote G ≠ l then ([], false) else (G, true) := by unfold unquote; rw [if_neg hne, h]
set_option maxRecDepth 100000 in
theorem half_or' : ∀ a, a < 16 → ∀ b, b < 16 → bits .or .i64 (((a : Nat) : Int) * 16) ((b : Nat) : Int) = ((a : Nat) : Int) * 16 + ((b : Nat) : Int) := by decide +kernel
theorem half_or (a b : Nat) (ha : a < 16) (hb : b < 16) : bits .or .i64 ((a : Int) * 16) (b : Int) = (a : Int) * 16 + b := half_or' a ha b hb
theorem half_byte {a b : Nat} (ha : a < 16) (hb : b < 16) : (a : Int) * 16 + (b : Int) = (UInt8.ofNat (16 * a + b)).toNat := by
  have : (UInt8.ofNat (16 * a + b)).toNat = 16 * a + b := by simp; omega
  omega
/-- A text and a yes or no, handed back. -/
structure TxtRet (w w' : World) (x : Ending) (r : List UInt8 × Bool) : Prop where
  out : x = .returned (.tuple #[.string (str r.1), .bool r.2]) ∧ More w w'
set_option maxRecDepth 100000 in
set_option maxHeartbeats 3200000 in
theorem unquote_any (l : List UInt8) (w : World) (hl : l.length ≤ 1099511627) : Calls Tryd.prog 8 #[.string (str l)] w fun x w' => TxtRet w w' x (unquote l) := by
  by_cases hne : l = [37, 45]
  · subst hne
    have hq0 : ((str [37, 45]).toList == [37, 45]) = true := by rw [str_toList]; rfl
    refine calls_wd ?_
    go_enter Tryd.func8, Tryd.ntmps8
    go_wp2
    go_ret2
    exact ⟨rfl, more_wd _ _ _⟩
  have hq0 : ((str l).toList == [37, 45]) = false := by rw [str_toList]; simp [hne]
  have hsz := str_size l
  refine calls_wd ?_
  go_enter Tryd.func8, Tryd.ntmps8
  go_wp2
  go_loopw [4, 5] (fun v i wr => ∃ (k : Nat) (m : Ext) (G : List UInt8), k ≤ l.length ∧ i = .int .i64 k ∧ wr = wd w [m.e] m.n ∧ BRow w [] m.e v G ∧ G.length ≤ k ∧ unq l = (unq (l.drop k)).map (G ++ ·)) (fun v i _ => l.length - (intOf i).toNat)
  case atStart => exact ⟨0, ⟨#[], _⟩, [], Nat.zero_le _, rfl, by rw [wd_empty], brow_nil _ _ _, Nat.le_refl _, by simp⟩
  case round =>
    obtain ⟨k, m, G, hk, rfl, rfl, hr, hG, hu⟩ := hrel
    have HU := Lib.hid hu
    have HR := Lib.hid hr
    obtain ⟨av, cv, rfl⟩ := rowIn_slice hr
    clear hu hr
    by_cases hlt : k < l.length
    · obtain ⟨c, hc⟩ : ∃ c, l[k]? = some c := ⟨_, List.getElem?_eq_getElem hlt⟩
      have hix := sindex (P := Tryd.prog) 9 Tryd.underlying9 l k c hc
      have HC := Lib.hid hc
      clear hc
      have hcl := c.toNat_lt
      by_cases hp : c = 37
      · subst hp
        by_cases h3 : l.length < k + 3
        · go_wp2
          go_ret2
          exact ⟨by rw [unquote_none hne (unq_fails HU.out HC.out h3)]; rfl, more_wd _ _ _⟩
        · obtain ⟨a, ha⟩ : ∃ a, l[k + 1]? = some a := ⟨_, List.getElem?_eq_getElem (by omega)⟩
          obtain ⟨b, hb⟩ : ∃ b, l[k + 2]? = some b := ⟨_, List.getElem?_eq_getElem (by omega)⟩
          have hia := sindex (P := Tryd.prog) 9 Tryd.underlying9 l (k + 1) a ha
          have hib := sindex (P := Tryd.prog) 9 Tryd.underlying9 l (k + 2) b hb
          rw [show (((k + 1 : Nat)) : Int) = (k : Int) + 1 by omega] at hia
          rw [show (((k + 2 : Nat)) : Int) = (k : Int) + 2 by omega] at hib
          have HA := Lib.hid ha
          have HB := Lib.hid hb
          clear ha hb
          have IA := Lib.hid (fun w => index_any a w)
          have IB := Lib.hid (fun w => index_any b w)
          by_cases h1 : halfB a < 16
          · by_cases h2 : halfB b < 16
            · rw [if_pos h1] at IA
              rw [if_pos h2] at IB
              have hor := half_or (halfB a) (halfB b) h1 h2
              go_wp2
              refine wp_region_wd (by kernel_rfl) (by kernel_rfl) ?_
              repeat (go_big_quiet_step ((first | (go_at_call 22; with_reducible exact Calls.wd_same (IA.out _)) | (go_at_call 22; with_reducible exact Calls.wd_same (IB.out _)))))
              refine wpQuiet_nil ?_
              rintro _ ⟨mx, rfl⟩
              rw [wd_merge]
              have HRM : Hid (BRow w [] (m.e ++ mx.e) (.slice av G.length cv) G) := Lib.hid (rowIn_more HR.out mx.e)
              generalize m.e ++ mx.e = M at HRM ⊢
              go_wp2_with (first | (at_builtin; (refine at_append_byte (L := []) (l := G) rfl _ _ rfl rfl HRM.out ((halfB a : Int) * 16 + (halfB b : Int)) (UInt8.ofNat (16 * halfB a + halfB b)) (half_byte h1 h2) _ rfl _ (by omega) ?_; intro v' m' hr'; obtain ⟨a5, c5, rfl⟩ := rowIn_slice hr'; have HR2 := Lib.hid hr'; clear hr')))
              go_roundw
              case rel => exact ⟨k + 3, m', G ++ [UInt8.ofNat (16 * halfB a + halfB b)], by omega, by go_num, rfl, by rw [show G.length + 1 = (G ++ [UInt8.ofNat (16 * halfB a + halfB b)]).length by simp]; exact HR2.out, by simp; omega, unq_step3 HU.out HC.out HA.out HB.out h1 h2⟩
              case measure => simp [intOf]; omega
            · rw [if_pos h1] at IA
              rw [if_neg h2] at IB
              go_wp2
              refine wp_region_wd (by kernel_rfl) (by kernel_rfl) ?_
              repeat (go_big_quiet_step ((first | (go_at_call 22; with_reducible exact Calls.wd_same (IA.out _)) | (go_at_call 22; with_reducible exact Calls.wd_same (IB.out _)))))
              refine wpQuiet_nil ?_
              rintro _ ⟨mx, rfl⟩
              go_wp2
              go_ret2
              exact ⟨by rw [unquote_none hne (unq_fail3 HU.out HC.out HA.out HB.out (by omega))]; rfl, more_wd _ _ _⟩
          · rw [if_neg h1] at IA
            by_cases h2 : halfB b < 16
            · rw [if_pos h2] at IB
              go_wp2
              refine wp_region_wd (by kernel_rfl) (by kernel_rfl) ?_
              repeat (go_big_quiet_step ((first | (go_at_call 22; with_reducible exact Calls.wd_same (IA.out _)) | (go_at_call 22; with_reducible exact Calls.wd_same (IB.out _)))))
              refine wpQuiet_nil ?_
              rintro _ ⟨mx, rfl⟩
              go_wp2
              go_ret2
              exact ⟨by rw [unquote_none hne (unq_fail3 HU.out HC.out HA.out HB.out (by omega))]; rfl, more_wd _ _ _⟩
            · rw [if_neg h2] at IB
              go_wp2
              refine wp_region_wd (by kernel_rfl) (by kernel_rfl) ?_
              repeat (go_big_quiet_step ((first | (go_at_call 22; with_reducible exact Calls.wd_same (IA.out _)) | (go_at_call 22; with_reducible exact Calls.wd_same (IB.out _)))))
              refine wpQuiet_nil ?_
              rintro _ ⟨mx, rfl⟩
              go_wp2
              go_ret2
              exact ⟨by rw [unquote_none hne (unq_fail3 HU.out HC.out HA.out HB.out (by omega))]; rfl, more_wd _ _ _⟩
      · have h3 : ((c.toNat : Int) != 37) = true := by rw [bne_iff_ne]; intro h; exact hp (UInt8.toNat_inj.1 (by show c.toNat = 37; omega))
        go_wp2_with (first | (at_builtin; refine at_append_byte (L := []) rfl _ _ rfl rfl HR.out c.toNat c rfl _ rfl _ (by omega) ?_; intro v' m' hr'; obtain ⟨a5, c5, rfl⟩ := rowIn_slice hr'; have HR2 := Lib.hid hr'; clear hr'))
        go_roundw
        case rel => exact ⟨k + 1, m', G ++ [c], by omega, by go_num, rfl, by rw [show G.length + 1 = (G ++ [c]).length by simp]; exact HR2.out, by simp; omega, unq_step HU.out HC.out hp⟩
        case measure => simp [intOf]; omega
    · have hG2 := Lib.hid (unquote_some hne (unq_done HU.out (by omega)))
      have hcv := fun W' hW => (RB.of_row (k := m.n) HR.out _ rfl |>.more (w' := W') hW).run_str (P := Tryd.prog) 49 9 5 Tryd.underlying49 Tryd.underlying5 Tryd.underlying9
      have hc0 := hcv _ (more_same w [m.e] m.n m.n)
      have hc1 := fun e n => hcv (wd w [e, m.e] n) (more_cons (more_same w [m.e] m.n n))
      clear hcv
      clear HU
      by_cases hG0 : G = []
      · subst hG0
        have HE := Lib.hid (show unquote l = ([], false) by rw [hG2.out]; simp)
        clear hG2
        go_wp2
        go_ret2
        exact ⟨by rw [HE.out]; rfl, more_wd _ _ _⟩
      · have hlen : ((G.length : Int) == 0) = false := by rw [beq_eq_false_iff_ne]; have := List.length_pos_iff.2 hG0; omega
        by_cases hq : quote G = l
        · have HE := Lib.hid (show unquote l = (G, true) by rw [hG2.out, if_neg (by simp [hG0, hq])])
          have hqq : ((str (quote G)).toList == (str l).toList) = true := by rw [hq]; simp
          clear hG2 hq
          go_wp2_with (first | (go_at_call 10; ((with_reducible refine (quote_any G _ (by omega)).mono ?_); rintro e w1 ⟨rfl, x1, n1, rfl⟩)))
          go_ret2
          exact ⟨by rw [HE.out]; rfl, more_wd _ _ _⟩
        · have HE := Lib.hid (show unquote l = ([], false) by rw [hG2.out, if_pos (.inr hq)])
          have hqq : ((str (quote G)).toList == (str l).toList) = false := by rw [str_toList, str_toList]; simp [hq]
          clear hG2 hq
          go_wp2_with (first | (go_at_call 10; ((with_reducible refine (quote_any G _ (by omega)).mono ?_); rintro e w1 ⟨rfl, x1, n1, rfl⟩)))
          go_ret2
          exact ⟨by rw [HE.out]; rfl, more_wd _ _ _⟩
end Go.Proofs.YtejokhgabcldhaaDoor
