/- The statement ScriptBack, proved: steps that are put are got as they were; a byte more, or less, is no script of them. No condition. -/
import Derived.Test.YtejokhgabcldhaaMZ
import Derived.Test.YtejokhgabcldhaaMY
namespace Go.Proofs.Ytejokhgabcldhaa
open Go.ChangeShapes Go.WideShapes Go.ChangeAt Go.RowKit
set_option linter.unusedVariables false
set_option linter.unusedSimpArgs false

theorem rebase_b (w : World) (L : List (Array Obj)) (n : Nat) : wd w L n = wd (wd w L n) [] n := rfl
theorem stpsPut_none {l : List Stp} {b : List UInt8} {e : Int} (h : stpsPut l = (b, e)) (he : e ≠ 0) : b = [] := by
  unfold stpsPut at h
  split at h
  · exact (congrArg Prod.fst h).symm
  · split at h
    · exact (congrArg Prod.fst h).symm
    · split at h
      · exact (congrArg Prod.fst h).symm
      · exact absurd (congrArg Prod.snd h).symm he
theorem stpsPut_empty {l : List Stp} (h : stpsPut l = ([], 0)) : l = [] := by
  obtain ⟨h1, h2, h3, h4⟩ := stpsPut_ok h
  cases l with
  | nil => rfl
  | cons s l => exact absurd h4.symm (stpsLay_ne (h2 s (List.mem_cons_self ..)))
theorem snoc_of {l : List UInt8} (h : l ≠ []) : ∃ q x, l = q ++ [x] := ⟨l.dropLast, l.getLast h, (List.dropLast_concat_getLast h).symm⟩
theorem put_le {l : List Stp} {b : List UInt8} (h : stpsPut l = (b, 0)) : b.length ≤ 65536 ∧ l.length ≤ 1000 := by
  obtain ⟨h1, h2, h3, h4⟩ := stpsPut_ok h
  subst h4; exact ⟨h3, h1⟩
set_option maxRecDepth 100000 in
set_option maxHeartbeats 6400000 in
theorem back_no (ad : Option Addr) (cap : Nat) (l : List Stm) (w : World) (h : StmsAt w ad l) (hf : ∀ y ∈ l, StpFit y.s) (hm : l.length ≤ maxLen) (pe : Int) (hP : stpsPut (l.map Stm.s) = ([], pe)) :
    Calls Try.prog 5 #[.slice ad l.length cap] w fun x w' => x = .returned (.bool true) ∧ More w w' := by
  have HA := Lib.hid h
  have HL1 := Lib.hid (fun W h => light_stms ad cap l 30 W h hf hm (by decide))
  have HPP := Lib.hid (fun a' c' W h => hP ▸ putstms_any a' c' l W h hf hm)
  have HOWN := Lib.hid (fun W h (hl : (l.length : Int) ≤ 30) => own_any ad cap l W h (by omega))
  have hcs : ((pe == 0) = false) ∨ (pe = 0 ∧ l.length = 0) := by
    by_cases he : pe = 0
    · subst he
      right
      have h0 := congrArg List.length (stpsPut_empty hP)
      simp only [List.length_map, List.length_nil] at h0
      exact ⟨rfl, h0⟩
    · left; rw [beq_eq_false_iff_ne]; exact he
  unfold maxLen at hm
  clear h hf hP
  dsimp only at HPP
  have HOR : Hid (∀ W W' y, OwnRet W W' y l → ∃ (a : Option Addr) (cap : Nat), y = .returned (.slice a l.length cap) ∧ StmsAt W' a l ∧ More W W') := Lib.hid (fun W W' y h => h.out)
  rcases hcs with he | ⟨h0, hl0⟩
  · have HE : Hid (pe ≠ 0) := Lib.hid (by simpa using he)
    refine calls_wd ?_
    go_enter Try.func5, Try.ntmps5
    go_wp2_with (first
      | (go_at_call 10; ((with_reducible refine (HL1.out _ (HA.out.more (more_wd _ _ _))).mono ?_); rintro e w2 hy; obtain ⟨b1, rfl, ⟨x9, n9, rfl⟩, hb1⟩ := hy.out; have HB1 := Lib.hid hb1; clear hb1 hy; cases b1))
      | (go_at_call 17; ((with_reducible refine (HOWN.out _ (HA.out.more (more_wd _ _ _)) (by first | omega | exact HB1.out (by simp))).mono ?_); rintro e w2 hr; obtain ⟨a3, c3, rfl, hs3, ⟨x3, n3, rfl⟩⟩ := HOR.out _ _ _ hr; have HS3 : Hid (StmsAt (wd w [x3, x9] n3) a3 l) := Lib.hid hs3; clear hs3 hr))
      | (go_at_call 16; ((with_reducible refine (HPP.out _ _ _ HS3.out).mono ?_); rintro e w2 ⟨u1, rfl, hm1⟩; obtain ⟨p1, rfl, hs1⟩ := hm1.wd; clear hm1; obtain ⟨ua, uc, rfl⟩ := rowIn_slice hs1; clear hs1))
      | (go_at_call 11; ((with_reducible refine (awake27 _).mono ?_); rintro e w1 ⟨rfl, x1, n1, rfl⟩)))
    all_goals first | exact absurd (show pe = 0 by assumption) HE.out | (go_ret; exact ⟨rfl, more_wd _ _ _⟩)
  · subst h0
    rw [hl0] at HL1 HPP HOR HOWN hm ⊢
    clear hl0
    refine calls_wd ?_
    go_enter Try.func5, Try.ntmps5
    go_wp2_with (first
      | (go_at_call 10; ((with_reducible refine (HL1.out _ (HA.out.more (more_wd _ _ _))).mono ?_); rintro e w2 hy; obtain ⟨b1, rfl, ⟨x9, n9, rfl⟩, hb1⟩ := hy.out; have HB1 := Lib.hid hb1; clear hb1 hy; cases b1))
      | (go_at_call 17; ((with_reducible refine (HOWN.out _ (HA.out.more (more_wd _ _ _)) (by first | omega | exact HB1.out (by simp))).mono ?_); rintro e w2 hr; obtain ⟨a3, c3, rfl, hs3, ⟨x3, n3, rfl⟩⟩ := HOR.out _ _ _ hr; have HS3 : Hid (StmsAt (wd w [x3, x9] n3) a3 l) := Lib.hid hs3; clear hs3 hr))
      | (go_at_call 16; ((with_reducible refine (HPP.out _ _ _ HS3.out).mono ?_); rintro e w2 ⟨u1, rfl, hm1⟩; obtain ⟨p1, rfl, hs1⟩ := hm1.wd; clear hm1; obtain ⟨ua, uc, rfl⟩ := rowIn_slice hs1; clear hs1))
      | (go_at_call 11; ((with_reducible refine (awake27 _).mono ?_); rintro e w1 ⟨rfl, x1, n1, rfl⟩)))
    all_goals (go_ret; exact ⟨rfl, more_wd _ _ _⟩)

set_option maxRecDepth 100000 in
set_option maxHeartbeats 6400000 in
theorem back_yes (ad : Option Addr) (cap : Nat) (l : List Stm) (w : World) (h : StmsAt w ad l) (hf : ∀ y ∈ l, StpFit y.s) (hm : l.length ≤ maxLen) (q : List UInt8) (x : UInt8) (hP : stpsPut (l.map Stm.s) = (q ++ [x], 0)) :
    Calls Try.prog 5 #[.slice ad l.length cap] w fun x w' => x = .returned (.bool true) ∧ More w w' := by
  have HA := Lib.hid h
  have HF := Lib.hid hf
  have HFS : ∀ z ∈ l.map Stm.s, StpFit z := by intro z hz; obtain ⟨y, hy, rfl⟩ := List.mem_map.1 hz; exact hf y hy
  have HL1 := Lib.hid (fun W h => light_stms ad cap l 30 W h hf hm (by decide))
  have HPP := Lib.hid (fun a' c' W h => hP ▸ putstms_any a' c' l W h hf hm)
  have HOWN := Lib.hid (fun W h (hl : (l.length : Int) ≤ 30) => own_any ad cap l W h (by omega))
  obtain ⟨hb, hl1⟩ := put_le hP
  have hq : q.length ≤ 65536 := by rw [List.length_append] at hb; omega
  have HG1 := Lib.hid (fun V W h => stpsGet_put HFS hP ▸ getstms_any V (q ++ [x]) W h (by omega))
  have HG2 := Lib.hid (fun V W h => stpsGet_more hP 0 ▸ getstms_any V ((q ++ [x]) ++ [0]) W h (by rw [List.length_append]; simp only [List.length_cons, List.length_nil]; omega))
  have HG3 := Lib.hid (fun V W h => stpsGet_less hP ▸ getstms_any V q W h (by omega))
  unfold maxLen at hm
  obtain ⟨N, hN⟩ : ∃ N, (q ++ [x]).length = N := ⟨_, rfl⟩
  have hN2 : N = q.length + 1 := by rw [← hN, List.length_append]; rfl
  have HN := Lib.hid hN
  have HN2 := Lib.hid hN2
  have hN3 : 0 < N := by omega
  have hN4 : (N : Int) ≤ 65536 := by omega
  have hN0 : ((N : Int) == 0) = false := by rw [beq_eq_false_iff_ne]; omega
  clear h hf hP HFS hb hN hN2
  dsimp only at HPP
  refine calls_wd ?_
  go_enter Try.func5, Try.ntmps5
  go_wp2_with (first
    | (go_at_call 10; ((with_reducible refine (HL1.out _ (HA.out.more (more_wd _ _ _))).mono ?_); rintro e w2 hy; obtain ⟨b1, rfl, ⟨x9, n9, rfl⟩, hb1⟩ := hy.out; have HB1 := Lib.hid hb1; clear hb1 hy; cases b1))
    | (go_at_call 17; ((with_reducible refine (HOWN.out _ (HA.out.more (more_wd _ _ _)) (HB1.out (by simp))).mono ?_); rintro e w2 hr; obtain ⟨a3, c3, rfl, hs3, ⟨x3, n3, rfl⟩⟩ := hr.out; have HS3 : Hid (StmsAt (wd w [x3, x9] n3) a3 l) := Lib.hid hs3; clear hs3 hr))
    | (go_at_call 16; ((with_reducible refine (HPP.out _ _ _ HS3.out).mono ?_); rintro e w2 ⟨u1, rfl, hm1⟩; obtain ⟨p1, rfl, hs1⟩ := hm1.wd; clear hm1; obtain ⟨ua, uc, rfl⟩ := rowIn_slice hs1; have HU0 := Lib.hid (fun n => RB.of_row (L := [x3, x9]) (k := n) hs1 _ rfl); rw [HN.out]; have HU1 : Hid (∀ n, RB (wd w [p1.e, x3, x9] n) (.slice ua N uc) (q ++ [x])) := Lib.hid (fun n => HN.out ▸ HU0.out n); clear hs1 HU0))
    | (go_at_call 21; ((with_reducible refine (HG1.out _ _ (HU1.out _)).mono ?_); rintro x w2 hsr; obtain ⟨b4, e4, m4, rfl, hm4, hs4, ⟨x4, n4, rfl⟩⟩ := hsr.out; have HM4 := Lib.hid hm4; have HS4 : Hid (StmsAt (wd w [x4, p1.e, x3, x9] n4) b4 m4) := Lib.hid hs4; have hlen : m4.length = l.length := (by have h1 := congrArg List.length hm4; simp only [List.length_map] at h1; exact h1); rw [hlen]; have HLEN := Lib.hid hlen; clear hlen hm4 hs4 hsr))
    | (go_at_call 11; ((with_reducible refine (awake27 _).mono ?_); rintro e w1 ⟨rfl, x1, n1, rfl⟩)))
  all_goals try (go_ret; exact ⟨rfl, more_wd _ _ _⟩)
  have HW := Lib.hid (more_wd w [x4, p1.e, x3, x9] n4)
  have HUB : Hid (RB (wd w [x4, p1.e, x3, x9] n4) (.slice ua N uc) (q ++ [x])) := Lib.hid ((HU1.out n4).more (more_cons (more_same _ _ _ _)))
  clear HS3 HU1
  rw [rebase_b w [x4, p1.e, x3, x9] n4]
  generalize wd w [x4, p1.e, x3, x9] n4 = W at HW HS4 HUB ⊢
  have HAW := Lib.hid (HA.out.more HW.out)
  have hcut : ∀ W', (Instr.slice 28 (.slice ua N uc) none (some (.int .i64 ((N : Int) - 1))) none).run Try.prog W' = .ok (.slice ua q.length uc) W' := fun W' => by
    have h1 := run_slice_to (P := Try.prog) 28 5 Try.underlying28 sz_u8 HUB.out ((N : Int) - 1) (by omega) (by have := HN.out; omega) W'
    rw [show ((N : Int) - 1).toNat = q.length by have := HN2.out; omega] at h1
    exact h1
  have HUC : Hid (RB W (.slice ua q.length uc) q) := Lib.hid (by
    have h1 := HUB.out.take q.length (by rw [List.length_append]; omega)
    rw [List.take_left] at h1
    exact h1)
  go_loopw [7] (fun i wr => ∃ (k : Nat) (m : Ext), k ≤ l.length ∧ i = .int .i64 k ∧ wr = wd W [m.e] m.n) (fun i _ => l.length - (intOf i).toNat)
  case atStart => exact ⟨0, ⟨#[], _⟩, Nat.zero_le _, rfl, by rw [wd_empty]⟩
  case round =>
    obtain ⟨k, m, hk, rfl, rfl⟩ := hrel
    by_cases hlt : k < l.length
    · obtain ⟨z, hz⟩ : ∃ z, l[k]? = some z := ⟨_, List.getElem?_eq_getElem hlt⟩
      obtain ⟨y, hy⟩ : ∃ y, m4[k]? = some y := ⟨_, List.getElem?_eq_getElem (by rw [HLEN.out]; exact hlt)⟩
      obtain ⟨p3, o3, rfl, hp3, hld3⟩ := load_row (P := Try.prog) HS4.out.row k y hy
      obtain ⟨p4, o4, rfl, hp4, hld4⟩ := load_row (P := Try.prog) HAW.out.row k z hz
      have HA3 := Lib.hid (HS4.out.each y (List.mem_of_getElem? hy))
      have HA4 := Lib.hid (HAW.out.each z (List.mem_of_getElem? hz))
      have e3' : (m4.map Stm.s)[k]? = some y.s := by simp [hy]
      have e4' : (l.map Stm.s)[k]? = some z.s := by simp [hz]
      rw [HM4.out, e4'] at e3'
      have hyz : y.s = z.s := (Option.some.inj e3').symm
      have hfy := HF.out z (List.mem_of_getElem? hz)
      have HS2 := Lib.hid (fun W g1 g2 => (show decide (y.s = z.s) = true from decide_eq_true hyz) ▸ same_stp y.s z.s y.a z.a y.cap z.cap y.f z.f y.fc z.fc W g1 g2 (hyz ▸ hfy.r) hfy.r)
      clear hy hz e3' e4' hyz hfy
      go_wp2
      refine wp_region_wd (by kernel_rfl) (by kernel_rfl) ?_
      repeat (go_big_quiet_step ((first | (go_at_call 14; with_reducible exact Calls.wd_of (HS2.out _ (HA3.out.more (more_wd _ _ _)) (HA4.out.more (more_wd _ _ _)))))))
      refine wpQuiet_nil ?_
      rintro _ ⟨mx, rfl⟩
      go_wp2
      go_roundw
      case rel => exact ⟨k + 1, ⟨_, mx.n⟩, by omega, by go_num, by rw [wd_merge]⟩
      case measure => simp [intOf]; omega
    · go_wp2_with (first
        | (at_builtin; refine at_append_rb (l := []) rfl _ _ rfl rfl (rowIn_lit W.heap.size (shape [m.e]) _ 5 1 0 (by decide) rfl) rfl (HUB.out.more (more_wd _ _ _)) (by rw [HN.out]; simp only [List.length_nil]; omega) ?_; intro v5 m5 hr5)
        | (at_builtin; refine at_append_byte rfl _ _ rfl rfl hr5 0 0 rfl _ rfl _ (by rw [List.nil_append, HN.out]; omega) ?_; clear hr5; intro v6 m6 hr6; have HR6 := Lib.hid (RB.of_row (k := m6.n) hr6 _ rfl); clear hr6)
        | (go_at_call 21; ((with_reducible refine (HG2.out _ _ HR6.out).mono ?_); rintro x w2 hsr; obtain ⟨b7, e7, m7, rfl, hm7, hs7, ⟨x7, n7, rfl⟩⟩ := hsr.out; clear hm7 hs7 hsr))
        | (go_at_call 21; ((with_reducible refine (HG3.out _ _ (HUC.out.more (more_wd _ _ _))).mono ?_); rintro x w2 hsr; obtain ⟨b8, e8, m8, rfl, hm8, hs8, ⟨x8, n8, rfl⟩⟩ := hsr.out; clear hm8 hs8 hsr))
        | (go_at_call 11; ((with_reducible refine (awake27 _).mono ?_); rintro e w1 ⟨rfl, x1, n1, rfl⟩)))

      go_ret
      exact ⟨rfl, HW.out.trans (more_wd _ _ _)⟩

theorem back_walk (ad : Option Addr) (cap : Nat) (l : List Stm) (w : World) (h : StmsAt w ad l) (hf : ∀ y ∈ l, StpFit y.s) (hm : l.length ≤ maxLen) :
    Calls Try.prog 5 #[.slice ad l.length cap] w fun x w' => x = .returned (.bool true) ∧ More w w' := by
  obtain ⟨P, hP⟩ : ∃ P, stpsPut (l.map Stm.s) = P := ⟨_, rfl⟩
  obtain ⟨b, e⟩ := P
  by_cases hb : b = []
  · subst hb
    exact back_no ad cap l w h hf hm e hP
  · have he : e = 0 := by
      by_cases he : e = 0
      · exact he
      · exact absurd (stpsPut_none hP he) hb
    subst he
    obtain ⟨q, x, rfl⟩ := snoc_of hb
    exact back_yes ad cap l w h hf hm q x hP
set_option maxRecDepth 100000 in
theorem back_rd {base : Nat} {w : World} (v0 : Value) (k0 : Value.okWide Try.prog w .any base 22 v0)
    (r0 : Rd Try.prog w 22 v0.cells.toList) :
    Calls Try.prog 5 #[v0] w fun e w' => e = .returned (.bool true) ∧ More w w' := by
  obtain ⟨ad, cap, l, hv, hs, hf, hm⟩ := stms_rd r0
  obtain rfl := slice_of_cells hv Try.underlying22 k0
  exact back_walk ad cap l w hs hf hm

set_option maxRecDepth 100000 in
theorem liftedScriptBack (os : Os) (started : os.Started) (H : Type) (enc : TypeId × Value → H) :
    ReturnsInHanded {} Try.checked os 5 .any (Rows.scriptBackSpec.pre6 enc Try.prog Try.f5 Rows.scriptBackRow.domain false) (Rows.scriptBackSpec.post enc Try.prog Try.f5 false true false false) := by
  refine returnsInHanded_of_change (C := Try.checked) own started (by kernel_rfl) Try.func5
    (ChangeSpec.witness6 (enc := enc) (C := Try.checked) false ⟨#[], #[.slice none 0 0], []⟩ 8 (by kernel_rfl) (by kernel_rfl) (by kernel_rfl) (by kernel_rfl)) ?_
  intro W base args ds gs before hval0 hW hcnd _
  have hval : ∀ (j : Nat) t v, Try.f5.params[j]? = some t → args[j]? = some v → Value.okWide Try.prog W .any base t v := hval0
  have hW' := hW
  obtain ⟨p, q, hA0, hV, rfl, hfz, hnd⟩ := hW
  have hA : DataW.TrodAll enc Try.prog W 0 (fun _ => true) true Try.f5.params.toList args.toList ds p := hA0
  rw [Try.params5] at hA hval
  obtain ⟨v0, vs0, d0, ds0, p0, q0, hargs, rfl, rfl, h0, r0⟩ := trodAll_cons hA
  obtain ⟨rfl, rfl, rfl⟩ := trodAll_nil r0
  obtain rfl : args = #[v0] := by cases args; simp_all
  obtain ⟨rfl, rfl⟩ := trodVars_none hV
  have lt0 : ∀ x ∈ p0, x.block < W.heap.size := by obtain ⟨m, hm⟩ := h0; exact DataW.trod_lt m _ _ _ hm
  have rd0 : Rd Try.prog W 22 v0.cells.toList := by obtain ⟨m, hm⟩ := h0; exact ⟨H, enc, m, _, hm⟩
  clear hA0 hval0
  refine (back_rd v0 (hval 0 22 v0 rfl rfl) rd0).mono fun e W' ⟨he, hmore⟩ => ?_
  subst he
  have bel := hmore.below
  exact ⟨_, rfl, _, _, _, [], _, [], hW', trodAll_mk1 (shut_bool Try.underlying4 _), (trodAll_cons_mk (Below.trod laidOut (by kernel_rfl) (of_decide_eq_true (by kernel_rfl)) h0 bel lt0) trodAll_mk0), rfl, bel.frame _, fun h => by cases h⟩

theorem overScriptBack : Rows.scriptBackRow.holds Try.pinned (OpenSpec.ofChange Rows.scriptBackSpec) :=
  OpenClaim.holds_of_wide 5 Try.f5 rfl rfl rfl rfl rfl rfl rfl ⟨rfl, rfl, rfl, rfl, rfl⟩ rfl rfl rfl rfl rfl (by kernel_rfl) Try.func5 (by kernel_rfl)
    (of_decide_eq_true (by kernel_rfl)) (by unfold Func.isWrapper; first | (rw [if_pos (by decide +kernel)]; kernel_rfl) | (rw [if_neg (by decide +kernel)]; exact ⟨rfl, rfl⟩))
    (fun os started H enc _ => liftedScriptBack os started H enc)

/-- THE STATEMENT. -/
theorem provedScriptBack : Rows.ScriptBackSaid := overScriptBack
#print axioms provedScriptBack
end Go.Proofs.Ytejokhgabcldhaa
