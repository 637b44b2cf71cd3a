/- The statement ScriptGets, proved: any bytes are the step, and the steps, that the document says, or none. No condition. -/
import Derived.Test.YtejokhgabcldhaaMZ
import Derived.Test.YtejokhgabcldhaaMY
namespace Go.Proofs.Ytejokhgabcldhaa
open Go.ChangeShapes Go.WideShapes Go.ChangeAt Go.RowKit
set_option linter.unusedVariables false
set_option linter.unusedSimpArgs false

/-- A world is its own base. -/
theorem rebase (w : World) (L : List (Array Obj)) (n : Nat) : wd w L n = wd (wd w L n) [] n := rfl
theorem more_to {w W : World} {L : List (Array Obj)} {n : Nat} (h : More w W) : More w (wd W L n) := h.trans (more_wd _ _ _)
set_option maxRecDepth 100000 in
set_option maxHeartbeats 6400000 in
theorem gets_walk (a1 : Option Addr) (c1 : Nat) (l1 : List UInt8) (a2 : Option Addr) (c2 : Nat) (l2 : List UInt8) (w : World) (h1 : RB w (.slice a1 l1.length c1) l1) (h2 : RB w (.slice a2 l2.length c2) l2) :
    Calls Try.prog 4 #[.slice a1 l1.length c1, .slice a2 l2.length c2] w fun x w' => x = .returned (.bool true) ∧ More w w' := by
  have H1 := Lib.hid h1
  have H2 := Lib.hid h2
  have hm1 : l1.length ≤ 9223372036854775807 := by obtain ⟨a', c', hv, g1, g2, _⟩ := h1; unfold maxLen at g2; omega
  have hm2 : l2.length ≤ 9223372036854775807 := by obtain ⟨a', c', hv, g1, g2, _⟩ := h2; unfold maxLen at g2; omega
  clear h1 h2
  by_cases hb1 : 1000 < l1.length
  · refine calls_wd ?_
    go_enter Try.func4, Try.ntmps4
    go_wp2_with (first | (go_at_call 11; ((with_reducible refine (awake27 _).mono ?_); rintro e w1 ⟨rfl, x1, n1, rfl⟩)))
    go_ret
    exact ⟨rfl, more_wd _ _ _⟩
  have hb1' : (l1.length : Int) ≤ 1000 := by omega
  by_cases hb2 : 1000 < l2.length
  · refine calls_wd ?_
    go_enter Try.func4, Try.ntmps4
    go_wp2_with (first | (go_at_call 11; ((with_reducible refine (awake27 _).mono ?_); rintro e w1 ⟨rfl, x1, n1, rfl⟩)))
    go_ret
    exact ⟨rfl, more_wd _ _ _⟩
  have hb2' : (l2.length : Int) ≤ 1000 := by omega
  have HFT := Lib.hid (stpGet_fit l1)
  obtain ⟨G, hG⟩ : ∃ G, stpGet l1 = G := ⟨_, rfl⟩
  have HG1 := Lib.hid (fun W h => hG ▸ getstp_any (.slice a1 l1.length c1) l1 W h (by omega))
  have HG2 := Lib.hid (fun W h => hG ▸ rgetstp_any (.slice a1 l1.length c1) l1 W h (by omega))
  rw [hG] at HFT
  clear hG
  obtain ⟨gs, ge⟩ := G
  dsimp only at HG1 HG2 HFT
  have HFD : Hid (∀ s ∈ (stpsGet l2).1, StpFit s) := Lib.hid (by
    unfold stpsGet
    split
    · exact stpsDec_fit 1001 l2 0
    · intro s hs; simp at hs)
  have HDL : Hid ((stpsGet l2).1.length ≤ 1001) := Lib.hid (by
    unfold stpsGet
    split
    · exact stpsDec_len 1001 l2 0
    · exact Nat.zero_le _)
  obtain ⟨D, hD⟩ : ∃ D, stpsGet l2 = D := ⟨_, rfl⟩
  have HG3 := Lib.hid (fun W h => hD ▸ getstms_any (.slice a2 l2.length c2) l2 W h (by omega))
  have HG4 := Lib.hid (fun W h => hD ▸ rgetstms_any (.slice a2 l2.length c2) l2 W h (by omega))
  rw [hD] at HFD HDL
  clear hD
  obtain ⟨D, he⟩ := D
  dsimp only at HG3 HG4 HFD HDL
  have HSM := Lib.hid (fun a a' c c' f f' d d' W g1 g2 => (show decide (gs = gs) = true from decide_eq_true rfl) ▸ rsame_stp gs gs a a' c c' f f' d d' W g1 g2 HFT.out.r HFT.out.r)
  refine calls_wd ?_
  go_enter Try.func4, Try.ntmps4
  go_wp2_with (first
    | (go_at_call 19; ((with_reducible refine (HG1.out _ (H1.out.more (more_wd _ _ _))).mono ?_); rintro x w2 hsr; obtain ⟨b1, e1, f1, d1, rfl, hat1, ⟨x1, n1, rfl⟩, -, -⟩ := hsr.out; have HT1 : Hid (StpAt (wd w [x1] n1) gs b1 f1 d1) := Lib.hid hat1; clear hat1 hsr))
    | (go_at_call 20; ((with_reducible refine (HG2.out _ (H1.out.more (more_wd _ _ _))).mono ?_); rintro x w2 hsr; obtain ⟨b2, e2, f2, d2, rfl, hat2, ⟨x2, n2, rfl⟩, -, -⟩ := hsr.out; have HT2 : Hid (StpAt (wd w [x2, sbk gs b1 e1 f1 d1 36, x1] n2) gs b2 f2 d2) := Lib.hid hat2; clear hat2 hsr))
    | (go_at_call 21; ((with_reducible refine (HG3.out _ (H2.out.more (more_wd _ _ _))).mono ?_); rintro x w2 hsr; obtain ⟨b3, e3, m3, rfl, hm3, hs3, ⟨x3, n3, rfl⟩⟩ := hsr.out; have HM3 := Lib.hid hm3; have HS3 : Hid (StmsAt (wd w [x3, sbk gs b2 e2 f2 d2 30, x2, sbk gs b1 e1 f1 d1 36, x1] n3) b3 m3) := Lib.hid hs3; clear hm3 hs3 hsr))
    | (go_at_call 22; ((with_reducible refine (HG4.out _ (H2.out.more (more_wd _ _ _))).mono ?_); rintro x w2 hsr; obtain ⟨b4, e4, m4, rfl, hm4, hs4, ⟨x4, n4, rfl⟩⟩ := hsr.out; have HM4 := Lib.hid hm4; have HS4 : Hid (StmsAt (wd w [x4, x3, sbk gs b2 e2 f2 d2 30, x2, sbk gs b1 e1 f1 d1 36, x1] n4) b4 m4) := Lib.hid hs4; have hlen : m4.length = m3.length := (by have h1 := congrArg List.length HM3.out; have h2 := congrArg List.length HM4.out; simp only [List.length_map] at h1 h2; omega); rw [hlen]; have HLEN := Lib.hid hlen; clear hlen hm4 hs4 hsr))
    | (go_at_call 15; ((with_reducible refine (HSM.out _ _ _ _ _ _ _ _ _ (HT1.out.more (more_cons (more_cons (more_cons (more_cons (more_cons (more_same _ _ _ _))))))) (HT2.out.more (more_cons (more_cons (more_cons (more_same _ _ _ _)))))).mono ?_); rintro x w2 ⟨rfl, x5, n5, rfl⟩)))
  have HW := Lib.hid (more_wd w [x5, x4, x3, sbk gs b2 e2 f2 d2 30, x2, sbk gs b1 e1 f1 d1 36, x1] n5)
  have HS3' : Hid (StmsAt (wd w [x5, x4, x3, sbk gs b2 e2 f2 d2 30, x2, sbk gs b1 e1 f1 d1 36, x1] n5) b3 m3) := Lib.hid (HS3.out.more (more_cons (more_cons (more_same _ _ _ _))))
  have HS4' : Hid (StmsAt (wd w [x5, x4, x3, sbk gs b2 e2 f2 d2 30, x2, sbk gs b1 e1 f1 d1 36, x1] n5) b4 m4) := Lib.hid (HS4.out.more (more_cons (more_same _ _ _ _)))
  clear HS3 HS4 HT1 HT2
  rw [rebase w [x5, x4, x3, sbk gs b2 e2 f2 d2 30, x2, sbk gs b1 e1 f1 d1 36, x1] n5]
  generalize wd w [x5, x4, x3, sbk gs b2 e2 f2 d2 30, x2, sbk gs b1 e1 f1 d1 36, x1] n5 = W at HW HS3' HS4' ⊢
  have hmb : m3.length ≤ 1001 := by have h := congrArg List.length HM3.out; have := HDL.out; simp only [List.length_map] at h; omega
  go_loopw [13] (fun i wr => ∃ (k : Nat) (m : Ext), k ≤ m3.length ∧ i = .int .i64 k ∧ wr = wd W [m.e] m.n) (fun i _ => m3.length - (intOf i).toNat)
  case atStart => exact ⟨0, ⟨#[], _⟩, Nat.zero_le _, rfl, by rw [wd_empty]⟩
  case round =>
    obtain ⟨k, m, hk, rfl, rfl⟩ := hrel
    by_cases hlt : k < m3.length
    · obtain ⟨y, hy⟩ : ∃ y, m3[k]? = some y := ⟨_, List.getElem?_eq_getElem hlt⟩
      obtain ⟨z, hz⟩ : ∃ z, m4[k]? = some z := ⟨_, List.getElem?_eq_getElem (by rw [HLEN.out]; exact hlt)⟩
      obtain ⟨p3, o3, rfl, hp3, hld3⟩ := load_row (P := Try.prog) HS3'.out.row k y hy
      obtain ⟨p4, o4, rfl, hp4, hld4⟩ := load_row (P := Try.prog) HS4'.out.row k z hz
      have HA3 := Lib.hid (HS3'.out.each y (List.mem_of_getElem? hy))
      have HA4 := Lib.hid (HS4'.out.each z (List.mem_of_getElem? hz))
      have e3' : (m3.map Stm.s)[k]? = some y.s := by simp [hy]
      have e4' : (m4.map Stm.s)[k]? = some z.s := by simp [hz]
      rw [HM3.out] at e3'
      rw [HM4.out, e3'] at e4'
      have hyz : y.s = z.s := Option.some.inj e4'
      have hfy := HFD.out y.s (List.mem_of_getElem? e3')
      have HS2 := Lib.hid (fun W g1 g2 => (show decide (y.s = z.s) = true from decide_eq_true hyz) ▸ rsame_stp y.s z.s y.a z.a y.cap z.cap y.f z.f y.fc z.fc W g1 g2 hfy.r (hyz ▸ hfy.r))
      clear hy hz e3' e4' hyz hfy
      go_wp2
      refine wp_region_wd (by kernel_rfl) (by kernel_rfl) ?_
      repeat (go_big_quiet_step ((first | (go_at_call 15; with_reducible exact Calls.wd_of (HS2.out _ (HA3.out.more (more_wd _ _ _)) (HA4.out.more (more_wd _ _ _)))))))
      refine wpQuiet_nil ?_
      rintro _ ⟨mx, rfl⟩
      go_wp2
      go_roundw
      case rel => exact ⟨k + 1, ⟨_, mx.n⟩, by omega, by go_num, by rw [wd_merge]⟩
      case measure => simp [intOf]; omega
    · go_wp2_with (first | (go_at_call 11; ((with_reducible refine (awake27 _).mono ?_); rintro e w1 ⟨rfl, x1, n1, rfl⟩)))
      go_ret
      exact ⟨rfl, more_to HW.out⟩
set_option maxRecDepth 100000 in
theorem gets_rd {base : Nat} {w : World} (v0 v1 : Value) (k0 : Value.okWide Try.prog w .any base 28 v0) (k1 : Value.okWide Try.prog w .any base 28 v1)
    (r0 : Rd Try.prog w 28 v0.cells.toList) (r1 : Rd Try.prog w 28 v1.cells.toList) :
    Calls Try.prog 4 #[v0, v1] w fun e w' => e = .returned (.bool true) ∧ More w w' := by
  obtain ⟨a0, c0, l0, hv0, hb0⟩ := bytes_rd r0
  obtain rfl := slice_of_cells hv0 Try.underlying28 k0
  obtain ⟨a1, c1, l1, hv1, hb1⟩ := bytes_rd r1
  obtain rfl := slice_of_cells hv1 Try.underlying28 k1
  exact gets_walk a0 c0 l0 a1 c1 l1 w hb0 hb1

set_option maxRecDepth 100000 in
theorem liftedScriptGets (os : Os) (started : os.Started) (H : Type) (enc : TypeId × Value → H) :
    ReturnsInHanded {} Try.checked os 4 .any (Rows.scriptGetsSpec.pre6 enc Try.prog Try.f4 Rows.scriptGetsRow.domain false) (Rows.scriptGetsSpec.post enc Try.prog Try.f4 false true false false) := by
  refine returnsInHanded_of_change (C := Try.checked) own started (by kernel_rfl) Try.func4
    (ChangeSpec.witness6 (enc := enc) (C := Try.checked) false ⟨#[], #[.slice none 0 0, .slice none 0 0], []⟩ 8 (by kernel_rfl) (by kernel_rfl) (by kernel_rfl) (by kernel_rfl)) ?_
  intro W base args ds gs before hval0 hW hcnd _
  have hval : ∀ (j : Nat) t v, Try.f4.params[j]? = some t → args[j]? = some v → Value.okWide Try.prog W .any base t v := hval0
  have hW' := hW
  obtain ⟨p, q, hA0, hV, rfl, hfz, hnd⟩ := hW
  have hA : DataW.TrodAll enc Try.prog W 0 (fun _ => true) true Try.f4.params.toList args.toList ds p := hA0
  rw [Try.params4] at hA hval
  obtain ⟨v0, vs0, d0, ds0, p0, q0, hargs, rfl, rfl, h0, r0⟩ := trodAll_cons hA
  obtain ⟨v1, vs1, d1, ds1, p1, q1, rfl, rfl, rfl, h1, r1⟩ := trodAll_cons r0
  obtain ⟨rfl, rfl, rfl⟩ := trodAll_nil r1
  obtain rfl : args = #[v0, v1] := by cases args; simp_all
  obtain ⟨rfl, rfl⟩ := trodVars_none hV
  have lt0 : ∀ x ∈ p0, x.block < W.heap.size := by obtain ⟨m, hm⟩ := h0; exact DataW.trod_lt m _ _ _ hm
  have rd0 : Rd Try.prog W 28 v0.cells.toList := by obtain ⟨m, hm⟩ := h0; exact ⟨H, enc, m, _, hm⟩
  have lt1 : ∀ x ∈ p1, x.block < W.heap.size := by obtain ⟨m, hm⟩ := h1; exact DataW.trod_lt m _ _ _ hm
  have rd1 : Rd Try.prog W 28 v1.cells.toList := by obtain ⟨m, hm⟩ := h1; exact ⟨H, enc, m, _, hm⟩
  clear hA0 hval0
  refine (gets_rd v0 v1 (hval 0 28 v0 rfl rfl) (hval 1 28 v1 rfl rfl) rd0 rd1).mono fun e W' ⟨he, hmore⟩ => ?_
  subst he
  have bel := hmore.below
  exact ⟨_, rfl, _, _, _, [], _, [], hW', trodAll_mk1 (shut_bool Try.underlying4 _), (trodAll_cons_mk (Below.trod laidOut (by kernel_rfl) (of_decide_eq_true (by kernel_rfl)) h0 bel lt0) (trodAll_cons_mk (Below.trod laidOut (by kernel_rfl) (of_decide_eq_true (by kernel_rfl)) h1 bel lt1) trodAll_mk0)), rfl, bel.frame _, fun h => by cases h⟩

theorem overScriptGets : Rows.scriptGetsRow.holds Try.pinned (OpenSpec.ofChange Rows.scriptGetsSpec) :=
  OpenClaim.holds_of_wide 4 Try.f4 rfl rfl rfl rfl rfl rfl rfl ⟨rfl, rfl, rfl, rfl, rfl⟩ rfl rfl rfl rfl rfl (by kernel_rfl) Try.func4 (by kernel_rfl)
    (of_decide_eq_true (by kernel_rfl)) (by unfold Func.isWrapper; first | (rw [if_pos (by decide +kernel)]; kernel_rfl) | (rw [if_neg (by decide +kernel)]; exact ⟨rfl, rfl⟩))
    (fun os started H enc _ => liftedScriptGets os started H enc)

/-- THE STATEMENT. -/
theorem provedScriptGets : Rows.ScriptGetsSaid := overScriptGets
#print axioms provedScriptGets
end Go.Proofs.Ytejokhgabcldhaa
