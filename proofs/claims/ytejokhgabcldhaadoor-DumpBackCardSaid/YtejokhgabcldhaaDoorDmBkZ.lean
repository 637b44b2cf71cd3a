/- The statement DumpBack, proved: batches that may be are read from their text as they were; what is read has that text again. No condition but the card's: the listed tables are laid as the program's text lays them. -/
import Derived.Test.YtejokhgabcldhaaDoorOD
import Derived.Test.YtejokhgabcldhaaDoorTie
import Derived.Test.YtejokhgabcldhaaDoorCards
import Derived.LaidMore
import Derived.Lay
import Derived.SevenTiedAt
import Derived.Stop.Joined
namespace Go.Proofs.YtejokhgabcldhaaDoor
open Go.ChangeShapes Go.WideShapes Go.ChangeAt Go.RowKit
set_option linter.unusedVariables false
set_option linter.unusedSimpArgs false

set_option maxRecDepth 100000 in
set_option maxHeartbeats 12800000 in
theorem back_walk (ad : Option Addr) (cap : Nat) (l : List Btm) (t : List UInt8) (w : World) (h : BatsAt w ad l) (hf : ∀ x ∈ l, x.b.recs.length ≤ maxLen) (hm : l.length ≤ maxLen) (ht : t.length ≤ maxLen) :
    Calls Tryd.prog 5 #[.slice ad l.length cap, .string (str t)] w fun x w' => x = .returned (.bool true) ∧ More w w' := by
  have HA := Lib.hid h
  obtain ⟨T1, T2, hT, HTX⟩ := textsF ad cap l hf hm
  have HSM := sameF ad cap l hf hm
  unfold maxLen at ht
  have hsz := str_size t
  have hsz1 := str_size T1
  by_cases hlong : 2000 < t.length
  · clear h hf hm HSM hT hsz1
    refine calls_wd ?_
    go_enter Tryd.func5, Tryd.ntmps5
    go_wp2_with (first
      | (go_at_call 12; ((with_reducible refine (HTX.light _ (HA.out.more (more_wd _ _ _))).mono ?_); rintro e w1 hlr; obtain ⟨bl, rfl, ⟨x9, n9, rfl⟩, hb⟩ := hlr.out; clear hlr; have HB := Lib.hid hb; clear hb; cases bl))
      | (go_at_call 7; ((with_reducible refine (awake30 _).mono ?_); rintro e w1 ⟨rfl, x1, n1, rfl⟩)))
    all_goals (go_ret; exact ⟨rfl, more_wd _ _ _⟩)
  have hshort : t.length ≤ 2000 := by omega
  have HEND : ∀ (W0 : World) (L : List (Array Obj)), True := fun _ _ => trivial
  -- how the first half ends, and the second
  by_cases hb1 : T2 = 0 ∧ T1.length ≤ 65536
  · obtain ⟨rfl, hl1⟩ := hb1
    have HR1 := readsF (by omega) (dump_back hT hl1)
    rcases dump_read t with ⟨M, hd, hM⟩ | ⟨n, hd, hn⟩ | ⟨h6, _⟩
    · have HR2 := readsF (by omega) hd
      have HAG := againF hM
      clear h hf hm hT hd hM HEND
      refine calls_wd ?_
      go_enter Tryd.func5, Tryd.ntmps5
      go_wp2_with (first
        | (go_at_call 12; ((with_reducible refine (HTX.light _ (HA.out.more (more_wd _ _ _))).mono ?_); rintro e w1 hlr; obtain ⟨bl, rfl, ⟨x9, n9, rfl⟩, hb⟩ := hlr.out; clear hlr; have HB := Lib.hid hb; clear hb; cases bl))
        | (go_at_call 17; ((with_reducible refine (HTX.t1 _ (HA.out.more (more_wd _ _ _))).mono ?_); rintro e w1 ⟨rfl, x1, n1, rfl⟩))
        | (go_at_call 19; ((with_reducible refine (HR1.out _).mono ?_); rintro e w1 ⟨a2, c2, m2, rfl, he2, hb2, hf2, hl2, x2, n2, rfl⟩; have HE2 := Lib.hid he2; have HB2 : Hid (BatsAt (wd w [x2, x1, x9] n2) a2 m2) := Lib.hid hb2; have HF2 := Lib.hid hf2; clear he2 hb2 hf2))
        | (go_at_call 20; ((with_reducible refine (HSM.out _ _ _ _ (HA.out.more (more_wd _ _ _)) HB2.out HF2.out HE2.out).mono ?_); rintro e w1 ⟨rfl, x3, n3, rfl⟩))
        | (go_at_call 19; ((with_reducible refine (HR2.out _).mono ?_); rintro e w1 ⟨a4, c4, m4, rfl, he4, hb4, hf4, hl4, x4, n4, rfl⟩; have HE4 := Lib.hid he4; have HB4 : Hid (BatsAt (wd w [x4, x3, x2, x1, x9] n4) a4 m4) := Lib.hid hb4; have HF4 := Lib.hid hf4; have HL4 := Lib.hid hl4; clear he4 hb4 hf4))
        | (go_at_call 17; ((with_reducible refine (HAG.out _ _ _ _ HB4.out HF4.out HL4.out HE4.out).mono ?_); rintro e w1 ⟨rfl, x5, n5, rfl⟩))
        | (go_at_call 7; ((with_reducible refine (awake30 _).mono ?_); rintro e w1 ⟨rfl, x1, n1, rfl⟩)))
      all_goals (go_ret; exact ⟨rfl, more_wd _ _ _⟩)
    · have HR2 := failsF (by omega) hd
      have hn' : (0 : Int) < n := by omega
      clear h hf hm hT hd HEND
      refine calls_wd ?_
      go_enter Tryd.func5, Tryd.ntmps5
      go_wp2_with (first
        | (go_at_call 12; ((with_reducible refine (HTX.light _ (HA.out.more (more_wd _ _ _))).mono ?_); rintro e w1 hlr; obtain ⟨bl, rfl, ⟨x9, n9, rfl⟩, hb⟩ := hlr.out; clear hlr; have HB := Lib.hid hb; clear hb; cases bl))
        | (go_at_call 17; ((with_reducible refine (HTX.t1 _ (HA.out.more (more_wd _ _ _))).mono ?_); rintro e w1 ⟨rfl, x1, n1, rfl⟩))
        | (go_at_call 19; ((with_reducible refine (HR1.out _).mono ?_); rintro e w1 ⟨a2, c2, m2, rfl, he2, hb2, hf2, hl2, x2, n2, rfl⟩; have HE2 := Lib.hid he2; have HB2 : Hid (BatsAt (wd w [x2, x1, x9] n2) a2 m2) := Lib.hid hb2; have HF2 := Lib.hid hf2; clear he2 hb2 hf2))
        | (go_at_call 20; ((with_reducible refine (HSM.out _ _ _ _ (HA.out.more (more_wd _ _ _)) HB2.out HF2.out HE2.out).mono ?_); rintro e w1 ⟨rfl, x3, n3, rfl⟩))
        | (go_at_call 19; ((with_reducible refine (HR2.out _).mono ?_); rintro e w1 ⟨a4, c4, rfl, x4, n4, rfl⟩))
        | (go_at_call 7; ((with_reducible refine (awake30 _).mono ?_); rintro e w1 ⟨rfl, x1, n1, rfl⟩)))
      all_goals (go_ret; exact ⟨rfl, more_wd _ _ _⟩)
    · omega
  · have hsk : (T2 == 0) = false ∨ ((T2 == 0) = true ∧ (65536 : Int) < T1.length) := by
      by_cases h0 : T2 = 0
      · right; exact ⟨by simp [h0], by omega⟩
      · left; exact beq_eq_false_iff_ne.2 h0
    rcases dump_read t with ⟨M, hd, hM⟩ | ⟨n, hd, hn⟩ | ⟨h6, _⟩
    · have HR2 := readsF (by omega) hd
      have HAG := againF hM
      clear h hf hm hT hd hM HEND hb1 HSM
      rcases hsk with hs1 | ⟨hs1, hs2⟩
      all_goals
        refine calls_wd ?_
        go_enter Tryd.func5, Tryd.ntmps5
        go_wp2_with (first
          | (go_at_call 12; ((with_reducible refine (HTX.light _ (HA.out.more (more_wd _ _ _))).mono ?_); rintro e w1 hlr; obtain ⟨bl, rfl, ⟨x9, n9, rfl⟩, hb⟩ := hlr.out; clear hlr; have HB := Lib.hid hb; clear hb; cases bl))
          | (go_at_call 17; ((with_reducible refine (HTX.t1 _ (HA.out.more (more_wd _ _ _))).mono ?_); rintro e w1 ⟨rfl, x1, n1, rfl⟩))
          | (go_at_call 19; ((with_reducible refine (HR2.out _).mono ?_); rintro e w1 ⟨a4, c4, m4, rfl, he4, hb4, hf4, hl4, x4, n4, rfl⟩; have HE4 := Lib.hid he4; have HB4 : Hid (BatsAt (wd w [x4, x1, x9] n4) a4 m4) := Lib.hid hb4; have HF4 := Lib.hid hf4; have HL4 := Lib.hid hl4; clear he4 hb4 hf4))
          | (go_at_call 17; ((with_reducible refine (HAG.out _ _ _ _ HB4.out HF4.out HL4.out HE4.out).mono ?_); rintro e w1 ⟨rfl, x5, n5, rfl⟩))
          | (go_at_call 7; ((with_reducible refine (awake30 _).mono ?_); rintro e w1 ⟨rfl, x1, n1, rfl⟩)))
        all_goals (go_ret; exact ⟨rfl, more_wd _ _ _⟩)
    · have HR2 := failsF (by omega) hd
      have hn' : (0 : Int) < n := by omega
      clear h hf hm hT hd HEND hb1 HSM
      rcases hsk with hs1 | ⟨hs1, hs2⟩
      all_goals
        refine calls_wd ?_
        go_enter Tryd.func5, Tryd.ntmps5
        go_wp2_with (first
          | (go_at_call 12; ((with_reducible refine (HTX.light _ (HA.out.more (more_wd _ _ _))).mono ?_); rintro e w1 hlr; obtain ⟨bl, rfl, ⟨x9, n9, rfl⟩, hb⟩ := hlr.out; clear hlr; have HB := Lib.hid hb; clear hb; cases bl))
          | (go_at_call 17; ((with_reducible refine (HTX.t1 _ (HA.out.more (more_wd _ _ _))).mono ?_); rintro e w1 ⟨rfl, x1, n1, rfl⟩))
          | (go_at_call 19; ((with_reducible refine (HR2.out _).mono ?_); rintro e w1 ⟨a4, c4, rfl, x4, n4, rfl⟩))
          | (go_at_call 7; ((with_reducible refine (awake30 _).mono ?_); rintro e w1 ⟨rfl, x1, n1, rfl⟩)))
        all_goals (go_ret; exact ⟨rfl, more_wd _ _ _⟩)
    · omega
set_option maxRecDepth 100000 in
theorem back_rd {base : Nat} {w : World} (v0 v1 : Value) (k0 : Value.okWide Tryd.prog w .any base 27 v0) (k1 : Value.okWide Tryd.prog w .any base 9 v1) (r0 : Rd Tryd.prog w 27 v0.cells.toList) (r1 : Rd Tryd.prog w 9 v1.cells.toList) :
    Calls Tryd.prog 5 #[v0, v1] w fun e w' => e = .returned (.bool true) ∧ More w w' := by
  obtain ⟨ad, cap, l, hv, hs, hf, hm⟩ := bats_rd r0
  obtain rfl := slice_of_cells hv Tryd.underlying27 k0
  obtain ⟨t, rfl, ht⟩ := strv_rd v1 k1 r1
  exact back_walk ad cap l t w hs hf hm ht

set_option maxRecDepth 100000 in
theorem liftedDumpBack (os : Os) (started : os.Started) (H : Type) (enc : TypeId × Value → H) :
    ReturnsInHanded {} Tryd.checked os 5 .any (fun w args => (Rows.dumpBackSpec.pre enc Tryd.prog Tryd.f5 Rows.dumpBackRow.domain false w args ∧ laidMetH Tryd.prog Rows.dumpBackRow.laid w) ∧ sizedMet enc Tryd.prog Tryd.f5 (OpenSpec.ofChange Rows.dumpBackSpec) false w args) (Rows.dumpBackSpec.post enc Tryd.prog Tryd.f5 false true false false) := by
  refine returnsInHanded_of_change_and (C := Tryd.checked) (X := fun w _ => laidMetH Tryd.prog Rows.dumpBackRow.laid w) (fun _ _ _ hh h => h.of_heap hh) own started (by kernel_rfl) Tryd.func5
    (ChangeSpec.witness_shaped (enc := enc) (C := Tryd.checked) (os := os) (X := fun w _ => laidMetH Tryd.prog Rows.dumpBackRow.laid w) false (World.laidAll Tryd.prog os Rows.dumpBackRow.laid) #[.slice none 0 0, .string ⟨#[]⟩] 8 (World.laidAll_os _ _ _)
      (World.shaped_of_ZipB (by kernel_rfl) (by kernel_rfl)) (by kernel_rfl) (by kernel_rfl) (by kernel_rfl)
      (by rw [MakeChecks.laidMetH_plain _ _ _ (by kernel_rfl)]; exact laidMet_laidAll _ (by kernel_rfl) (by kernel_rfl))) ?_
  intro W base args ds gs before hval0 hW hcnd _ _ _
  have hval : ∀ (j : Nat) t v, Tryd.f5.params[j]? = some t → args[j]? = some v → Value.okWide Tryd.prog W .any base t v := hval0
  have hW' := hW
  obtain ⟨p, q, hA0, hV, rfl, hfz, hnd⟩ := hW
  have hA : DataW.TrodAll enc Tryd.prog W 0 (fun _ => true) true Tryd.f5.params.toList args.toList ds p := hA0
  rw [Tryd.params5] at hA hval
  obtain ⟨v0, vs0, d0, ds0, p0, q0, hargs, rfl, rfl, h0, r0⟩ := trodAll_cons hA
  obtain ⟨v1, vs1, d1, ds1, p1, q1, rfl, rfl, rfl, h1, r1⟩ := trodAll_cons r0
  obtain ⟨rfl, rfl, rfl⟩ := trodAll_nil r1
  obtain rfl : args = #[v0, v1] := by cases args; simp_all
  obtain ⟨rfl, rfl⟩ := trodVars_none hV
  have lt0 : ∀ x ∈ p0, x.block < W.heap.size := by obtain ⟨m, hm⟩ := h0; exact DataW.trod_lt m _ _ _ hm
  have rd0 : Rd Tryd.prog W 27 v0.cells.toList := by obtain ⟨m, hm⟩ := h0; exact ⟨H, enc, m, _, hm⟩
  have lt1 : ∀ x ∈ p1, x.block < W.heap.size := by obtain ⟨m, hm⟩ := h1; exact DataW.trod_lt m _ _ _ hm
  have rd1 : Rd Tryd.prog W 9 v1.cells.toList := by obtain ⟨m, hm⟩ := h1; exact ⟨H, enc, m, _, hm⟩
  clear hA0 hval0
  refine (back_rd v0 v1 (hval 0 27 v0 rfl rfl) (hval 1 9 v1 rfl rfl) rd0 rd1).mono fun e W' ⟨he, hmore⟩ => ?_
  subst he
  have bel := hmore.below
  exact ⟨_, rfl, _, _, _, [], _, [], hW', trodAll_mk1 (shut_bool Tryd.underlying4 _), (trodAll_cons_mk (Below.trod laidOut (by kernel_rfl) (of_decide_eq_true (by kernel_rfl)) h0 bel lt0) (trodAll_cons_mk (Below.trod laidOut (by kernel_rfl) (of_decide_eq_true (by kernel_rfl)) h1 bel lt1) trodAll_mk0)), rfl, bel.frame _, fun h => by cases h⟩

theorem overDumpBack : Rows.dumpBackRow.holds Tryd.pinned (OpenSpec.ofChange Rows.dumpBackSpec) :=
  OpenClaim.holds_of_wide 5 Tryd.f5 rfl rfl rfl rfl rfl rfl rfl ⟨rfl, rfl, rfl, rfl, rfl⟩ rfl rfl rfl rfl rfl (by kernel_rfl) Tryd.func5 (by kernel_rfl)
    (of_decide_eq_true (by kernel_rfl)) (by unfold Func.isWrapper; first | (rw [if_pos (by decide +kernel)]; kernel_rfl) | (rw [if_neg (by decide +kernel)]; exact ⟨rfl, rfl⟩))
    (fun os started H enc _ => liftedDumpBack os started H enc)

/-- THE STATEMENT: THE TIED CARD. -/
theorem provedDumpBack : Rows.DumpBackCardSaid :=
  Claim7.holds_tied_plain_at .later [] [.data, .pinned] true _ false overDumpBack (fun _ h => by cases h) (by kernel_rfl) (fun _ h => by cases h) dumpBack_row_tie rfl ⟨rfl, rfl⟩ (by kernel_rfl) rfl
    (fun f fn hf hfn => by
      obtain rfl : f = 5 := Option.some.inj ((show Tryd.prog.funcNamed "bilander/bilanderlaw30.DumpBack" = some 5 by kernel_rfl).symm.trans hf) |>.symm
      obtain rfl : fn = Tryd.f5 := (Option.some.inj (Tryd.func5.symm.trans hfn)).symm
      exact ⟨by kernel_rfl, fun j t ht => by
        rw [Tryd.params5] at ht
        have hm : t ∈ [27, 9] := by simpa using Array.mem_of_getElem? ht
        have hall : ([27, 9].all fun u => !Tryd.prog.wantsStandIn u) = true := by kernel_rfl
        exact (show Tryd.prog.wantsStandIn t = false by simpa using List.all_eq_true.1 hall t hm)⟩)
    (by kernel_rfl)
#print axioms provedDumpBack
end Go.Proofs.YtejokhgabcldhaaDoor
