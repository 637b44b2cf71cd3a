/- The statement ConsoleTells, proved: whatever a step answered, the console tells it in the lines that its document says. No condition but the card's: the listed tables are laid as the program's text lays them. -/
import Derived.Test.YtifoekadjnlhcaaGreatDoorQJ
import Derived.Test.YtifoekadjnlhcaaGreatDoorQL
import Derived.Test.YtifoekadjnlhcaaGreatDoorQM
import Derived.Test.YtifoekadjnlhcaaGreatDoorNH
import Derived.Test.YtifoekadjnlhcaaGreatDoorNI
import Derived.Test.YtifoekadjnlhcaaGreatDoorMA
import Derived.Test.YtifoekadjnlhcaaGreatDoorTie
import Derived.Test.YtifoekadjnlhcaaGreatDoorCards
import Derived.LaidMore
import Derived.Lay
import Derived.SevenTiedAt
import Derived.Stop.Joined
namespace Go.Proofs.YtifoekadjnlhcaaGreatDoor
open Go.ChangeShapes Go.WideShapes Go.ChangeAt Go.RowKit
set_option linter.unusedVariables false
set_option linter.unusedSimpArgs false
theorem stm_toList (s : Stp) (a : Option Addr) (cap : Nat) (f : Option Addr) (fc : Nat) : (stp s a cap f fc).toList = stmCells ⟨s, a, cap, f, fc⟩ := by unfold stp stmCells; simp
set_option maxRecDepth 100000 in
theorem stpv_rd {w : World} {r : Reach} {b : Nat} {v : Value} (hk : Value.okWide Tryz.prog w r b 34 v) (h : Rd Tryz.prog w 34 v.cells.toList) : ∃ s a c f fc, v = .agg (stp s a c f fc) ∧ StpAt w s a f fc ∧ StpLen s := by
  obtain ⟨cs, rfl, hsz⟩ := okWide_struct Tryz.underlying34 hk
  obtain ⟨⟨s, a, c, f, fc⟩, hx, hat, hfit⟩ := stp_rd h
  refine ⟨s, a, c, f, fc, ?_, hat, hfit⟩
  congr 1
  apply Array.toList_inj.1
  rw [stm_toList]
  exact hx
set_option maxRecDepth 100000 in
theorem rspv_rd {w : World} {r : Reach} {b : Nat} {v : Value} (hk : Value.okWide Tryz.prog w r b 46 v) (h : Rd Tryz.prog w 46 v.cells.toList) : ∃ x : Rsp, v = .agg (rspCells x).toArray ∧ RspAt w x := by
  obtain ⟨cs, rfl, hsz⟩ := okWide_struct Tryz.underlying46 hk
  obtain ⟨x, hx, hat⟩ := rsp_rd h
  refine ⟨x, ?_, hat⟩
  congr 1
  apply Array.toList_inj.1
  exact hx
set_option maxRecDepth 100000 in
theorem u8_rd {base : Nat} {w : World} (v0 : Value) (k0 : Value.okWide Tryz.prog w .any base 5 v0) (r0 : Rd Tryz.prog w 5 v0.cells.toList) : ∃ e : Int, v0 = .int .u8 e ∧ 0 ≤ e ∧ e < 256 := by
  obtain ⟨n, rfl, hw⟩ := Rd.one_int Tryz.underlying5 k0 r0
  refine ⟨n, rfl, ?_⟩
  simp [Lit.wf, IntKind.min, IntKind.max, IntKind.signed, IntKind.bits] at hw
  omega
set_option maxRecDepth 100000 in
theorem tells_rd {base : Nat} {w : World} (v0 v1 v2 : Value) (k0 : Value.okWide Tryz.prog w .any base 34 v0) (k1 : Value.okWide Tryz.prog w .any base 46 v1) (k2 : Value.okWide Tryz.prog w .any base 5 v2)
    (r0 : Rd Tryz.prog w 34 v0.cells.toList) (r1 : Rd Tryz.prog w 46 v1.cells.toList) (r2 : Rd Tryz.prog w 5 v2.cells.toList) :
    Calls Tryz.prog 4 #[v0, v1, v2] w fun e w' => e = .returned (.bool true) ∧ More w w' := by
  obtain ⟨s, a, c, f, fc, rfl, hs, hl⟩ := stpv_rd k0 r0
  obtain ⟨x, rfl, hR⟩ := rspv_rd k1 r1
  obtain ⟨e, rfl, h0, h1⟩ := u8_rd v2 k2 r2
  exact tells_walk s a c f fc x.k0 x.er x.off x.nx x.db x.ge x.ad x.cap x.l x.pa x.pc x.ps x.na x.nc x.ns e h0 h1 w hs hl hR
set_option maxRecDepth 100000 in
theorem liftedConsoleTells (os : Os) (started : os.Started) (H : Type) (enc : TypeId × Value → H) :
    ReturnsInHanded {} Tryz.checked os 4 .any (fun w args => (Rows.consoleTellsSpec.pre enc Tryz.prog Tryz.f4 Rows.consoleTellsRow.domain false w args ∧ laidMetH Tryz.prog Rows.consoleTellsRow.laid w) ∧ sizedMet enc Tryz.prog Tryz.f4 (OpenSpec.ofChange Rows.consoleTellsSpec) false w args) (Rows.consoleTellsSpec.post enc Tryz.prog Tryz.f4 false true false false) := by
  refine returnsInHanded_of_change_and (C := Tryz.checked) (X := fun w _ => laidMetH Tryz.prog Rows.consoleTellsRow.laid w) (fun _ _ _ hh h => h.of_heap hh) own started (by kernel_rfl) Tryz.func4
    (ChangeSpec.witness_shaped (enc := enc) (C := Tryz.checked) (os := os) (X := fun w _ => laidMetH Tryz.prog Rows.consoleTellsRow.laid w) false (World.laidAll Tryz.prog os Rows.consoleTellsRow.laid) #[.agg (stp (stpBlank 0) none 0 none 0), .agg #[.int .u8 0, .int .i64 0, .int .i64 0, .int .i64 0, .bool false, .int .i64 0, .slice none 0 0, .slice none 0 0, .slice none 0 0], .int .u8 0] 8 (World.laidAll_os _ _ _)
      (World.shaped_of_ZipB (by kernel_rfl) (by kernel_rfl)) (by kernel_rfl) (by kernel_rfl) (by kernel_rfl)
      (by rw [MakeChecks.laidMetH_plain _ _ _ (by kernel_rfl)]; exact laidMet_laidAll _ (by kernel_rfl) (by kernel_rfl))) ?_
  intro W base args ds gs before hval0 hW hcnd _ _ _
  have hval : ∀ (j : Nat) t v, Tryz.f4.params[j]? = some t → args[j]? = some v → Value.okWide Tryz.prog W .any base t v := hval0
  have hW' := hW
  obtain ⟨p, q, hA0, hV, rfl, hfz, hnd⟩ := hW
  have hA : DataW.TrodAll enc Tryz.prog W 0 (fun _ => true) true Tryz.f4.params.toList args.toList ds p := hA0
  rw [Tryz.params4] at hA hval
  obtain ⟨v0, vs0, d0, ds0, p0, q0, hargs, rfl, rfl, h0, r0⟩ := trodAll_cons hA
  obtain ⟨v1, vs1, d1, ds1, p1, q1, rfl, rfl, rfl, h1, r1⟩ := trodAll_cons r0
  obtain ⟨v2, vs2, d2, ds2, p2, q2, rfl, rfl, rfl, h2, r2⟩ := trodAll_cons r1
  obtain ⟨rfl, rfl, rfl⟩ := trodAll_nil r2
  obtain rfl : args = #[v0, v1, v2] := by cases args; simp_all
  obtain ⟨rfl, rfl⟩ := trodVars_none hV
  have lt0 : ∀ x ∈ p0, x.block < W.heap.size := by obtain ⟨m, hm⟩ := h0; exact DataW.trod_lt m _ _ _ hm
  have rd0 : Rd Tryz.prog W 34 v0.cells.toList := by obtain ⟨m, hm⟩ := h0; exact ⟨H, enc, m, _, hm⟩
  have lt1 : ∀ x ∈ p1, x.block < W.heap.size := by obtain ⟨m, hm⟩ := h1; exact DataW.trod_lt m _ _ _ hm
  have rd1 : Rd Tryz.prog W 46 v1.cells.toList := by obtain ⟨m, hm⟩ := h1; exact ⟨H, enc, m, _, hm⟩
  have lt2 : ∀ x ∈ p2, x.block < W.heap.size := by obtain ⟨m, hm⟩ := h2; exact DataW.trod_lt m _ _ _ hm
  have rd2 : Rd Tryz.prog W 5 v2.cells.toList := by obtain ⟨m, hm⟩ := h2; exact ⟨H, enc, m, _, hm⟩
  clear hA0 hval0
  refine (tells_rd v0 v1 v2 (hval 0 34 v0 rfl rfl) (hval 1 46 v1 rfl rfl) (hval 2 5 v2 rfl rfl) rd0 rd1 rd2).mono fun e W' ⟨he, hmore⟩ => ?_
  subst he
  have bel := hmore.below
  exact ⟨_, rfl, _, _, _, [], _, [], hW', trodAll_mk1 (shut_bool Tryz.underlying4 _), (trodAll_cons_mk (Below.trod laidOut (by kernel_rfl) (of_decide_eq_true (by kernel_rfl)) h0 bel lt0) (trodAll_cons_mk (Below.trod laidOut (by kernel_rfl) (of_decide_eq_true (by kernel_rfl)) h1 bel lt1) (trodAll_cons_mk (Below.trod laidOut (by kernel_rfl) (of_decide_eq_true (by kernel_rfl)) h2 bel lt2) trodAll_mk0))), rfl, bel.frame _, fun h => by cases h⟩
theorem overConsoleTells : Rows.consoleTellsRow.holds Tryz.pinned (OpenSpec.ofChange Rows.consoleTellsSpec) :=
  OpenClaim.holds_of_wide 4 Tryz.f4 rfl rfl rfl rfl rfl rfl rfl ⟨rfl, rfl, rfl, rfl, rfl⟩ rfl rfl rfl rfl rfl over_named Tryz.func4 over_closed
    over_inst over_wrap
    (fun os started H enc _ => liftedConsoleTells os started H enc)
theorem provedConsoleTells : Rows.ConsoleTellsCardSaid :=
  Claim7.holds_tied_plain_at .later [] [.data, .pinned] true _ true overConsoleTells (fun _ h => by cases h) card_wf (fun _ h => by cases h) consoleTells_row_tie rfl ⟨rfl, rfl⟩ card_main rfl
    (fun f fn hf hfn => by
      obtain rfl : f = 4 := Option.some.inj ((show Tryz.prog.funcNamed "bilander/bilanderlaw28.ConsoleTells" = some 4 by exact card_named).symm.trans hf) |>.symm
      obtain rfl : fn = Tryz.f4 := (Option.some.inj (Tryz.func4.symm.trans hfn)).symm
      exact ⟨card_looks, fun j t ht => by
        rw [Tryz.params4] at ht
        have hm : t ∈ [34, 46, 5] := by simpa using Array.mem_of_getElem? ht
        have hall : ([34, 46, 5].all fun u => !Tryz.prog.wantsStandIn u) = true := by exact card_stand
        exact (show Tryz.prog.wantsStandIn t = false by simpa using List.all_eq_true.1 hall t hm)⟩)
    (goes_by _ rfl)
#print axioms provedConsoleTells
end Go.Proofs.YtifoekadjnlhcaaGreatDoor
