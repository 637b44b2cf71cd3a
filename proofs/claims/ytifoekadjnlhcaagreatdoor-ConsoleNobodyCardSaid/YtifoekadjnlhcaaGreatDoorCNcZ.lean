/- The statement ConsoleNobody, proved: without a world each step tells so, whatever the line. No condition but the card's: the listed tables are laid as the program's text lays them. -/
import Derived.Test.YtifoekadjnlhcaaGreatDoorNC
import Derived.Test.YtifoekadjnlhcaaGreatDoorNF
import Derived.Test.YtifoekadjnlhcaaGreatDoorNG
import Derived.Test.YtifoekadjnlhcaaGreatDoorNH
import Derived.Test.YtifoekadjnlhcaaGreatDoorNI
import Derived.Test.YtifoekadjnlhcaaGreatDoorMA
import Derived.Test.YtifoekadjnlhcaaGreatDoorTie
import Derived.Test.YtifoekadjnlhcaaGreatDoorCards
import Derived.LaidMore
import Derived.Lay
import Derived.SevenTiedAt
import Derived.Stop.Joined
namespace Go.Proofs.YtifoekadjnlhcaaGreatDoor
open Go.ChangeShapes Go.WideShapes Go.ChangeAt Go.RowKit
set_option linter.unusedVariables false
set_option linter.unusedSimpArgs false
set_option maxRecDepth 100000 in
theorem string_rd {base : Nat} {w : World} (v0 : Value) (k0 : Value.okWide Tryz.prog w .any base 9 v0) (r0 : Rd Tryz.prog w 9 v0.cells.toList) : ∃ s : List UInt8, v0 = .string (str s) ∧ s.length ≤ maxLen := by
  obtain ⟨s, h1, h2⟩ := r0.string Tryz.underlying9
  refine ⟨s.data.toList, ?_, by simpa using h2⟩
  simp only [Value.okWide, Tryz.underlying9, Cell.okWide] at k0
  rw [str_of]
  cases v0 <;> simp_all [Cell.ok, Value.cells]
set_option maxRecDepth 100000 in
theorem nobody_rd {base : Nat} {w : World} (v0 : Value) (k0 : Value.okWide Tryz.prog w .any base 9 v0) (r0 : Rd Tryz.prog w 9 v0.cells.toList) :
    Calls Tryz.prog 5 #[v0] w fun e w' => e = .returned (.bool true) ∧ More w w' := by
  obtain ⟨s, rfl, hl⟩ := string_rd v0 k0 r0
  exact nobody_walk s w hl

set_option maxRecDepth 100000 in
theorem liftedConsoleNobody (os : Os) (started : os.Started) (H : Type) (enc : TypeId × Value → H) :
    ReturnsInHanded {} Tryz.checked os 5 .any (fun w args => (Rows.consoleNobodySpec.pre enc Tryz.prog Tryz.f5 Rows.consoleNobodyRow.domain false w args ∧ laidMetH Tryz.prog Rows.consoleNobodyRow.laid w) ∧ sizedMet enc Tryz.prog Tryz.f5 (OpenSpec.ofChange Rows.consoleNobodySpec) false w args) (Rows.consoleNobodySpec.post enc Tryz.prog Tryz.f5 false true false false) := by
  refine returnsInHanded_of_change_and (C := Tryz.checked) (X := fun w _ => laidMetH Tryz.prog Rows.consoleNobodyRow.laid w) (fun _ _ _ hh h => h.of_heap hh) own started (by kernel_rfl) Tryz.func5
    (ChangeSpec.witness_shaped (enc := enc) (C := Tryz.checked) (os := os) (X := fun w _ => laidMetH Tryz.prog Rows.consoleNobodyRow.laid w) false (World.laidAll Tryz.prog os Rows.consoleNobodyRow.laid) #[.string ⟨#[]⟩] 8 (World.laidAll_os _ _ _)
      (World.shaped_of_ZipB (by kernel_rfl) (by kernel_rfl)) (by kernel_rfl) (by kernel_rfl) (by kernel_rfl)
      (by rw [MakeChecks.laidMetH_plain _ _ _ (by kernel_rfl)]; exact laidMet_laidAll _ (by kernel_rfl) (by kernel_rfl))) ?_
  intro W base args ds gs before hval0 hW hcnd _ _ _
  have hval : ∀ (j : Nat) t v, Tryz.f5.params[j]? = some t → args[j]? = some v → Value.okWide Tryz.prog W .any base t v := hval0
  have hW' := hW
  obtain ⟨p, q, hA0, hV, rfl, hfz, hnd⟩ := hW
  have hA : DataW.TrodAll enc Tryz.prog W 0 (fun _ => true) true Tryz.f5.params.toList args.toList ds p := hA0
  rw [Tryz.params5] at hA hval
  obtain ⟨v0, vs0, d0, ds0, p0, q0, hargs, rfl, rfl, h0, r0⟩ := trodAll_cons hA
  obtain ⟨rfl, rfl, rfl⟩ := trodAll_nil r0
  obtain rfl : args = #[v0] := by cases args; simp_all
  obtain ⟨rfl, rfl⟩ := trodVars_none hV
  have lt0 : ∀ x ∈ p0, x.block < W.heap.size := by obtain ⟨m, hm⟩ := h0; exact DataW.trod_lt m _ _ _ hm
  have rd0 : Rd Tryz.prog W 9 v0.cells.toList := by obtain ⟨m, hm⟩ := h0; exact ⟨H, enc, m, _, hm⟩
  clear hA0 hval0
  refine (nobody_rd v0 (hval 0 9 v0 rfl rfl) rd0).mono fun e W' ⟨he, hmore⟩ => ?_
  subst he
  have bel := hmore.below
  exact ⟨_, rfl, _, _, _, [], _, [], hW', trodAll_mk1 (shut_bool Tryz.underlying4 _), (trodAll_cons_mk (Below.trod laidOut (by kernel_rfl) (of_decide_eq_true (by kernel_rfl)) h0 bel lt0) trodAll_mk0), rfl, bel.frame _, fun h => by cases h⟩

theorem overConsoleNobody : Rows.consoleNobodyRow.holds Tryz.pinned (OpenSpec.ofChange Rows.consoleNobodySpec) :=
  OpenClaim.holds_of_wide 5 Tryz.f5 rfl rfl rfl rfl rfl rfl rfl ⟨rfl, rfl, rfl, rfl, rfl⟩ rfl rfl rfl rfl rfl over_named Tryz.func5 over_closed
    over_inst over_wrap
    (fun os started H enc _ => liftedConsoleNobody os started H enc)

/-- THE STATEMENT: THE TIED CARD. -/
theorem provedConsoleNobody : Rows.ConsoleNobodyCardSaid :=
  Claim7.holds_tied_plain_at .later [] [.data, .pinned] true _ true overConsoleNobody (fun _ h => by cases h) card_wf (fun _ h => by cases h) consoleNobody_row_tie rfl ⟨rfl, rfl⟩ card_main rfl
    (fun f fn hf hfn => by
      obtain rfl : f = 5 := Option.some.inj ((show Tryz.prog.funcNamed "bilander/bilanderlaw28.ConsoleNobody" = some 5 by exact card_named).symm.trans hf) |>.symm
      obtain rfl : fn = Tryz.f5 := (Option.some.inj (Tryz.func5.symm.trans hfn)).symm
      exact ⟨card_looks, fun j t ht => by
        rw [Tryz.params5] at ht
        have hm : t ∈ [9] := by simpa using Array.mem_of_getElem? ht
        have hall : ([9].all fun u => !Tryz.prog.wantsStandIn u) = true := by exact card_stand
        exact (show Tryz.prog.wantsStandIn t = false by simpa using List.all_eq_true.1 hall t hm)⟩)
    (goes_by _ rfl)
#print axioms provedConsoleNobody
end Go.Proofs.YtifoekadjnlhcaaGreatDoor
