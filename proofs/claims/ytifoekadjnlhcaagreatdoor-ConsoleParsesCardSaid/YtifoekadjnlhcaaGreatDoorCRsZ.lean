/- The statement ConsoleParses, proved: whatever the line and whatever the number, the console reads it as its document says. No condition but the card's: the listed tables are laid as the program's text lays them. -/
import Derived.Test.YtifoekadjnlhcaaGreatDoorPG
import Derived.Test.YtifoekadjnlhcaaGreatDoorPI
import Derived.Test.YtifoekadjnlhcaaGreatDoorPJ
import Derived.Test.YtifoekadjnlhcaaGreatDoorNH
import Derived.Test.YtifoekadjnlhcaaGreatDoorNI
import Derived.Test.YtifoekadjnlhcaaGreatDoorMA
import Derived.Test.YtifoekadjnlhcaaGreatDoorTie
import Derived.Test.YtifoekadjnlhcaaGreatDoorCards
import Derived.LaidMore
import Derived.Lay
import Derived.SevenTiedAt
import Derived.Stop.Joined
namespace Go.Proofs.YtifoekadjnlhcaaGreatDoor
open Go.ChangeShapes Go.WideShapes Go.ChangeAt Go.RowKit
set_option linter.unusedVariables false
set_option linter.unusedSimpArgs false
set_option maxRecDepth 100000 in
theorem string_rd {base : Nat} {w : World} (v0 : Value) (k0 : Value.okWide Tryz.prog w .any base 9 v0) (r0 : Rd Tryz.prog w 9 v0.cells.toList) : ∃ s : List UInt8, v0 = .string (str s) ∧ s.length ≤ maxLen := by
  obtain ⟨s, h1, h2⟩ := r0.string Tryz.underlying9
  refine ⟨s.data.toList, ?_, by simpa using h2⟩
  simp only [Value.okWide, Tryz.underlying9, Cell.okWide] at k0
  rw [str_of]
  cases v0 <;> simp_all [Cell.ok, Value.cells]
set_option maxRecDepth 100000 in
theorem parses_rd {base : Nat} {w : World} (v0 v1 : Value) (k0 : Value.okWide Tryz.prog w .any base 9 v0) (k1 : Value.okWide Tryz.prog w .any base 3 v1) (r0 : Rd Tryz.prog w 9 v0.cells.toList) (r1 : Rd Tryz.prog w 3 v1.cells.toList) :
    Calls Tryz.prog 3 #[v0, v1] w fun e w' => e = .returned (.bool true) ∧ More w w' := by
  obtain ⟨s, rfl, hl⟩ := string_rd v0 k0 r0
  obtain ⟨n, rfl, -⟩ := Rd.one_int Tryz.underlying3 k1 r1
  exact parses_walk s n w hl
set_option maxRecDepth 100000 in
theorem liftedConsoleParses (os : Os) (started : os.Started) (H : Type) (enc : TypeId × Value → H) :
    ReturnsInHanded {} Tryz.checked os 3 .any (fun w args => (Rows.consoleParsesSpec.pre enc Tryz.prog Tryz.f3 Rows.consoleParsesRow.domain false w args ∧ laidMetH Tryz.prog Rows.consoleParsesRow.laid w) ∧ sizedMet enc Tryz.prog Tryz.f3 (OpenSpec.ofChange Rows.consoleParsesSpec) false w args) (Rows.consoleParsesSpec.post enc Tryz.prog Tryz.f3 false true false false) := by
  refine returnsInHanded_of_change_and (C := Tryz.checked) (X := fun w _ => laidMetH Tryz.prog Rows.consoleParsesRow.laid w) (fun _ _ _ hh h => h.of_heap hh) own started (by kernel_rfl) Tryz.func3
    (ChangeSpec.witness_shaped (enc := enc) (C := Tryz.checked) (os := os) (X := fun w _ => laidMetH Tryz.prog Rows.consoleParsesRow.laid w) false (World.laidAll Tryz.prog os Rows.consoleParsesRow.laid) #[.string ⟨#[]⟩, .int .i64 0] 8 (World.laidAll_os _ _ _)
      (World.shaped_of_ZipB (by kernel_rfl) (by kernel_rfl)) (by kernel_rfl) (by kernel_rfl) (by kernel_rfl)
      (by rw [MakeChecks.laidMetH_plain _ _ _ (by kernel_rfl)]; exact laidMet_laidAll _ (by kernel_rfl) (by kernel_rfl))) ?_
  intro W base args ds gs before hval0 hW hcnd _ _ _
  have hval : ∀ (j : Nat) t v, Tryz.f3.params[j]? = some t → args[j]? = some v → Value.okWide Tryz.prog W .any base t v := hval0
  have hW' := hW
  obtain ⟨p, q, hA0, hV, rfl, hfz, hnd⟩ := hW
  have hA : DataW.TrodAll enc Tryz.prog W 0 (fun _ => true) true Tryz.f3.params.toList args.toList ds p := hA0
  rw [Tryz.params3] at hA hval
  obtain ⟨v0, vs0, d0, ds0, p0, q0, hargs, rfl, rfl, h0, r0⟩ := trodAll_cons hA
  obtain ⟨v1, vs1, d1, ds1, p1, q1, rfl, rfl, rfl, h1, r1⟩ := trodAll_cons r0
  obtain ⟨rfl, rfl, rfl⟩ := trodAll_nil r1
  obtain rfl : args = #[v0, v1] := by cases args; simp_all
  obtain ⟨rfl, rfl⟩ := trodVars_none hV
  have lt0 : ∀ x ∈ p0, x.block < W.heap.size := by obtain ⟨m, hm⟩ := h0; exact DataW.trod_lt m _ _ _ hm
  have rd0 : Rd Tryz.prog W 9 v0.cells.toList := by obtain ⟨m, hm⟩ := h0; exact ⟨H, enc, m, _, hm⟩
  have lt1 : ∀ x ∈ p1, x.block < W.heap.size := by obtain ⟨m, hm⟩ := h1; exact DataW.trod_lt m _ _ _ hm
  have rd1 : Rd Tryz.prog W 3 v1.cells.toList := by obtain ⟨m, hm⟩ := h1; exact ⟨H, enc, m, _, hm⟩
  clear hA0 hval0
  refine (parses_rd v0 v1 (hval 0 9 v0 rfl rfl) (hval 1 3 v1 rfl rfl) rd0 rd1).mono fun e W' ⟨he, hmore⟩ => ?_
  subst he
  have bel := hmore.below
  exact ⟨_, rfl, _, _, _, [], _, [], hW', trodAll_mk1 (shut_bool Tryz.underlying4 _), (trodAll_cons_mk (Below.trod laidOut (by kernel_rfl) (of_decide_eq_true (by kernel_rfl)) h0 bel lt0) (trodAll_cons_mk (Below.trod laidOut (by kernel_rfl) (of_decide_eq_true (by kernel_rfl)) h1 bel lt1) trodAll_mk0)), rfl, bel.frame _, fun h => by cases h⟩
theorem overConsoleParses : Rows.consoleParsesRow.holds Tryz.pinned (OpenSpec.ofChange Rows.consoleParsesSpec) :=
  OpenClaim.holds_of_wide 3 Tryz.f3 rfl rfl rfl rfl rfl rfl rfl ⟨rfl, rfl, rfl, rfl, rfl⟩ rfl rfl rfl rfl rfl over_named Tryz.func3 over_closed
    over_inst over_wrap
    (fun os started H enc _ => liftedConsoleParses os started H enc)
theorem provedConsoleParses : Rows.ConsoleParsesCardSaid :=
  Claim7.holds_tied_plain_at .later [] [.data, .pinned] true _ true overConsoleParses (fun _ h => by cases h) card_wf (fun _ h => by cases h) consoleParses_row_tie rfl ⟨rfl, rfl⟩ card_main rfl
    (fun f fn hf hfn => by
      obtain rfl : f = 3 := Option.some.inj ((show Tryz.prog.funcNamed "bilander/bilanderlaw28.ConsoleParses" = some 3 by exact card_named).symm.trans hf) |>.symm
      obtain rfl : fn = Tryz.f3 := (Option.some.inj (Tryz.func3.symm.trans hfn)).symm
      exact ⟨card_looks, fun j t ht => by
        rw [Tryz.params3] at ht
        have hm : t ∈ [9, 3] := by simpa using Array.mem_of_getElem? ht
        have hall : ([9, 3].all fun u => !Tryz.prog.wantsStandIn u) = true := by exact card_stand
        exact (show Tryz.prog.wantsStandIn t = false by simpa using List.all_eq_true.1 hall t hm)⟩)
    (goes_by _ rfl)
#print axioms provedConsoleParses
end Go.Proofs.YtifoekadjnlhcaaGreatDoor
