/- The row's own conditions, part 2. -/
import Derived.Test.YtifoekadjnlhcaaGreatDoorMA
import Derived.Test.YtifoekadjnlhcaaGreatDoorQK
namespace Go.Proofs.YtifoekadjnlhcaaGreatDoor
open Go.ChangeShapes Go.WideShapes Go.ChangeAt Go.RowKit
theorem jn_0 : Rows.consoleTellsRow.wf (OpenSpec.ofChange Rows.consoleTellsSpec) = true := by kernel_rfl
theorem jn_3 : Tryz.f4.params.all (Tryz.pinned.checked.prog.readableRec ·) = true := by kernel_rfl
theorem jn_4 : namedTie Tryz.pinned.checked.prog Rows.consoleTellsRow.named Rows.consoleTellsSpec.vars = true := by kernel_rfl
theorem jn_5 : (Rows.consoleTellsRow.stops == []) = true := by kernel_rfl
theorem jn_6 : (Tryz.pinned.checked.prog.stops == []) = true := by kernel_rfl
theorem jn_7 : (Rows.consoleTellsRow.knobs == []) = true := by kernel_rfl
theorem jn_8 : (Tryz.pinned.checked.prog.stopKnobs == []) = true := by kernel_rfl
theorem jn_9 : (Rows.consoleTellsRow.inPlace == Tryz.pinned.checked.prog.inPlace 4) = true := by kernel_rfl
theorem jn_10 : (Rows.consoleTellsRow.unfollowed == Tryz.pinned.checked.prog.unfollowed 4) = true := by kernel_rfl
theorem jn_11 : (Rows.consoleTellsRow.recurses == Tryz.pinned.checked.prog.recurses 4) = true := by kernel_rfl
theorem jn_12 : (Rows.consoleTellsRow.named == Tryz.pinned.checked.prog.varsNamed 4) = true := by kernel_rfl
theorem jn_13 : (Rows.consoleTellsRow.maps == (Tryz.f4.params.toList ++ Rows.consoleTellsSpec.plain.varTypes Tryz.pinned.checked.prog).any (Tryz.pinned.checked.prog.mapsRec ·)) = true := by kernel_rfl
theorem jn_14 : (Rows.consoleTellsRow.ifaces == (Tryz.f4.params.toList ++ Rows.consoleTellsSpec.plain.varTypes Tryz.pinned.checked.prog).any (Tryz.pinned.checked.prog.ifacesRec ·)) = true := by kernel_rfl
theorem jn_15 : (Rows.consoleTellsRow.mapsOut == Tryz.pinned.checked.prog.mapsAmong Tryz.f4.resultTypes.toList) = true := by kernel_rfl
theorem jn_16 : (Rows.consoleTellsRow.loops == (Tryz.f4.params.toList ++ Rows.consoleTellsSpec.plain.varTypes Tryz.pinned.checked.prog).any (Tryz.pinned.checked.prog.loopsFrom ·)) = true := by kernel_rfl
theorem jn_17 : (Rows.consoleTellsRow.wideKeys == (Tryz.f4.params.toList ++ Rows.consoleTellsSpec.plain.varTypes Tryz.pinned.checked.prog ++ Tryz.f4.resultTypes.toList).any (Tryz.pinned.checked.prog.wideKeysFrom ·)) = true := by kernel_rfl
theorem jn_18 : Rows.consoleTellsSpec.vars.all (Tryz.pinned.checked.prog.varReadable ·) = true := by kernel_rfl
theorem jn_19 : Tryz.f4.resultTypes.all (fun t => Tryz.pinned.checked.prog.readableRec t && decide (t < Tryz.pinned.checked.prog.types.size)) = true := by kernel_rfl
theorem jn_20 : (Rows.consoleTellsRow.ifacesOut == Tryz.f4.resultTypes.toList.any (Tryz.pinned.checked.prog.ifacesRec ·)) = true := by kernel_rfl
theorem jn_21 : (Rows.consoleTellsRow.loopsOut == Tryz.f4.resultTypes.toList.any (Tryz.pinned.checked.prog.loopsFrom ·)) = true := by kernel_rfl
theorem jn_22 : (Rows.consoleTellsRow.plainKeys == Tryz.pinned.checked.prog.plainKeys) = true := by kernel_rfl
theorem jn_23 : Rows.consoleTellsRow.shortTexts.isNone = true := by kernel_rfl
theorem jn_24 : Tryz.pinned.checked.prog.stopsHeard = true := by kernel_rfl
theorem jn_25 : Tryz.pinned.checked.prog.mayEnter = true := by kernel_rfl
theorem jn_26 : (Rows.consoleTellsRow.lifted == Tryz.pinned.checked.prog.liftsFinal) = true := by kernel_rfl
theorem jn_27 : (Tryz.pinned.checked.prog.make == some Rows.consoleTellsRow.make) = true := by kernel_rfl
theorem jn_28 : (Rows.consoleTellsRow.kinds == (if Rows.consoleTellsRow.domain.isEmpty then [] else Tryz.f4.params.toList.map fun t => match Tryz.pinned.checked.prog.underlying t with | some (.int k) => some k | _ => none)) = true := by kernel_rfl
theorem jn_29 : (Rows.consoleTellsRow.pinned == Rows.consoleTellsRow.pinnedBy) = true := by kernel_rfl
theorem jn_30 : (Rows.consoleTellsRow.veiled == (Tryz.f4.params.toList ++ Rows.consoleTellsSpec.plain.varTypes Tryz.pinned.checked.prog ++ Tryz.f4.resultTypes.toList).any (Tryz.pinned.checked.prog.veiledRec ·)) = true := by kernel_rfl
theorem jn_31 : Rows.consoleTellsRow.veiledFits Tryz.pinned.checked.prog Tryz.f4.params.toList (Tryz.f4.params.toList ++ Rows.consoleTellsSpec.plain.varTypes Tryz.pinned.checked.prog ++ Tryz.f4.resultTypes.toList) = true := by kernel_rfl
theorem band {a b : Bool} (h1 : a = true) (h2 : b = true) : (a && b) = true := by rw [h1, h2]; rfl
set_option maxRecDepth 100000 in
theorem over_closed : joinedFacts Tryz.pinned.checked.prog 4 Tryz.f4 Rows.consoleTellsSpec Rows.consoleTellsRow = true := by
  unfold joinedFacts
  exact band (band (band (band (band (band (band (band (band (band (band (band (band (band (band (band (band (band (band (band (band (band (band (band (band (band (band (band (band (band (band (jn_0) jn_1) jn_2) jn_3) jn_4) jn_5) jn_6) jn_7) jn_8) jn_9) jn_10) jn_11) jn_12) jn_13) jn_14) jn_15) jn_16) jn_17) jn_18) jn_19) jn_20) jn_21) jn_22) jn_23) jn_24) jn_25) jn_26) jn_27) jn_28) jn_29) jn_30) jn_31
end Go.Proofs.YtifoekadjnlhcaaGreatDoor
