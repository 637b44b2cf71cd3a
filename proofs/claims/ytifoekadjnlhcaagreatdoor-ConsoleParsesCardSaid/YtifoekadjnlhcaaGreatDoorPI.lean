/- The row's own conditions, part 2. -/
import Derived.Test.YtifoekadjnlhcaaGreatDoorMA
import Derived.Test.YtifoekadjnlhcaaGreatDoorPH
namespace Go.Proofs.YtifoekadjnlhcaaGreatDoor
open Go.ChangeShapes Go.WideShapes Go.ChangeAt Go.RowKit
theorem jn_0 : Rows.consoleParsesRow.wf (OpenSpec.ofChange Rows.consoleParsesSpec) = true := by kernel_rfl
theorem jn_3 : Tryz.f3.params.all (Tryz.pinned.checked.prog.readableRec ·) = true := by kernel_rfl
theorem jn_4 : namedTie Tryz.pinned.checked.prog Rows.consoleParsesRow.named Rows.consoleParsesSpec.vars = true := by kernel_rfl
theorem jn_5 : (Rows.consoleParsesRow.stops == []) = true := by kernel_rfl
theorem jn_6 : (Tryz.pinned.checked.prog.stops == []) = true := by kernel_rfl
theorem jn_7 : (Rows.consoleParsesRow.knobs == []) = true := by kernel_rfl
theorem jn_8 : (Tryz.pinned.checked.prog.stopKnobs == []) = true := by kernel_rfl
theorem jn_9 : (Rows.consoleParsesRow.inPlace == Tryz.pinned.checked.prog.inPlace 3) = true := by kernel_rfl
theorem jn_10 : (Rows.consoleParsesRow.unfollowed == Tryz.pinned.checked.prog.unfollowed 3) = true := by kernel_rfl
theorem jn_11 : (Rows.consoleParsesRow.recurses == Tryz.pinned.checked.prog.recurses 3) = true := by kernel_rfl
theorem jn_12 : (Rows.consoleParsesRow.named == Tryz.pinned.checked.prog.varsNamed 3) = true := by kernel_rfl
theorem jn_13 : (Rows.consoleParsesRow.maps == (Tryz.f3.params.toList ++ Rows.consoleParsesSpec.plain.varTypes Tryz.pinned.checked.prog).any (Tryz.pinned.checked.prog.mapsRec ·)) = true := by kernel_rfl
theorem jn_14 : (Rows.consoleParsesRow.ifaces == (Tryz.f3.params.toList ++ Rows.consoleParsesSpec.plain.varTypes Tryz.pinned.checked.prog).any (Tryz.pinned.checked.prog.ifacesRec ·)) = true := by kernel_rfl
theorem jn_15 : (Rows.consoleParsesRow.mapsOut == Tryz.pinned.checked.prog.mapsAmong Tryz.f3.resultTypes.toList) = true := by kernel_rfl
theorem jn_16 : (Rows.consoleParsesRow.loops == (Tryz.f3.params.toList ++ Rows.consoleParsesSpec.plain.varTypes Tryz.pinned.checked.prog).any (Tryz.pinned.checked.prog.loopsFrom ·)) = true := by kernel_rfl
theorem jn_17 : (Rows.consoleParsesRow.wideKeys == (Tryz.f3.params.toList ++ Rows.consoleParsesSpec.plain.varTypes Tryz.pinned.checked.prog ++ Tryz.f3.resultTypes.toList).any (Tryz.pinned.checked.prog.wideKeysFrom ·)) = true := by kernel_rfl
theorem jn_18 : Rows.consoleParsesSpec.vars.all (Tryz.pinned.checked.prog.varReadable ·) = true := by kernel_rfl
theorem jn_19 : Tryz.f3.resultTypes.all (fun t => Tryz.pinned.checked.prog.readableRec t && decide (t < Tryz.pinned.checked.prog.types.size)) = true := by kernel_rfl
theorem jn_20 : (Rows.consoleParsesRow.ifacesOut == Tryz.f3.resultTypes.toList.any (Tryz.pinned.checked.prog.ifacesRec ·)) = true := by kernel_rfl
theorem jn_21 : (Rows.consoleParsesRow.loopsOut == Tryz.f3.resultTypes.toList.any (Tryz.pinned.checked.prog.loopsFrom ·)) = true := by kernel_rfl
theorem jn_22 : (Rows.consoleParsesRow.plainKeys == Tryz.pinned.checked.prog.plainKeys) = true := by kernel_rfl
theorem jn_23 : Rows.consoleParsesRow.shortTexts.isNone = true := by kernel_rfl
theorem jn_24 : Tryz.pinned.checked.prog.stopsHeard = true := by kernel_rfl
theorem jn_25 : Tryz.pinned.checked.prog.mayEnter = true := by kernel_rfl
theorem jn_26 : (Rows.consoleParsesRow.lifted == Tryz.pinned.checked.prog.liftsFinal) = true := by kernel_rfl
theorem jn_27 : (Tryz.pinned.checked.prog.make == some Rows.consoleParsesRow.make) = true := by kernel_rfl
theorem jn_28 : (Rows.consoleParsesRow.kinds == (if Rows.consoleParsesRow.domain.isEmpty then [] else Tryz.f3.params.toList.map fun t => match Tryz.pinned.checked.prog.underlying t with | some (.int k) => some k | _ => none)) = true := by kernel_rfl
theorem jn_29 : (Rows.consoleParsesRow.pinned == Rows.consoleParsesRow.pinnedBy) = true := by kernel_rfl
theorem jn_30 : (Rows.consoleParsesRow.veiled == (Tryz.f3.params.toList ++ Rows.consoleParsesSpec.plain.varTypes Tryz.pinned.checked.prog ++ Tryz.f3.resultTypes.toList).any (Tryz.pinned.checked.prog.veiledRec ·)) = true := by kernel_rfl
theorem jn_31 : Rows.consoleParsesRow.veiledFits Tryz.pinned.checked.prog Tryz.f3.params.toList (Tryz.f3.params.toList ++ Rows.consoleParsesSpec.plain.varTypes Tryz.pinned.checked.prog ++ Tryz.f3.resultTypes.toList) = true := by kernel_rfl
theorem band {a b : Bool} (h1 : a = true) (h2 : b = true) : (a && b) = true := by rw [h1, h2]; rfl
set_option maxRecDepth 100000 in
theorem over_closed : joinedFacts Tryz.pinned.checked.prog 3 Tryz.f3 Rows.consoleParsesSpec Rows.consoleParsesRow = true := by
  unfold joinedFacts
  exact band (band (band (band (band (band (band (band (band (band (band (band (band (band (band (band (band (band (band (band (band (band (band (band (band (band (band (band (band (band (band (jn_0) jn_1) jn_2) jn_3) jn_4) jn_5) jn_6) jn_7) jn_8) jn_9) jn_10) jn_11) jn_12) jn_13) jn_14) jn_15) jn_16) jn_17) jn_18) jn_19) jn_20) jn_21) jn_22) jn_23) jn_24) jn_25) jn_26) jn_27) jn_28) jn_29) jn_30) jn_31
end Go.Proofs.YtifoekadjnlhcaaGreatDoor
