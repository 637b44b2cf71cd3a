/- The row's own conditions, part 2. -/
import Derived.Test.YtmlianelfokkoaaGreatMA
namespace Go.Proofs.YtmlianelfokkoaaGreat
open Go.ChangeShapes Go.WideShapes Go.ChangeAt Go.RowKit
theorem jn_0 : Rows.worldNobodyRow.wf (OpenSpec.ofChange Rows.worldNobodySpec) = true := by kernel_rfl
theorem jn_3 : Tryz.f3.params.all (Tryz.pinned.checked.prog.readableRec ·) = true := by kernel_rfl
theorem jn_4 : namedTie Tryz.pinned.checked.prog Rows.worldNobodyRow.named Rows.worldNobodySpec.vars = true := by kernel_rfl
theorem jn_5 : (Rows.worldNobodyRow.stops == []) = true := by kernel_rfl
theorem jn_6 : (Tryz.pinned.checked.prog.stops == []) = true := by kernel_rfl
theorem jn_7 : (Rows.worldNobodyRow.knobs == []) = true := by kernel_rfl
theorem jn_8 : (Tryz.pinned.checked.prog.stopKnobs == []) = true := by kernel_rfl
theorem jn_9 : (Rows.worldNobodyRow.inPlace == Tryz.pinned.checked.prog.inPlace 3) = true := by kernel_rfl
theorem jn_10 : (Rows.worldNobodyRow.unfollowed == Tryz.pinned.checked.prog.unfollowed 3) = true := by kernel_rfl
theorem jn_11 : (Rows.worldNobodyRow.recurses == Tryz.pinned.checked.prog.recurses 3) = true := by kernel_rfl
theorem jn_12 : (Rows.worldNobodyRow.named == Tryz.pinned.checked.prog.varsNamed 3) = true := by kernel_rfl
theorem jn_13 : (Rows.worldNobodyRow.maps == (Tryz.f3.params.toList ++ Rows.worldNobodySpec.plain.varTypes Tryz.pinned.checked.prog).any (Tryz.pinned.checked.prog.mapsRec ·)) = true := by kernel_rfl
theorem jn_14 : (Rows.worldNobodyRow.ifaces == (Tryz.f3.params.toList ++ Rows.worldNobodySpec.plain.varTypes Tryz.pinned.checked.prog).any (Tryz.pinned.checked.prog.ifacesRec ·)) = true := by kernel_rfl
theorem jn_15 : (Rows.worldNobodyRow.mapsOut == Tryz.pinned.checked.prog.mapsAmong Tryz.f3.resultTypes.toList) = true := by kernel_rfl
theorem jn_16 : (Rows.worldNobodyRow.loops == (Tryz.f3.params.toList ++ Rows.worldNobodySpec.plain.varTypes Tryz.pinned.checked.prog).any (Tryz.pinned.checked.prog.loopsFrom ·)) = true := by kernel_rfl
theorem jn_17 : (Rows.worldNobodyRow.wideKeys == (Tryz.f3.params.toList ++ Rows.worldNobodySpec.plain.varTypes Tryz.pinned.checked.prog ++ Tryz.f3.resultTypes.toList).any (Tryz.pinned.checked.prog.wideKeysFrom ·)) = true := by kernel_rfl
theorem jn_18 : Rows.worldNobodySpec.vars.all (Tryz.pinned.checked.prog.varReadable ·) = true := by kernel_rfl
theorem jn_19 : Tryz.f3.resultTypes.all (fun t => Tryz.pinned.checked.prog.readableRec t && decide (t < Tryz.pinned.checked.prog.types.size)) = true := by kernel_rfl
theorem jn_20 : (Rows.worldNobodyRow.ifacesOut == Tryz.f3.resultTypes.toList.any (Tryz.pinned.checked.prog.ifacesRec ·)) = true := by kernel_rfl
theorem jn_21 : (Rows.worldNobodyRow.loopsOut == Tryz.f3.resultTypes.toList.any (Tryz.pinned.checked.prog.loopsFrom ·)) = true := by kernel_rfl
theorem jn_22 : (Rows.worldNobodyRow.plainKeys == Tryz.pinned.checked.prog.plainKeys) = true := by kernel_rfl
theorem jn_23 : Rows.worldNobodyRow.shortTexts.isNone = true := by kernel_rfl
theorem jn_24 : Tryz.pinned.checked.prog.stopsHeard = true := by kernel_rfl
theorem jn_25 : Tryz.pinned.checked.prog.mayEnter = true := by kernel_rfl
theorem jn_26 : (Rows.worldNobodyRow.lifted == Tryz.pinned.checked.prog.liftsFinal) = true := by kernel_rfl
theorem jn_27 : (Tryz.pinned.checked.prog.make == some Rows.worldNobodyRow.make) = true := by kernel_rfl
theorem jn_28 : (Rows.worldNobodyRow.kinds == (if Rows.worldNobodyRow.domain.isEmpty then [] else Tryz.f3.params.toList.map fun t => match Tryz.pinned.checked.prog.underlying t with | some (.int k) => some k | _ => none)) = true := by kernel_rfl
theorem jn_29 : (Rows.worldNobodyRow.pinned == Rows.worldNobodyRow.pinnedBy) = true := by kernel_rfl
theorem jn_30 : (Rows.worldNobodyRow.veiled == (Tryz.f3.params.toList ++ Rows.worldNobodySpec.plain.varTypes Tryz.pinned.checked.prog ++ Tryz.f3.resultTypes.toList).any (Tryz.pinned.checked.prog.veiledRec ·)) = true := by kernel_rfl
theorem jn_31 : Rows.worldNobodyRow.veiledFits Tryz.pinned.checked.prog Tryz.f3.params.toList (Tryz.f3.params.toList ++ Rows.worldNobodySpec.plain.varTypes Tryz.pinned.checked.prog ++ Tryz.f3.resultTypes.toList) = true := by kernel_rfl
end Go.Proofs.YtmlianelfokkoaaGreat
