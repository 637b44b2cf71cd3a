/- The row's own conditions, part 2. -/
import Derived.Test.YtmeflkagldebiaaGreatMA
namespace Go.Proofs.YtmeflkagldebiaaGreat
open Go.ChangeShapes Go.WideShapes Go.ChangeAt Go.RowKit
theorem jn_0 : Rows.brokerNobodyRow.wf (OpenSpec.ofChange Rows.brokerNobodySpec) = true := by kernel_rfl
theorem jn_3 : Tryz.f3.params.all (Tryz.pinned.checked.prog.readableRec ·) = true := by kernel_rfl
theorem jn_4 : namedTie Tryz.pinned.checked.prog Rows.brokerNobodyRow.named Rows.brokerNobodySpec.vars = true := by kernel_rfl
theorem jn_5 : (Rows.brokerNobodyRow.stops == []) = true := by kernel_rfl
theorem jn_6 : (Tryz.pinned.checked.prog.stops == []) = true := by kernel_rfl
theorem jn_7 : (Rows.brokerNobodyRow.knobs == []) = true := by kernel_rfl
theorem jn_8 : (Tryz.pinned.checked.prog.stopKnobs == []) = true := by kernel_rfl
theorem jn_9 : (Rows.brokerNobodyRow.inPlace == Tryz.pinned.checked.prog.inPlace 3) = true := by kernel_rfl
theorem jn_10 : (Rows.brokerNobodyRow.unfollowed == Tryz.pinned.checked.prog.unfollowed 3) = true := by kernel_rfl
theorem jn_11 : (Rows.brokerNobodyRow.recurses == Tryz.pinned.checked.prog.recurses 3) = true := by kernel_rfl
theorem jn_12 : (Rows.brokerNobodyRow.named == Tryz.pinned.checked.prog.varsNamed 3) = true := by kernel_rfl
theorem jn_13 : (Rows.brokerNobodyRow.maps == (Tryz.f3.params.toList ++ Rows.brokerNobodySpec.plain.varTypes Tryz.pinned.checked.prog).any (Tryz.pinned.checked.prog.mapsRec ·)) = true := by kernel_rfl
theorem jn_14 : (Rows.brokerNobodyRow.ifaces == (Tryz.f3.params.toList ++ Rows.brokerNobodySpec.plain.varTypes Tryz.pinned.checked.prog).any (Tryz.pinned.checked.prog.ifacesRec ·)) = true := by kernel_rfl
theorem jn_15 : (Rows.brokerNobodyRow.mapsOut == Tryz.pinned.checked.prog.mapsAmong Tryz.f3.resultTypes.toList) = true := by kernel_rfl
theorem jn_16 : (Rows.brokerNobodyRow.loops == (Tryz.f3.params.toList ++ Rows.brokerNobodySpec.plain.varTypes Tryz.pinned.checked.prog).any (Tryz.pinned.checked.prog.loopsFrom ·)) = true := by kernel_rfl
theorem jn_17 : (Rows.brokerNobodyRow.wideKeys == (Tryz.f3.params.toList ++ Rows.brokerNobodySpec.plain.varTypes Tryz.pinned.checked.prog ++ Tryz.f3.resultTypes.toList).any (Tryz.pinned.checked.prog.wideKeysFrom ·)) = true := by kernel_rfl
theorem jn_18 : Rows.brokerNobodySpec.vars.all (Tryz.pinned.checked.prog.varReadable ·) = true := by kernel_rfl
theorem jn_19 : Tryz.f3.resultTypes.all (fun t => Tryz.pinned.checked.prog.readableRec t && decide (t < Tryz.pinned.checked.prog.types.size)) = true := by kernel_rfl
theorem jn_20 : (Rows.brokerNobodyRow.ifacesOut == Tryz.f3.resultTypes.toList.any (Tryz.pinned.checked.prog.ifacesRec ·)) = true := by kernel_rfl
theorem jn_21 : (Rows.brokerNobodyRow.loopsOut == Tryz.f3.resultTypes.toList.any (Tryz.pinned.checked.prog.loopsFrom ·)) = true := by kernel_rfl
theorem jn_22 : (Rows.brokerNobodyRow.plainKeys == Tryz.pinned.checked.prog.plainKeys) = true := by kernel_rfl
theorem jn_23 : Rows.brokerNobodyRow.shortTexts.isNone = true := by kernel_rfl
theorem jn_24 : Tryz.pinned.checked.prog.stopsHeard = true := by kernel_rfl
theorem jn_25 : Tryz.pinned.checked.prog.mayEnter = true := by kernel_rfl
theorem jn_26 : (Rows.brokerNobodyRow.lifted == Tryz.pinned.checked.prog.liftsFinal) = true := by kernel_rfl
theorem jn_27 : (Tryz.pinned.checked.prog.make == some Rows.brokerNobodyRow.make) = true := by kernel_rfl
theorem jn_28 : (Rows.brokerNobodyRow.kinds == (if Rows.brokerNobodyRow.domain.isEmpty then [] else Tryz.f3.params.toList.map fun t => match Tryz.pinned.checked.prog.underlying t with | some (.int k) => some k | _ => none)) = true := by kernel_rfl
theorem jn_29 : (Rows.brokerNobodyRow.pinned == Rows.brokerNobodyRow.pinnedBy) = true := by kernel_rfl
theorem jn_30 : (Rows.brokerNobodyRow.veiled == (Tryz.f3.params.toList ++ Rows.brokerNobodySpec.plain.varTypes Tryz.pinned.checked.prog ++ Tryz.f3.resultTypes.toList).any (Tryz.pinned.checked.prog.veiledRec ·)) = true := by kernel_rfl
theorem jn_31 : Rows.brokerNobodyRow.veiledFits Tryz.pinned.checked.prog Tryz.f3.params.toList (Tryz.f3.params.toList ++ Rows.brokerNobodySpec.plain.varTypes Tryz.pinned.checked.prog ++ Tryz.f3.resultTypes.toList) = true := by kernel_rfl
end Go.Proofs.YtmeflkagldebiaaGreat
