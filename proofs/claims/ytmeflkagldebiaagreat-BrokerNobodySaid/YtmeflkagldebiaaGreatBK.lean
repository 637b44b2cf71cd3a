/- The row's own conditions, 2. -/
import Derived.Test.YtmeflkagldebiaaGreatMA
namespace Go.Proofs.YtmeflkagldebiaaGreat
open Go.ChangeShapes Go.WideShapes Go.ChangeAt Go.RowKit
theorem over_inst : Tryz.f3.isInstance Tryz.pinned.checked.prog Rows.brokerNobodyRow.origin Rows.brokerNobodyRow.targs := of_decide_eq_true (by kernel_rfl)
theorem over_named : Tryz.pinned.checked.prog.funcNamed Rows.brokerNobodyRow.func = some 3 := by kernel_rfl
theorem over_wrap : Tryz.f3.isWrapper Tryz.pinned.checked.prog Rows.brokerNobodyRow.wrapper Rows.brokerNobodyRow.mainSum := by unfold Func.isWrapper; first | (rw [if_pos (by decide +kernel)]; kernel_rfl) | (rw [if_neg (by decide +kernel)]; exact ⟨rfl, rfl⟩)
end Go.Proofs.YtmeflkagldebiaaGreat
