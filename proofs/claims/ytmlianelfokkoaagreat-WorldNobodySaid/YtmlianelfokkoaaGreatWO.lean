/- The row's own conditions, 2. -/
import Derived.Test.YtmlianelfokkoaaGreatMA
namespace Go.Proofs.YtmlianelfokkoaaGreat
open Go.ChangeShapes Go.WideShapes Go.ChangeAt Go.RowKit
theorem over_inst : Tryz.f3.isInstance Tryz.pinned.checked.prog Rows.worldNobodyRow.origin Rows.worldNobodyRow.targs := of_decide_eq_true (by kernel_rfl)
theorem over_named : Tryz.pinned.checked.prog.funcNamed Rows.worldNobodyRow.func = some 3 := by kernel_rfl
theorem over_wrap : Tryz.f3.isWrapper Tryz.pinned.checked.prog Rows.worldNobodyRow.wrapper Rows.worldNobodyRow.mainSum := by unfold Func.isWrapper; first | (rw [if_pos (by decide +kernel)]; kernel_rfl) | (rw [if_neg (by decide +kernel)]; exact ⟨rfl, rfl⟩)
end Go.Proofs.YtmlianelfokkoaaGreat
