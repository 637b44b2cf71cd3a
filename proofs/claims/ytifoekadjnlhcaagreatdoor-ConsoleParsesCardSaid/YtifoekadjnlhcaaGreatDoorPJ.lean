/- The row's own conditions, 2. -/
import Derived.Test.YtifoekadjnlhcaaGreatDoorMA
import Derived.Test.YtifoekadjnlhcaaGreatDoorCards
namespace Go.Proofs.YtifoekadjnlhcaaGreatDoor
open Go.ChangeShapes Go.WideShapes Go.ChangeAt Go.RowKit
theorem over_inst : Tryz.f3.isInstance Tryz.pinned.checked.prog Rows.consoleParsesRow.origin Rows.consoleParsesRow.targs := of_decide_eq_true (by kernel_rfl)
theorem over_named : Tryz.pinned.checked.prog.funcNamed Rows.consoleParsesRow.func = some 3 := by kernel_rfl
theorem over_wrap : Tryz.f3.isWrapper Tryz.pinned.checked.prog Rows.consoleParsesRow.wrapper Rows.consoleParsesRow.mainSum := by unfold Func.isWrapper; first | (rw [if_pos (by decide +kernel)]; kernel_rfl) | (rw [if_neg (by decide +kernel)]; exact ⟨rfl, rfl⟩)
theorem card_wf : Rows.consoleParsesRow.wfByText (OpenSpec.ofChange Rows.consoleParsesSpec) = true := by kernel_rfl
theorem card_named : Tryz.pinned.checked.prog.funcNamed Rows.consoleParsesRow.func = some 3 := by kernel_rfl
end Go.Proofs.YtifoekadjnlhcaaGreatDoor
