/- The row's own conditions, 2. -/
import Derived.Test.YtifoekadjnlhcaaGreatDoorMA
import Derived.Test.YtifoekadjnlhcaaGreatDoorCards
namespace Go.Proofs.YtifoekadjnlhcaaGreatDoor
open Go.ChangeShapes Go.WideShapes Go.ChangeAt Go.RowKit
theorem over_inst : Tryz.f5.isInstance Tryz.pinned.checked.prog Rows.consoleNobodyRow.origin Rows.consoleNobodyRow.targs := of_decide_eq_true (by kernel_rfl)
theorem over_named : Tryz.pinned.checked.prog.funcNamed Rows.consoleNobodyRow.func = some 5 := by kernel_rfl
theorem over_wrap : Tryz.f5.isWrapper Tryz.pinned.checked.prog Rows.consoleNobodyRow.wrapper Rows.consoleNobodyRow.mainSum := by unfold Func.isWrapper; first | (rw [if_pos (by decide +kernel)]; kernel_rfl) | (rw [if_neg (by decide +kernel)]; exact ⟨rfl, rfl⟩)
end Go.Proofs.YtifoekadjnlhcaaGreatDoor
/- The card's own facts. -/
namespace Go.Proofs.YtifoekadjnlhcaaGreatDoor
open Go.ChangeShapes Go.WideShapes Go.ChangeAt Go.RowKit
theorem card_wf : Rows.consoleNobodyRow.wfByText (OpenSpec.ofChange Rows.consoleNobodySpec) = true := by kernel_rfl
theorem card_named : Tryz.pinned.checked.prog.funcNamed Rows.consoleNobodyRow.func = some 5 := by kernel_rfl
end Go.Proofs.YtifoekadjnlhcaaGreatDoor
