/- The row's own conditions, 2. -/
import Derived.Test.YtifoekadjnlhcaaGreatDoorMA
import Derived.Test.YtifoekadjnlhcaaGreatDoorCards
namespace Go.Proofs.YtifoekadjnlhcaaGreatDoor
open Go.ChangeShapes Go.WideShapes Go.ChangeAt Go.RowKit
theorem over_inst : Tryz.f4.isInstance Tryz.pinned.checked.prog Rows.consoleTellsRow.origin Rows.consoleTellsRow.targs := of_decide_eq_true (by kernel_rfl)
theorem over_named : Tryz.pinned.checked.prog.funcNamed Rows.consoleTellsRow.func = some 4 := by kernel_rfl
theorem over_wrap : Tryz.f4.isWrapper Tryz.pinned.checked.prog Rows.consoleTellsRow.wrapper Rows.consoleTellsRow.mainSum := by unfold Func.isWrapper; first | (rw [if_pos (by decide +kernel)]; kernel_rfl) | (rw [if_neg (by decide +kernel)]; exact ⟨rfl, rfl⟩)
theorem card_wf : Rows.consoleTellsRow.wfByText (OpenSpec.ofChange Rows.consoleTellsSpec) = true := by kernel_rfl
theorem card_named : Tryz.pinned.checked.prog.funcNamed Rows.consoleTellsRow.func = some 4 := by kernel_rfl
end Go.Proofs.YtifoekadjnlhcaaGreatDoor
