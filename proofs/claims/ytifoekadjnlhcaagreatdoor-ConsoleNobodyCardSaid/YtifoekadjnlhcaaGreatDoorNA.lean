/- Law 28's closed case, run by the engine in the kernel. -/
import Derived.Test.YtifoekadjnlhcaaGreatDoorMZ
namespace Go.Proofs.YtifoekadjnlhcaaGreatDoor
set_option linter.unusedVariables false
set_option maxRecDepth 100000
namespace Ev
theorem awake_run : isOk (callS Tryz.prog fnC (exec Tryz.prog fnC 3000) [] 6 [] Heap.empty) (.bool true) = true := by kernel_rfl
end Ev
theorem awake28 (W : World) : Calls Tryz.prog 6 #[] W fun e w' => e = .returned (.bool true) ∧ More W w' := by
  obtain ⟨H, h⟩ := Ev.of_isOk Ev.awake_run
  exact Ev.call_more Ev.follows Ev.fnC_ok 3000 h rfl (fun _ => none) rfl W
end Go.Proofs.YtifoekadjnlhcaaGreatDoor
