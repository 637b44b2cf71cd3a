/- The call of MirrorNobody, run by the engine in the kernel, 1. -/
import Derived.Test.YtepdkcikkemieaaGreatMra
namespace Go.Proofs.YtepdkcikkemieaaGreat
set_option linter.unusedVariables false
namespace Ev
noncomputable def fnA : Tab := withSm fnP 4 (.bool true)
theorem fnA_ok : TabOk Tryz.prog fnA := by
  obtain ⟨H, h⟩ := of_isOk awake_run
  exact TabOk.withSm follows fnP_ok 3000 h rfl
set_option maxRecDepth 100000
theorem long_run : isOk (callS Tryz.prog fnA (exec Tryz.prog fnA 3000) [] 3 [.agg ⟨[.float .f64 20769187434139310511870185661005829, .float .f64 178405961588244985122614339624269858650193932, .float .f64 178405961588244985122614339624269858650193940, .float .f64 178405961588244985122614339624269858650193948, .float .f64 178405961588244985122614339624269858650193956]⟩] Heap.empty) (.bool true) = true := by kernel_rfl
theorem empty_run : isOk (callS Tryz.prog fnA (exec Tryz.prog fnA 3000) [] 3 [.agg ⟨[.string ⟨#[]⟩, .float .f64 178405961588244985122614339624269858650193932, .float .f64 178405961588244985122614339624269858650193940, .float .f64 178405961588244985122614339624269858650193948, .float .f64 178405961588244985122614339624269858650193956]⟩] Heap.empty) (.bool true) = true := by kernel_rfl
theorem under_run : isOk (callS Tryz.prog fnA (exec Tryz.prog fnA 3000) [] 3 [.agg ⟨[.float .f64 3987683987354747619386961124947132421, .float .f64 178405961588244985122614339624269858650193932, .float .f64 178405961588244985122614339624269858650193940, .float .f64 178405961588244985122614339624269858650193948, .float .f64 178405961588244985122614339624269858650193956]⟩] Heap.empty) (.bool true) = true := by kernel_rfl
end Ev
end Go.Proofs.YtepdkcikkemieaaGreat
