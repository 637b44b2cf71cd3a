/- The call of MirrorNobody, run by the engine in the kernel, 2. -/
import Derived.Test.YtepdkcikkemieaaGreatMr1
namespace Go.Proofs.YtepdkcikkemieaaGreat
set_option linter.unusedVariables false
namespace Ev
set_option maxRecDepth 100000
theorem lessIndex_run : isOk (callS Tryz.prog fnA (exec Tryz.prog fnA 3000) [] 3 [.agg ⟨[.float .f64 14621507953634074602617417607189889029, .float .f64 89202980794122492556471466533676412626272268, .float .f64 178405961588244985122614339624269858650193940, .float .f64 178405961588244985122614339624269858650193948, .float .f64 178405961588244985122614339624269858650193956]⟩] Heap.empty) (.bool true) = true := by kernel_rfl
theorem moreIndex_run : isOk (callS Tryz.prog fnA (exec Tryz.prog fnA 3000) [] 3 [.agg ⟨[.float .f64 14621507953634074602617417607189889029, .float .f64 178405961588244985127450042902728375353212940, .float .f64 178405961588244985122614339624269858650193940, .float .f64 178405961588244985122614339624269858650193948, .float .f64 178405961588244985122614339624269858650193956]⟩] Heap.empty) (.bool true) = true := by kernel_rfl
theorem lessProducer_run : isOk (callS Tryz.prog fnA (exec Tryz.prog fnA 3000) [] 3 [.agg ⟨[.float .f64 14621507953634074602617417607189889029, .float .f64 89202980794122492638678422267471196506292236, .float .f64 89202980794122492566142873090593446023921684, .float .f64 178405961588244985122614339624269858650193948, .float .f64 178405961588244985122614339624269858650193956]⟩] Heap.empty) (.bool true) = true := by kernel_rfl
end Ev
end Go.Proofs.YtepdkcikkemieaaGreat
