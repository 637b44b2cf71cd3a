/- The call of AuditNobody, run by the engine in the kernel: the eighteen numbers as tokens, the closed case known beforehand. -/
import Derived.Test.YtnfgfjpbfccnoaaGreatAua
namespace Go.Proofs.YtnfgfjpbfccnoaaGreat
set_option linter.unusedVariables false
namespace Ev
noncomputable def fnA : Tab := withSm fnP 12 (.bool true)
theorem fnA_ok : TabOk Tryz.prog fnA := by
  obtain ⟨H, h⟩ := of_isOk awake_run
  exact TabOk.withSm follows fnP_ok 2000 h rfl
def nine (i : Nat) : Value := .agg ⟨[.float .f64 (8 * i + 1), .float .f64 (8 * (i + 1) + 1), .float .f64 (8 * (i + 2) + 1), .float .f64 (8 * (i + 3) + 1), .float .f64 (8 * (i + 4) + 1), .float .f64 (8 * (i + 5) + 1), .float .f64 (8 * (i + 6) + 1), .float .f64 (8 * (i + 7) + 1), .float .f64 (8 * (i + 8) + 1)]⟩
set_option maxRecDepth 100000
theorem aud_run : isOk (callS Tryz.prog fnA (exec Tryz.prog fnA 2000) [] 3 [nine 0, nine 9] Heap.empty) (.bool true) = true := by kernel_rfl
end Ev
end Go.Proofs.YtnfgfjpbfccnoaaGreat
