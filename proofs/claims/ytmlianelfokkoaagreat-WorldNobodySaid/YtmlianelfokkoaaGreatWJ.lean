/- WorldNobody, zones 60 to 64. -/
import Derived.Test.YtmlianelfokkoaaGreatWB
namespace Go.Proofs.YtmlianelfokkoaaGreat
set_option linter.unusedVariables false
set_option maxRecDepth 100000
namespace Ev
theorem z60_run : zr (.int .i64 60) = true := by kernel_rfl
theorem z61_run : zr (.int .i64 61) = true := by kernel_rfl
theorem z62_run : zr (.int .i64 62) = true := by kernel_rfl
theorem z63_run : zr (.int .i64 63) = true := by kernel_rfl
theorem z64_run : zr (.int .i64 64) = true := by kernel_rfl
end Ev
end Go.Proofs.YtmlianelfokkoaaGreat
