/- WorldNobody, zones 28 to 35. -/
import Derived.Test.YtmlianelfokkoaaGreatWB
namespace Go.Proofs.YtmlianelfokkoaaGreat
set_option linter.unusedVariables false
set_option maxRecDepth 100000
namespace Ev
theorem z28_run : zr (.int .i64 28) = true := by kernel_rfl
theorem z29_run : zr (.int .i64 29) = true := by kernel_rfl
theorem z30_run : zr (.int .i64 30) = true := by kernel_rfl
theorem z31_run : zr (.int .i64 31) = true := by kernel_rfl
theorem z32_run : zr (.int .i64 32) = true := by kernel_rfl
theorem z33_run : zr (.int .i64 33) = true := by kernel_rfl
theorem z34_run : zr (.int .i64 34) = true := by kernel_rfl
theorem z35_run : zr (.int .i64 35) = true := by kernel_rfl
end Ev
end Go.Proofs.YtmlianelfokkoaaGreat
