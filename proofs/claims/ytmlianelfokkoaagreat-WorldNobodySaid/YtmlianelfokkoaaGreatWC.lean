/- WorldNobody, zones 4 to 11. -/
import Derived.Test.YtmlianelfokkoaaGreatWB
namespace Go.Proofs.YtmlianelfokkoaaGreat
set_option linter.unusedVariables false
set_option maxRecDepth 100000
namespace Ev
theorem z4_run : zr (.int .i64 4) = true := by kernel_rfl
theorem z5_run : zr (.int .i64 5) = true := by kernel_rfl
theorem z6_run : zr (.int .i64 6) = true := by kernel_rfl
theorem z7_run : zr (.int .i64 7) = true := by kernel_rfl
theorem z8_run : zr (.int .i64 8) = true := by kernel_rfl
theorem z9_run : zr (.int .i64 9) = true := by kernel_rfl
theorem z10_run : zr (.int .i64 10) = true := by kernel_rfl
theorem z11_run : zr (.int .i64 11) = true := by kernel_rfl
end Ev
end Go.Proofs.YtmlianelfokkoaaGreat
