/- WorldNobody, zones 52 to 59. -/
import Derived.Test.YtmlianelfokkoaaGreatWB
namespace Go.Proofs.YtmlianelfokkoaaGreat
set_option linter.unusedVariables false
set_option maxRecDepth 100000
namespace Ev
theorem z52_run : zr (.int .i64 52) = true := by kernel_rfl
theorem z53_run : zr (.int .i64 53) = true := by kernel_rfl
theorem z54_run : zr (.int .i64 54) = true := by kernel_rfl
theorem z55_run : zr (.int .i64 55) = true := by kernel_rfl
theorem z56_run : zr (.int .i64 56) = true := by kernel_rfl
theorem z57_run : zr (.int .i64 57) = true := by kernel_rfl
theorem z58_run : zr (.int .i64 58) = true := by kernel_rfl
theorem z59_run : zr (.int .i64 59) = true := by kernel_rfl
end Ev
end Go.Proofs.YtmlianelfokkoaaGreat
