/- WorldNobody, zones 36 to 43. -/
import Derived.Test.YtmlianelfokkoaaGreatWB
namespace Go.Proofs.YtmlianelfokkoaaGreat
set_option linter.unusedVariables false
set_option maxRecDepth 100000
namespace Ev
theorem z36_run : zr (.int .i64 36) = true := by kernel_rfl
theorem z37_run : zr (.int .i64 37) = true := by kernel_rfl
theorem z38_run : zr (.int .i64 38) = true := by kernel_rfl
theorem z39_run : zr (.int .i64 39) = true := by kernel_rfl
theorem z40_run : zr (.int .i64 40) = true := by kernel_rfl
theorem z41_run : zr (.int .i64 41) = true := by kernel_rfl
theorem z42_run : zr (.int .i64 42) = true := by kernel_rfl
theorem z43_run : zr (.int .i64 43) = true := by kernel_rfl
end Ev
end Go.Proofs.YtmlianelfokkoaaGreat
