/- WorldNobody, zones 20 to 27. -/
import Derived.Test.YtmlianelfokkoaaGreatWB
namespace Go.Proofs.YtmlianelfokkoaaGreat
set_option linter.unusedVariables false
set_option maxRecDepth 100000
namespace Ev
theorem z20_run : zr (.int .i64 20) = true := by kernel_rfl
theorem z21_run : zr (.int .i64 21) = true := by kernel_rfl
theorem z22_run : zr (.int .i64 22) = true := by kernel_rfl
theorem z23_run : zr (.int .i64 23) = true := by kernel_rfl
theorem z24_run : zr (.int .i64 24) = true := by kernel_rfl
theorem z25_run : zr (.int .i64 25) = true := by kernel_rfl
theorem z26_run : zr (.int .i64 26) = true := by kernel_rfl
theorem z27_run : zr (.int .i64 27) = true := by kernel_rfl
end Ev
end Go.Proofs.YtmlianelfokkoaaGreat
