/- WorldNobody, zones 12 to 19. -/
import Derived.Test.YtmlianelfokkoaaGreatWB
namespace Go.Proofs.YtmlianelfokkoaaGreat
set_option linter.unusedVariables false
set_option maxRecDepth 100000
namespace Ev
theorem z12_run : zr (.int .i64 12) = true := by kernel_rfl
theorem z13_run : zr (.int .i64 13) = true := by kernel_rfl
theorem z14_run : zr (.int .i64 14) = true := by kernel_rfl
theorem z15_run : zr (.int .i64 15) = true := by kernel_rfl
theorem z16_run : zr (.int .i64 16) = true := by kernel_rfl
theorem z17_run : zr (.int .i64 17) = true := by kernel_rfl
theorem z18_run : zr (.int .i64 18) = true := by kernel_rfl
theorem z19_run : zr (.int .i64 19) = true := by kernel_rfl
end Ev
end Go.Proofs.YtmlianelfokkoaaGreat
