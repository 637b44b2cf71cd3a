/- WorldNobody, zones 44 to 51. -/
import Derived.Test.YtmlianelfokkoaaGreatWB
namespace Go.Proofs.YtmlianelfokkoaaGreat
set_option linter.unusedVariables false
set_option maxRecDepth 100000
namespace Ev
theorem z44_run : zr (.int .i64 44) = true := by kernel_rfl
theorem z45_run : zr (.int .i64 45) = true := by kernel_rfl
theorem z46_run : zr (.int .i64 46) = true := by kernel_rfl
theorem z47_run : zr (.int .i64 47) = true := by kernel_rfl
theorem z48_run : zr (.int .i64 48) = true := by kernel_rfl
theorem z49_run : zr (.int .i64 49) = true := by kernel_rfl
theorem z50_run : zr (.int .i64 50) = true := by kernel_rfl
theorem z51_run : zr (.int .i64 51) = true := by kernel_rfl
end Ev
end Go.Proofs.YtmlianelfokkoaaGreat
