/- BrokerNobody behind Few, run by the engine in the kernel, 4. -/
import Derived.Test.YtmeflkagldebiaaGreatBB
namespace Go.Proofs.YtmeflkagldebiaaGreat
set_option linter.unusedVariables false
set_option maxRecDepth 100000
namespace Ev
theorem rbig_run : runB (.float .f64 89202980804507086288048231626112955381186596) (.float .f64 178405961588244985127450042903291325302964268) = true := by kernel_rfl
end Ev
end Go.Proofs.YtmeflkagldebiaaGreat
/- BrokerNobody behind Few, run by the engine in the kernel, 5. -/
namespace Go.Proofs.YtmeflkagldebiaaGreat
set_option linter.unusedVariables false
set_option maxRecDepth 100000
namespace Ev
theorem good_run : runB (.float .f64 89202980804507086288048231626112955381186596) (.float .f64 89202980804507086288048231626112955381186604) = true := by kernel_rfl
end Ev
end Go.Proofs.YtmeflkagldebiaaGreat
