/- BrokerNobody behind Few, run by the engine in the kernel, 1. -/
import Derived.Test.YtmeflkagldebiaaGreatBB
namespace Go.Proofs.YtmeflkagldebiaaGreat
set_option linter.unusedVariables false
set_option maxRecDepth 100000
namespace Ev
theorem sneg_run : runB (.float .f64 89202980794122492556471466533676412626272292) (.float .f64 178405961588244985122614339624269858650193964) = true := by kernel_rfl
end Ev
end Go.Proofs.YtmeflkagldebiaaGreat
/- BrokerNobody behind Few, run by the engine in the kernel, 2. -/
namespace Go.Proofs.YtmeflkagldebiaaGreat
set_option linter.unusedVariables false
set_option maxRecDepth 100000
namespace Ev
theorem sbig_run : runB (.float .f64 178405961588244985127450042903291325302964260) (.float .f64 178405961588244985122614339624269858650193964) = true := by kernel_rfl
end Ev
end Go.Proofs.YtmeflkagldebiaaGreat
/- BrokerNobody behind Few, run by the engine in the kernel, 3. -/
namespace Go.Proofs.YtmeflkagldebiaaGreat
set_option linter.unusedVariables false
set_option maxRecDepth 100000
namespace Ev
theorem rneg_run : runB (.float .f64 89202980804507086288048231626112955381186596) (.float .f64 89202980794122492556471466533676412626272300) = true := by kernel_rfl
end Ev
end Go.Proofs.YtmeflkagldebiaaGreat
