/- WorldNobody's runs. -/
import Derived.Test.YtmlianelfokkoaaGreatWA
namespace Go.Proofs.YtmlianelfokkoaaGreat
set_option linter.unusedVariables false
set_option maxRecDepth 100000
namespace Ev
noncomputable def fnA : Tab := withSm fnP 12 (.bool true)
theorem fnA_ok : TabOk Tryz.prog fnA := by
  obtain ⟨H, h⟩ := of_isOk awake_run
  exact TabOk.withSm follows fnP_ok 3000 h rfl
noncomputable def runW (z b s r : Value) : Bool := isOk (callS Tryz.prog fnA (exec Tryz.prog fnA 3000) [] 3 [z, b, .agg ⟨[.float .f64 0, .float .f64 8, .float .f64 16, .float .f64 24, s, r]⟩] Heap.empty) (.bool true)
/-- All that is asked of zones and blocks; of one number of zones. -/
noncomputable def cr (z b : Value) : Bool :=
  runW z b (.float .f64 89202980794122492556471466533676412626272292) (.float .f64 178405961588244985122614339624269858650193964) && (runW z b (.float .f64 178405961588244985127450042903291325302964260) (.float .f64 178405961588244985122614339624269858650193964) && (runW z b (.float .f64 89202980804507086288048231626112955381186596) (.float .f64 89202980794122492556471466533676412626272300) && (runW z b (.float .f64 89202980804507086288048231626112955381186596) (.float .f64 178405961588244985127450042903291325302964268) && runW z b (.float .f64 89202980804507086288048231626112955381186596) (.float .f64 89202980804507086288048231626112955381186604))))
noncomputable def zr (z : Value) : Bool := cr z (.float .f64 89202980794122495046858654939812512523092028)
end Ev
end Go.Proofs.YtmlianelfokkoaaGreat
/- WorldNobody, out of bounds. -/
namespace Go.Proofs.YtmlianelfokkoaaGreat
set_option linter.unusedVariables false
set_option maxRecDepth 100000
namespace Ev
theorem zneg_run : cr (.float .f64 89202980794122492595157092761344546216869940) (.float .f64 178405961588244985122614339624269858650193980) = true := by kernel_rfl
theorem zbig_run : cr (.float .f64 178405961588244985127450042902728375383097396) (.float .f64 178405961588244985122614339624269858650193980) = true := by kernel_rfl
theorem bneg_run : cr (.float .f64 89202980794122493189948596011742100174405684) (.float .f64 89202980794122492595157092761344546216869948) = true := by kernel_rfl
theorem bbig_run : cr (.float .f64 89202980794122493189948596011742100174405684) (.float .f64 178405961588244985127450042902728375483760700) = true := by kernel_rfl
end Ev
end Go.Proofs.YtmlianelfokkoaaGreat
