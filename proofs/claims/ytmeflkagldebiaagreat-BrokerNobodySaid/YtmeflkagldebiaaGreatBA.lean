/- Law 24's closed case, run by the engine in the kernel. -/
import Derived.Test.YtmeflkagldebiaaGreatEN
import Derived.Test.YtmeflkagldebiaaGreatEL
namespace Go.Proofs.YtmeflkagldebiaaGreat
set_option linter.unusedVariables false
set_option maxRecDepth 100000
namespace Ev
noncomputable def fnP : Tab := ⟨fnT, smSum⟩
theorem fnP_ok : TabOk Tryz.prog fnP := sum_tab fnT_ok
def isOk (o : Option (Value × Heap)) (v : Value) : Bool := match o with | some (u, _) => beqV u v | none => false
theorem of_isOk {o : Option (Value × Heap)} {v : Value} (h : isOk o v = true) : ∃ H, o = some (v, H) := by
  unfold isOk at h
  split at h
  · next u H => exact ⟨H, by rw [beqV_eq u v h]⟩
  · cases h
theorem follows : Tryz.prog.follows .mixedOrders = true := by kernel_rfl
theorem awake_run : isOk (callS Tryz.prog fnP (exec Tryz.prog fnP 3000) [] 5 [] Heap.empty) (.bool true) = true := by kernel_rfl
end Ev
end Go.Proofs.YtmeflkagldebiaaGreat
