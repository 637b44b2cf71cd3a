/- Law 18's closed case, run by the engine in the kernel. -/
import Derived.Test.YtmpioigdjaoknaaGreatFvc
namespace Go.Proofs.YtmpioigdjaoknaaGreat
set_option linter.unusedVariables false
namespace Ev
noncomputable def fnP : Tab := ⟨fun f => Tryz.prog.funcs[f]?, fun _ _ _ => none⟩
theorem fnP_ok : TabOk Tryz.prog fnP := ⟨fun f F h => h, fun f args H v h => by cases h⟩
def isOk (o : Option (Value × Heap)) (v : Value) : Bool := match o with | some (u, _) => beqV u v | none => false
theorem of_isOk {o : Option (Value × Heap)} {v : Value} (h : isOk o v = true) : ∃ H, o = some (v, H) := by
  unfold isOk at h
  split at h
  · next u H => exact ⟨H, by rw [beqV_eq u v h]⟩
  · cases h
theorem follows : Tryz.prog.follows .mixedOrders = true := by kernel_rfl
set_option maxRecDepth 100000
theorem awake_run : isOk (callS Tryz.prog fnP (exec Tryz.prog fnP 2000) [] 19 [] Heap.empty) (.bool true) = true := by kernel_rfl
end Ev
end Go.Proofs.YtmpioigdjaoknaaGreat
