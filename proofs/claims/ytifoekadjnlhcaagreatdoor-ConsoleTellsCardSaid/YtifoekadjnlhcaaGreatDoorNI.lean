/- The card's facts of the program: what it looks at. -/
import Derived.Test.YtifoekadjnlhcaaGreatDoorMA
import Derived.Test.YtifoekadjnlhcaaGreatDoorCards
namespace Go.Proofs.YtifoekadjnlhcaaGreatDoor
open Go.ChangeShapes Go.WideShapes Go.ChangeAt Go.RowKit
theorem card_looks : true = Tryz.pinned.checked.prog.looks [] := by kernel_rfl
theorem no_go : (Tryz.pinned.checked.prog.funcs.toList.all fun F => !F.goes) = true := by kernel_rfl
theorem goes_none (g : FuncId) : (Tryz.pinned.checked.prog.funcs[g]?).any Func.goes = false := by
  cases h : Tryz.pinned.checked.prog.funcs[g]? with
  | none => rfl
  | some F =>
    have hm : F ∈ Tryz.pinned.checked.prog.funcs.toList := by
      rw [← Array.getElem?_toList] at h
      exact List.mem_of_getElem? h
    have := List.all_eq_true.1 no_go F hm
    simpa using this
theorem goes_all (f : FuncId) : Tryz.pinned.checked.prog.goes f = false := by
  unfold Program.goes
  rw [Bool.or_eq_false_iff]
  refine ⟨?_, ?_⟩
  · rw [List.any_eq_false]
    intro g _
    rw [goes_none g]
    simp
  · rw [Bool.and_eq_false_iff]
    right
    rw [← Array.any_toList, List.any_eq_false]
    intro F hm
    have := List.all_eq_true.1 no_go F hm
    simpa using this
theorem goes_at {P : Program} (hP : ∀ f, P.goes f = false) (c : OpenClaim) (h : c.start = .entering) : false = c.goesBy P := by
  have e : ∀ o : Option FuncId, o.any P.goes = false := by
    intro o
    cases o with
    | none => rfl
    | some f => exact hP f
  unfold OpenClaim.goesBy Program.goesAt Program.goesFrom
  rw [e, h]
  rfl
theorem goes_by (c : OpenClaim) (h : c.start = .entering) : false = c.goesBy Tryz.pinned.checked.prog := goes_at goes_all c h
end Go.Proofs.YtifoekadjnlhcaaGreatDoor
