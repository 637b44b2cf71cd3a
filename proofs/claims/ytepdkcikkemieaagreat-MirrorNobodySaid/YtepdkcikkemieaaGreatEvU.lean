/- THE ENGINE, 21: what an operation does hangs on its operands alone. -/
import Derived.Test.YtepdkcikkemieaaGreatEvT
noncomputable section
namespace Go.Proofs.YtepdkcikkemieaaGreat
open Go.RowKit
set_option linter.unusedVariables false
set_option linter.unusedSimpArgs false
namespace Ev

section
variable {P : Program} {ρ ρ' : Operand → Option Value} {H : Heap}
theorem valsV_congr : ∀ (l : List Operand), (∀ x ∈ l, ρ x = ρ' x) → valsV ρ l = valsV ρ' l
  | [], _ => rfl
  | x :: l, h => by simp only [valsV_cons, h x (by simp), valsV_congr l fun y hy => h y (by simp [hy])]
theorem partsV_congr : ∀ (l : List (Nat × Operand)), (∀ p ∈ l, ρ p.2 = ρ' p.2) → partsV ρ l = partsV ρ' l
  | [], _ => rfl
  | (i, x) :: l, h => by simp only [partsV, h (i, x) (by simp), partsV_congr l fun y hy => h y (by simp [hy])]
theorem optV_congr : ∀ (x : Option Operand), (∀ y, x = some y → ρ y = ρ' y) → optV ρ x = optV ρ' x
  | none, _ => rfl
  | some x, h => by simp only [optV, h x rfl]
theorem call_ops (c : Call) : (Op.call c).operands = c.operands := rfl
theorem args_in {c : Call} {x : Operand} (h : x ∈ c.args.toList) : x ∈ (Op.call c).operands := by
  rw [call_ops]; unfold Call.operands; simp at h ⊢; exact .inr h
theorem evP_congr (op : Op) (h : ∀ x ∈ op.operands, ρ x = ρ' x) : evP P ρ op = evP P ρ' op := by
  unfold evP
  cases op
  case call c =>
    simp only []
    cases hc : c.callee <;> simp only []
    rw [valsV_congr c.args.toList fun x hx => h x (args_in hx)]
  case makeFunc fn first captured =>
    cases fn <;> simp only []
    rw [valsV_congr first.toList fun x hx => h x (by simp [Op.operands] at hx ⊢; exact .inl hx), valsV_congr captured.toList fun x hx => h x (by simp [Op.operands] at hx ⊢; exact .inr hx)]
  case build t ps =>
    simp only []
    rw [partsV_congr ps.toList fun p hp => h p.2 (by simp only [Op.operands, List.mem_toArray, List.mem_map]; exact ⟨p, hp, rfl⟩)]
  case slice t x lo hi mx =>
    simp only []
    rw [h x (by simp [Op.operands]), optV_congr lo fun y hy => h y (by subst hy; simp [Op.operands]), optV_congr hi fun y hy => h y (by subst hy; simp [Op.operands]), optV_congr mx fun y hy => h y (by subst hy; simp [Op.operands])]
  case pick c a b => simp only []; rw [h c (by simp [Op.operands]), h a (by simp [Op.operands]), h b (by simp [Op.operands])]
  case binOp op t x y yt => simp only []; rw [h x (by simp [Op.operands]), h y (by simp [Op.operands])]
  case indexAddr t x y => simp only []; rw [h x (by simp [Op.operands]), h y (by simp [Op.operands])]
  case index t x y => simp only []; rw [h x (by simp [Op.operands]), h y (by simp [Op.operands])]
  all_goals first
    | rfl
    | (next x => simp only []; rw [h x (by simp [Op.operands])])
    | (next _ x => simp only []; rw [h x (by simp [Op.operands])])
    | (next x _ => simp only []; rw [h x (by simp [Op.operands])])
    | (next _ x _ => simp only []; rw [h x (by simp [Op.operands])])
    | (next _ _ x => simp only []; rw [h x (by simp [Op.operands])])
theorem evR_congr (op : Op) (h : ∀ x ∈ op.operands, ρ x = ρ' x) : evR P ρ H op = evR P ρ' H op := by
  unfold evR
  cases op
  case call c =>
    cases hc : c.callee with
    | value f => simp only [hc]
    | invoke r m => simp only [hc]
    | builtin b =>
      cases b <;> (try (simp only [hc]; done))
      simp only [hc]
      cases ha : c.args.toList with
      | nil => rfl
      | cons x l =>
        cases l with
        | nil =>
          cases ht : c.argTypes.toList with
          | nil => rfl
          | cons t ts => simp only []; rw [h x (args_in (by rw [ha]; simp))]
        | cons y l => rfl
  case lookup t x y ok => simp only []; rw [h x (by simp [Op.operands]), h y (by simp [Op.operands])]
  all_goals first
    | rfl
    | (next _ x => simp only []; rw [h x (by simp [Op.operands])])
    | (next _ _ x => simp only []; rw [h x (by simp [Op.operands])])
theorem evRd_congr (op : Op) (h : ∀ x ∈ op.operands, ρ x = ρ' x) : evRd P ρ H op = evRd P ρ' H op := by
  unfold evRd
  cases op
  case entry x => simp only []; rw [h x (by simp [Op.operands])]
  all_goals exact evR_congr _ h
theorem evN_congr (op : Op) (h : ∀ x ∈ op.operands, ρ x = ρ' x) : evN P ρ op = evN P ρ' op := by
  unfold evN
  cases op
  case buildSlice t n ps =>
    simp only []
    rw [partsV_congr ps.toList fun p hp => h p.2 (by simp only [Op.operands, List.mem_toArray, List.mem_map]; exact ⟨p, hp, rfl⟩)]
  case makeMap t r => simp only []; rw [optV_congr r fun y hy => h y (by subst hy; simp [Op.operands])]
  case makeSlice t x y => simp only []; rw [h x (by simp [Op.operands]), h y (by simp [Op.operands])]
  all_goals first
    | rfl
    | (next _ x => simp only []; rw [h x (by simp [Op.operands])])
    | (next _ _ x => simp only []; rw [h x (by simp [Op.operands])])
theorem evE_congr (op : Op) (h : ∀ x ∈ op.operands, ρ x = ρ' x) : evE P ρ H op = evE P ρ' H op := by
  unfold evE
  cases op
  case call c =>
    simp only []
    cases hc : c.callee <;> simp only []
    rw [valsV_congr c.args.toList fun x hx => h x (args_in hx)]
  case store t x y => simp only []; rw [h x (by simp [Op.operands]), h y (by simp [Op.operands])]
  case mapUpdate t x y z => simp only []; rw [h x (by simp [Op.operands]), h y (by simp [Op.operands]), h z (by simp [Op.operands])]
  case insert t x y z => simp only []; rw [h x (by simp [Op.operands]), h y (by simp [Op.operands]), h z (by simp [Op.operands])]
  all_goals first
    | rfl
    | (next _ x => simp only []; rw [h x (by simp [Op.operands])])
    | (next x _ => simp only []; rw [h x (by simp [Op.operands])])
theorem evOp_congr (op : Op) (h : ∀ x ∈ op.operands, ρ x = ρ' x) : evOp P ρ H op = evOp P ρ' H op := by
  unfold evOp
  rw [evP_congr op h, evRd_congr op h, evN_congr op h, evE_congr op h]
theorem runOp_congr {callF : Caller} (op : Op) (h : ∀ x ∈ op.operands, ρ x = ρ' x) : runOp P callF ρ H op = runOp P callF ρ' H op := by
  unfold runOp
  cases op
  case call c =>
    simp only []
    have : calleeV ρ c = calleeV ρ' c := by
      unfold calleeV
      cases hc : c.callee <;> simp only []
      next f =>
      rw [valsV_congr c.args.toList fun x hx => h x (args_in hx), h f (by rw [call_ops]; unfold Call.operands; rw [hc]; simp)]
    have that : yieldV ρ c = yieldV ρ' c := by
      unfold yieldV
      cases hc : c.callee <;> simp only []
      next f =>
      rw [valsV_congr c.args.toList fun x hx => h x (args_in hx), h f (by rw [call_ops]; unfold Call.operands; rw [hc]; simp)]
    rw [this, that, evOp_congr _ h]
  all_goals exact evOp_congr _ h
theorem wantedV_congr {ops : Array Oper} {o : Oper} {T T' : Tr Value} (h : ∀ t ∈ o.looksAt ops, (T.get t).getD undef = (T'.get t).getD undef) : wantedV ops T o.guard = wantedV ops T' o.guard := by
  unfold wantedV
  cases hg : o.guard with
  | none => rfl
  | some g =>
    obtain ⟨j, want⟩ := g
    simp only []
    cases ho : ops.toList[j]? with
    | none => rfl
    | some o' =>
      simp only []
      cases hd : o'.dst with
      | none => rfl
      | some d =>
        simp only []
        have ho' : ops[j]? = some o' := by simpa using ho
        rw [h d (by unfold Oper.looksAt; rw [hg]; simp [ho', hd])]
/-- The operands' slots are among those looked at. -/
theorem tmp_looks {ops : Array Oper} {o : Oper} {t : Tmp} (h : Operand.tmp t ∈ o.op.operands) : t ∈ o.looksAt ops := by
  unfold Oper.looksAt
  rw [List.mem_append]
  left
  rw [List.mem_filterMap]
  exact ⟨.tmp t, by simpa using h, rfl⟩
end
end Ev
end Go.Proofs.YtepdkcikkemieaaGreat
