/- THE ENGINE, 5: operations that need no memory. -/
import Derived.Test.YtepdkcikkemieaaGreatEvD
noncomputable section
namespace Go.Proofs.YtepdkcikkemieaaGreat
open Go.RowKit
set_option linter.unusedVariables false
set_option linter.unusedSimpArgs false
namespace Ev

section
variable {P : Program} {w : World} {φ : Phi}
theorem underlying_run {t : TypeId} {d : TypeDesc} (h : P.underlying t = some d) : (underlying t).run P w = .ok d w := by
  unfold underlying program
  show (Sem.bind (.program .pure) _).run P w = _
  simp only [Sem.bind, Sem.run, h]
  rfl
theorem typeInfo_run {t : TypeId} {i : TypeInfo} (h : P.info? t = some i) : (typeInfo t).run P w = .ok i w := by
  unfold typeInfo program
  show (Sem.bind (.program .pure) _).run P w = _
  simp only [Sem.bind, Sem.run, h]
  rfl
theorem sizeOf_run {t : TypeId} {n : Nat} (h : (P.info? t).map (·.size) = some n) : (sizeOf t).run P w = .ok n w := by
  unfold Go.sizeOf
  cases hi : P.info? t with
  | none => rw [hi] at h; cases h
  | some i => rw [hi] at h; cases h; rw [bind_ok (typeInfo_run hi)]; rfl
theorem zeroValue_run {t : TypeId} {v : Value} (h : (P.info? t).bind (·.zero) = some v) : (zeroValue t).run P w = .ok v w := by
  unfold zeroValue
  cases hi : P.info? t with
  | none => rw [hi] at h; cases h
  | some i => rw [hi] at h; rw [bind_ok (typeInfo_run hi)]; simp at h; rw [h]; rfl
def tSize (P : Program) (t : TypeId) : Option Nat := (P.info? t).map (·.size)
def tAgg (P : Program) (t : TypeId) : Option Bool := match P.underlying t with
  | some (.struct _) => some true
  | some (.array _ _) => some true
  | some _ => some false
  | none => none
theorem isAgg_run {t : TypeId} {b : Bool} (h : tAgg P t = some b) : (isAgg t).run P w = .ok b w := by
  unfold isAgg
  unfold tAgg at h
  cases hu : P.underlying t with
  | none => rw [hu] at h; cases h
  | some d =>
    rw [hu] at h
    rw [bind_ok (underlying_run hu)]
    cases d <;> simp at h <;> subst h <;> rfl
/-- Cells without an address. -/
def plainS : Value → Bool
  | .bool _ => true
  | .int _ _ => true
  | .string _ => true
  | .nilFunc => true
  | .nilIface => true
  | .pointer none => true
  | .slice none _ _ => true
  | .map none => true
  | _ => false
def plainV : Value → Bool
  | .agg ⟨l⟩ => l.all plainS
  | v => plainS v
theorem conc_plainS {v : Value} (h : plainS v = true) : conc φ v = some v := by
  cases v <;> simp [plainS] at h <;> try rfl
  case pointer a => cases a <;> simp at h; rfl
  case slice a _ _ => cases a <;> simp at h; rfl
  case map a => cases a <;> simp at h; rfl
theorem concL_plain : ∀ {l : List Value}, l.all plainS = true → concL φ l = some l
  | [], _ => rfl
  | v :: l, h => by
    simp only [List.all_cons, Bool.and_eq_true] at h
    simp only [concL, conc_plainS h.1, concL_plain h.2]
theorem conc_plainV {v : Value} (h : plainV v = true) : conc φ v = some v := by
  cases v
  case agg cs => obtain ⟨l⟩ := cs; simp only [plainV] at h; simp only [conc, concL_plain h]; rfl
  all_goals exact conc_plainS h
theorem concL_drop : ∀ {l x : List Value} (k : Nat), concL φ l = some x → concL φ (l.drop k) = some (x.drop k)
  | [], x, k, h => by simp [concL] at h; subst h; simp [concL]
  | v :: l, x, 0, h => by simpa using h
  | v :: l, x, k + 1, h => by
    simp only [concL] at h
    split at h
    · next a b h1 h2 => cases h; simpa using concL_drop k h2
    · cases h
theorem concL_take : ∀ {l x : List Value} (k : Nat), concL φ l = some x → concL φ (l.take k) = some (x.take k)
  | [], x, k, h => by simp [concL] at h; subst h; simp [concL]
  | v :: l, x, 0, h => by simp [concL]
  | v :: l, x, k + 1, h => by
    simp only [concL] at h
    split at h
    · next a b h1 h2 => cases h; simp only [List.take_succ_cons, concL, h1, concL_take k h2]
    · cases h
theorem conc_agg {cs : List Value} {x : Value} (h : conc φ (.agg ⟨cs⟩) = some x) : ∃ l, concL φ cs = some l ∧ x = .agg l.toArray := by
  simp only [conc] at h
  cases hc : concL φ cs with
  | none => rw [hc] at h; cases h
  | some l => rw [hc] at h; cases h; exact ⟨l, rfl, rfl⟩
theorem conc_tuple {cs : List Value} {x : Value} (h : conc φ (.tuple ⟨cs⟩) = some x) : ∃ l, concL φ cs = some l ∧ x = .tuple l.toArray := by
  simp only [conc] at h
  cases hc : concL φ cs with
  | none => rw [hc] at h; cases h
  | some l => rw [hc] at h; cases h; exact ⟨l, rfl, rfl⟩

/-! ### A part of a struct or an array -/
def partV (P : Program) (t : TypeId) (l : List Value) (off : Nat) : Option Value :=
  match tAgg P t with
  | some true => match tSize P t with
    | some n => some (.agg ⟨sliceK off n l⟩)
    | none => none
  | some false => nthK l off
  | none => none
theorem partV_eq (P : Program) (t : TypeId) (l : List Value) (off : Nat) : partV P t l off = match tAgg P t with
  | some true => (tSize P t).map fun n => .agg ⟨(l.drop off).take n⟩
  | some false => l[off]?
  | none => none := by
  unfold partV
  simp only [nthK_eq, sliceK_eq]
  split
  · cases tSize P t <;> rfl
  · rfl
  · rfl
theorem partV_ok {t : TypeId} {l xs : List Value} {off : Nat} {v : Value} (h : partV P t l off = some v) (hl : concL φ l = some xs) : ∃ x, conc φ v = some x ∧ ∀ w, (part t xs.toArray off).run P w = .ok x w := by
  rw [partV_eq] at h
  cases ha : tAgg P t with
  | none => rw [ha] at h; cases h
  | some b =>
    rw [ha] at h
    cases b with
    | true =>
      simp only at h
      cases hs : tSize P t with
      | none => rw [hs] at h; cases h
      | some n =>
        rw [hs] at h; cases h
        refine ⟨.agg ((xs.drop off).take n).toArray, by simp only [conc, concL_take n (concL_drop off hl)]; rfl, fun w => ?_⟩
        unfold part
        rw [bind_ok (isAgg_run ha)]
        simp only [if_true]
        rw [bind_ok (sizeOf_run hs), run_pure]
        congr 2
        simp [List.extract_eq_take_drop]
    | false =>
      simp only at h
      obtain ⟨y, h1, h2⟩ := concL_get hl _ _ h
      refine ⟨y, h2, fun w => ?_⟩
      unfold part
      rw [bind_ok (isAgg_run ha)]
      simp only [Bool.false_eq_true, if_false, List.getElem?_toArray, h1]
      rfl
def fieldV (P : Program) (t : TypeId) (v : Value) (f : Nat) : Option Value :=
  match P.underlying t, v with
  | some (.struct fs), .agg ⟨l⟩ => match fs.toList[f]? with
    | some fd => partV P fd.type l fd.offset
    | none => none
  | _, _ => none
theorem fieldV_ok {t : TypeId} {v u X : Value} {f : Nat} (h : fieldV P t v f = some u) (hv : conc φ v = some X) : ∃ x, conc φ u = some x ∧ ∀ w, (Instr.field t X f).run P w = .ok x w := by
  unfold fieldV at h
  split at h
  · next fs l hu =>
    obtain ⟨xs, hl, rfl⟩ := conc_agg hv
    split at h
    · next fd hf =>
      obtain ⟨x, h1, h2⟩ := partV_ok h hl
      refine ⟨x, h1, fun w => ?_⟩
      unfold Instr.field
      rw [bind_ok (underlying_run hu)]
      have hf' : fs[f]? = some fd := by simpa using hf
      simp only [hf', asAgg]
      rw [bind_ok (run_pure P _ w)]
      exact h2 w
    · cases h
  · cases h
end
end Ev
end Go.Proofs.YtepdkcikkemieaaGreat
