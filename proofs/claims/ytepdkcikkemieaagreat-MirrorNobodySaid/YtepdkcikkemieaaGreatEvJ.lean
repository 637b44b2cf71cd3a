/- THE ENGINE, 10: all operations that need no memory, and frames. -/
import Derived.Test.YtepdkcikkemieaaGreatEvI
noncomputable section
namespace Go.Proofs.YtepdkcikkemieaaGreat
open Go.RowKit
set_option linter.unusedVariables false
set_option linter.unusedSimpArgs false
namespace Ev

def valsV (ρ : Operand → Option Value) (l : List Operand) : Option (List Value) :=
  @List.rec Operand (fun _ => Option (List Value)) (some []) (fun x _ ih => match ρ x with
    | some v => (match ih with
      | some vs => some (v :: vs)
      | none => none)
    | none => none) l
theorem valsV_nil (ρ : Operand → Option Value) : valsV ρ [] = some [] := rfl
theorem valsV_cons (ρ : Operand → Option Value) (x : Operand) (l : List Operand) : valsV ρ (x :: l) = match ρ x, valsV ρ l with
    | some v, some vs => some (v :: vs)
    | _, _ => none := by
  show (match ρ x with
    | some v => (match valsV ρ l with
      | some vs => some (v :: vs)
      | none => none)
    | none => none) = _
  cases ρ x <;> cases valsV ρ l <;> rfl
def partsV (ρ : Operand → Option Value) : List (Nat × Operand) → Option (List (Nat × Value))
  | [] => some []
  | (i, x) :: l => match ρ x, partsV ρ l with
    | some v, some vs => some ((i, v) :: vs)
    | _, _ => none
/-- An operand that may not be there. -/
def optV (ρ : Operand → Option Value) : Option Operand → Option (Option Value)
  | none => some none
  | some x => (ρ x).map some
def ifaceV (P : Program) (t : TypeId) (v : Value) : Option Value :=
  match P.underlying t with
  | some (.interface _) => none
  | some _ => some (.iface t v)
  | none => none
def arrPtrV (P : Program) (t : TypeId) (v : Value) : Option Value :=
  match P.underlying t, v with
  | some (.array n _), .slice (some a) len _ => if a.spot.isNone ∧ n ≤ len then some (.pointer (some a)) else none
  | _, _ => none
def minmaxV (mx : Bool) (vs : List Value) : Option Value :=
  if vs.all plainS then (if mx then asPure (Builtin.max_ #[] 0 vs.toArray) else asPure (Builtin.min_ #[] 0 vs.toArray)) else none
def callP (P : Program) (b : Builtin) (ts : Array TypeId) (vs : List Value) : Option Value :=
  match b, vs with
  | .len, [v] => match ts.toList with | t :: _ => lenV P t v | [] => none
  | .cap, [v] => match ts.toList with | t :: _ => capV P t v | [] => none
  | .max, vs => minmaxV true vs
  | .min, vs => minmaxV false vs
  | _, _ => none
def evP (P : Program) (ρ : Operand → Option Value) (op : Op) : Option Value :=
  match op with
  | .move x => ρ x
  | .assign x => ρ x
  | .pick c a b => match ρ c with
    | some (.bool true) => ρ a
    | some (.bool false) => ρ b
    | _ => none
  | .nilCheck x => match ρ x with
    | some (.pointer (some a)) => some (.pointer (some a))
    | some (.func (.func f) p q) => some (.func (.func f) p q)
    | _ => none
  | .binOp op t x y _ => match ρ x, ρ y with
    | some a, some b => binV P op t (isC x || isC y) a b
    | _, _ => none
  | .unOp op _ x => match ρ x with | some v => unV op v | none => none
  | .convert s d x => match ρ x with | some v => convP P s d v | none => none
  | .makeFunc (.func f) first captured => match valsV ρ first.toList, valsV ρ captured.toList with
    | some a, some b => some (.func (.func f) ⟨a⟩ ⟨b⟩)
    | _, _ => none
  | .fieldAddr s x f => match ρ x with | some v => fieldAddrV P s v f | none => none
  | .field t x f => match ρ x with | some v => fieldV P t v f | none => none
  | .indexAddr t x i => match ρ x, ρ i with
    | some v, some j => indexAddrV P t v j
    | _, _ => none
  | .index t x i => match ρ x, ρ i with
    | some v, some j => indexV P t v j
    | _, _ => none
  | .slice t x lo hi mx => match ρ x, optV ρ lo, optV ρ hi, optV ρ mx with
    | some v, some l, some h, some m => sliceV P t v l h m
    | _, _, _, _ => none
  | .extract x i => match ρ x with | some v => extractV v i | none => none
  | .build t ps => match partsV ρ ps.toList with | some l => buildV P t l | none => none
  | .makeInterface t x => match ρ x with | some v => ifaceV P t v | none => none
  | .sliceToArrayPointer t x => match ρ x with | some v => arrPtrV P t v | none => none
  | .call c => match c.callee with
    | .builtin b => match valsV ρ c.args.toList with | some vs => callP P b c.argTypes vs | none => none
    | _ => none
  | _ => none
section
variable {P : Program} {φ : Phi} {ρ : Operand → Option Value} {ev : Operand → Value}
theorem valsV_ok (hρ : ∀ x u, ρ x = some u → conc φ u = some (ev x)) : ∀ (l : List Operand) (vs : List Value), valsV ρ l = some vs → concL φ vs = some (l.map ev)
  | [], vs, h => by cases h; rfl
  | x :: l, vs, h => by
    rw [valsV_cons] at h
    split at h
    · next v us h1 h2 => cases h; simp only [concL, hρ _ _ h1, valsV_ok hρ l us h2, List.map_cons]
    · cases h
theorem partsV_ok (hρ : ∀ x u, ρ x = some u → conc φ u = some (ev x)) : ∀ (l : List (Nat × Operand)) (vs : List (Nat × Value)), partsV ρ l = some vs → concPs φ vs (l.map fun p => (p.1, ev p.2))
  | [], vs, h => by cases h; rfl
  | (i, x) :: l, vs, h => by
    unfold partsV at h
    split at h
    · next v us h1 h2 => cases h; exact ⟨_, _, rfl, hρ _ _ h1, partsV_ok hρ l us h2⟩
    · cases h
theorem optV_ok (hρ : ∀ x u, ρ x = some u → conc φ u = some (ev x)) {x : Option Operand} {v : Option Value} (h : optV ρ x = some v) : concO φ v (x.map ev) := by
  cases x with
  | none => cases h; rfl
  | some x =>
    simp only [optV] at h
    cases hx : ρ x with
    | none => rw [hx] at h; cases h
    | some u => rw [hx] at h; cases h; exact ⟨_, hρ _ _ hx, rfl⟩
theorem wrapV {s : Sem Value} {V : Value} (h : RunsTo P s V) : RunsTo P (do pure (Next.value (← s))) (Next.value V) := fun w => by rw [bind_ok (h w)]; rfl
theorem minmax_eq (t : Array TypeId) (ty : TypeId) (a : Array Value) : Builtin.max_ t ty a = Builtin.max_ #[] 0 a ∧ Builtin.min_ t ty a = Builtin.min_ #[] 0 a := ⟨rfl, rfl⟩
theorem evP_ok (hρ : ∀ x u, ρ x = some u → conc φ u = some (ev x)) {o : Oper} {v : Value} (h : evP P ρ o.op = some v) : ∃ V, conc φ v = some V ∧ RunsTo P (execOp ev o) (.value V) := by
  obtain ⟨dst, op, ty, pos, after, guard⟩ := o
  simp only at h
  unfold evP at h
  split at h
  · next x => exact ⟨_, hρ _ _ h, fun w => rfl⟩
  · next x => exact ⟨_, hρ _ _ h, fun w => rfl⟩
  · next c a b =>
    split at h
    · next hc =>
      have hb := hρ _ _ hc
      simp [conc] at hb
      refine ⟨_, hρ _ _ h, fun w => ?_⟩
      show (do pure (Next.value (if ← asBool (ev c) then ev a else ev b)) : Sem Next).run P w = _
      rw [← hb]; rfl
    · next hc =>
      have hb := hρ _ _ hc
      simp [conc] at hb
      refine ⟨_, hρ _ _ h, fun w => ?_⟩
      show (do pure (Next.value (if ← asBool (ev c) then ev a else ev b)) : Sem Next).run P w = _
      rw [← hb]; rfl
    · cases h
  · next x =>
    split at h
    · next a hx =>
      cases h
      have hc := hρ _ _ hx
      obtain ⟨_, A, _, he⟩ := conc_ptr hc
      refine ⟨_, hc, fun w => ?_⟩
      unfold execOp
      simp only [he]; rfl
    · next f p q hx =>
      cases h
      have hc := hρ _ _ hx
      obtain ⟨f', A, B, hf, _, _, he⟩ := conc_func hc
      refine ⟨_, hc, fun w => ?_⟩
      unfold execOp
      simp only [he]; rfl
    · cases h
  · next op t x y yt =>
    split at h
    · next a b ha hb =>
      obtain ⟨V, h1, h2⟩ := binV_ok (a := x) (b := y) h (hρ _ _ ha) (hρ _ _ hb)
      exact ⟨V, h1, wrapV h2⟩
    · cases h
  · next op t x =>
    split at h
    · next a ha => obtain ⟨V, h1, h2⟩ := unV_ok (P := P) h (hρ _ _ ha); exact ⟨V, h1, wrapV h2⟩
    · cases h
  · next s d x =>
    split at h
    · next a ha => obtain ⟨V, h1, h2⟩ := convP_ok h (hρ _ _ ha); exact ⟨V, h1, wrapV h2⟩
    · cases h
  · next f first captured =>
    split at h
    · next a b ha hb =>
      cases h
      refine ⟨.func (.func f) (first.map ev) (captured.map ev), ?_, fun w => rfl⟩
      simp only [conc, valsV_ok hρ _ _ ha, valsV_ok hρ _ _ hb]
      congr 2 <;> (apply Array.toList_inj.1; simp)
    · cases h
  · next s x f =>
    split at h
    · next a ha => obtain ⟨V, h1, h2⟩ := fieldAddrV_ok h (hρ _ _ ha); exact ⟨V, h1, wrapV h2⟩
    · cases h
  · next t x f =>
    split at h
    · next a ha => obtain ⟨V, h1, h2⟩ := fieldV_ok h (hρ _ _ ha); exact ⟨V, h1, wrapV h2⟩
    · cases h
  · next t x i =>
    split at h
    · next a b ha hb => obtain ⟨V, h1, h2⟩ := indexAddrV_ok h (hρ _ _ ha) (hρ _ _ hb); exact ⟨V, h1, wrapV h2⟩
    · cases h
  · next t x i =>
    split at h
    · next a b ha hb => obtain ⟨V, h1, h2⟩ := indexV_ok h (hρ _ _ ha) (hρ _ _ hb); exact ⟨V, h1, wrapV h2⟩
    · cases h
  · next t x lo hi mx =>
    split at h
    · next a l hh m ha hl hh' hm =>
      obtain ⟨V, h1, h2⟩ := sliceV_ok h (hρ _ _ ha) (optV_ok hρ hl) (optV_ok hρ hh') (optV_ok hρ hm)
      exact ⟨V, h1, wrapV h2⟩
    · cases h
  · next x i =>
    split at h
    · next a ha => obtain ⟨V, h1, h2⟩ := extractV_ok (P := P) h (hρ _ _ ha); exact ⟨V, h1, wrapV h2⟩
    · cases h
  · next t ps =>
    split at h
    · next l hl =>
      obtain ⟨V, h1, h2⟩ := buildV_ok h (partsV_ok hρ _ _ hl)
      refine ⟨V, h1, ?_⟩
      have e : (ps.toList.map fun p => (p.1, ev p.2)).toArray = ps.map fun p => (p.1, ev p.2) := by apply Array.toList_inj.1; simp
      rw [e] at h2
      exact wrapV h2
    · cases h
  · next t x =>
    split at h
    · next a ha =>
      unfold ifaceV at h
      have hc := hρ _ _ ha
      split at h
      · cases h
      · next d hnu hu =>
        cases h
        refine ⟨.iface t (ev x), by simp only [conc, hc]; rfl, wrapV fun w => ?_⟩
        unfold Instr.makeInterface
        rw [bind_ok (underlying_run hu)]
        cases d <;> first | rfl | (exact absurd rfl (hnu _))
      · cases h
    · cases h
  · next t x =>
    split at h
    · next a ha =>
      unfold arrPtrV at h
      have hc := hρ _ _ ha
      split at h
      · next n e a len c hu =>
        split at h
        · next hb =>
          cases h
          obtain ⟨B, A, hB, hA, he⟩ := conc_slice hc
          refine ⟨_, conc_ptr_mk (by simpa using hb.1) hA, wrapV fun w => ?_⟩
          rw [he]
          unfold Instr.arrayAt
          rw [bind_ok (underlying_run hu)]
          simp only []
          rw [if_neg (by omega)]; rfl
        · cases h
      · cases h
    · cases h
  · next c =>
    split at h
    · next b hcal =>
      split at h
      · next vs hvs =>
        have hcl := valsV_ok hρ _ _ hvs
        have hargs : c.args.map ev = (c.args.toList.map ev).toArray := by apply Array.toList_inj.1; simp
        have run : ∀ {V : Value} {s : (Array TypeId) → TypeId → Array Value → Sem Value}, (∀ consts, builtin b c.argTypes ty consts (c.args.map ev) = (do pure (.value (← s c.argTypes ty (c.args.map ev))))) → RunsTo P (s c.argTypes ty (c.args.toList.map ev).toArray) V → RunsTo P (execOp ev ⟨dst, .call c, ty, pos, after, guard⟩) (.value V) := by
          intro V s hb hs w
          unfold execOp
          simp only
          unfold resolve
          rw [hcal]
          simp only
          rw [bind_ok (run_pure P _ w)]
          show (builtin b c.argTypes ty _ (c.args.map ev)).run P w = _
          rw [hb, hargs]
          exact wrapV hs w
        unfold callP at h
        split at h
        · next v =>
          split at h
          · next t ts hts =>
            obtain ⟨V, g1, g2⟩ : ∃ V, conc φ v = some V ∧ c.args.toList.map ev = [V] := by
              simp only [concL] at hcl
              cases hv : conc φ v with
              | none => rw [hv] at hcl; cases hcl
              | some V => rw [hv] at hcl; simp only [Option.some.injEq] at hcl; exact ⟨V, rfl, hcl.symm⟩
            obtain ⟨V', g3, g4⟩ := lenV_ok (ty := ty) (ts := c.argTypes) (by rw [← Array.getElem?_toList, hts]; rfl) h g1
            exact ⟨V', g3, run (s := Builtin.len_) (fun _ => rfl) (by rw [g2]; exact g4)⟩
          · cases h
        · next v =>
          split at h
          · next t ts hts =>
            obtain ⟨V, g1, g2⟩ : ∃ V, conc φ v = some V ∧ c.args.toList.map ev = [V] := by
              simp only [concL] at hcl
              cases hv : conc φ v with
              | none => rw [hv] at hcl; cases hcl
              | some V => rw [hv] at hcl; simp only [Option.some.injEq] at hcl; exact ⟨V, rfl, hcl.symm⟩
            obtain ⟨V', g3, g4⟩ := capV_ok (ty := ty) (ts := c.argTypes) (by rw [← Array.getElem?_toList, hts]; rfl) h g1
            exact ⟨V', g3, run (s := Builtin.cap_) (fun _ => rfl) (by rw [g2]; exact g4)⟩
          · cases h
        · unfold minmaxV at h
          split at h
          · next hp =>
            rw [concL_plain hp] at hcl
            simp only [Option.some.injEq] at hcl
            obtain ⟨g1, g2⟩ := asPure_ok h
            refine ⟨v, conc_plainS g1, run (s := Builtin.max_) (fun _ => rfl) fun w => ?_⟩
            rw [← hcl, (minmax_eq _ _ _).1, g2]; rfl
          · cases h
        · unfold minmaxV at h
          split at h
          · next hp =>
            rw [concL_plain hp] at hcl
            simp only [Option.some.injEq] at hcl
            obtain ⟨g1, g2⟩ := asPure_ok h
            refine ⟨v, conc_plainS g1, run (s := Builtin.min_) (fun _ => rfl) fun w => ?_⟩
            rw [← hcl, (minmax_eq _ _ _).2, g2]; rfl
          · cases h
        · cases h
      · cases h
    · cases h
  · cases h
end
/-! ### Frames -/
structure FRel (D : List Deferred) (φ : Phi) (nt : Nat) (T : Tr Value) (a : Act) : Prop where
  size : a.tmps.size = nt
  vals : ∀ t, conc φ ((T.get t).getD undef) = some (a.tmps.getD t undef)
  defers : a.defers = D
variable {D : List Deferred}
def opV (T : Tr Value) : Operand → Option Value
  | .tmp t => some ((T.get t).getD undef)
  | .const v => if plainV v then some v else none
  | .global _ => none
  | .func f => some (.func (.func f) #[] #[])
theorem opV_ok {φ : Phi} {nt : Nat} {T : Tr Value} {a : Act} (h : FRel D φ nt T a) : ∀ x u, opV T x = some u → conc φ u = some (a.eval x)
  | .tmp t, u, hu => by cases hu; exact h.vals t
  | .const v, u, hu => by
    simp only [opV] at hu
    split at hu
    · next hp => cases hu; exact conc_plainV hp
    · cases hu
  | .global _, u, hu => by cases hu
  | .func f, u, hu => by cases hu; rfl
theorem FRel.le {φ ψ : Phi} {nt : Nat} {T : Tr Value} {a : Act} (h : FRel D φ nt T a) (hl : φ.le ψ) : FRel D ψ nt T a := ⟨h.size, fun t => conc_le hl _ _ (h.vals t), h.defers⟩
def putT (nt : Nat) (T : Tr Value) (dst : Option Tmp) (v : Value) : Option (Tr Value) :=
  match dst with
  | none => some T
  | some d => if d < nt then Tr.set 40 T d (some v) else none
theorem FRel.put {φ : Phi} {nt : Nat} {T T' : Tr Value} {a : Act} {dst : Option Tmp} {v V : Value} (h : FRel D φ nt T a) (ht : putT nt T dst v = some T') (hv : conc φ v = some V) : FRel D φ nt T' (a.put dst V) := by
  unfold putT at ht
  cases dst with
  | none => cases ht; exact h
  | some d =>
    simp only at ht
    split at ht
    · next hd =>
      refine ⟨by simp [Act.put, h.size], fun t => ?_, h.defers⟩
      rw [Tr.get_set _ _ _ _ _ ht]
      by_cases e : t = d
      · subst e
        have : t < a.tmps.size := by rw [h.size]; exact hd
        simp [Act.put, this, hv]
      · rw [if_neg e]
        have := h.vals t
        simp only [Act.put]
        rw [show (a.tmps.setIfInBounds d V).getD t undef = a.tmps.getD t undef by simp [Array.getElem?_setIfInBounds_ne (fun x => e x.symm)]]
        exact this
    · cases ht
end Ev
end Go.Proofs.YtepdkcikkemieaaGreat
