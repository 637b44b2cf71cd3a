/- THE ENGINE, 10: all operations that need no memory, and frames. -/
import Derived.Test.YtifoekadjnlhcaaGreatDoorEC
noncomputable section
namespace Go.Proofs.YtifoekadjnlhcaaGreatDoor
open Go.RowKit
set_option linter.unusedVariables false
set_option linter.unusedSimpArgs false
namespace Ev
def valsV (ρ : Operand → Option Value) (l : List Operand) : Option (List Value) :=
  @List.rec Operand (fun _ => Option (List Value)) (some []) (fun x _ ih => match ρ x with
    | some v => (match ih with
      | some vs => some (v :: vs)
      | none => none)
    | none => none) l
theorem valsV_nil (ρ : Operand → Option Value) : valsV ρ [] = some [] := rfl
theorem valsV_cons (ρ : Operand → Option Value) (x : Operand) (l : List Operand) : valsV ρ (x :: l) = match ρ x, valsV ρ l with
    | some v, some vs => some (v :: vs)
    | _, _ => none := by
  show (match ρ x with
    | some v => (match valsV ρ l with
      | some vs => some (v :: vs)
      | none => none)
    | none => none) = _
  cases ρ x <;> cases valsV ρ l <;> rfl
def partsV (ρ : Operand → Option Value) : List (Nat × Operand) → Option (List (Nat × Value))
  | [] => some []
  | (i, x) :: l => match ρ x, partsV ρ l with
    | some v, some vs => some ((i, v) :: vs)
    | _, _ => none
def optV (ρ : Operand → Option Value) : Option Operand → Option (Option Value)
  | none => some none
  | some x => (ρ x).map some
def ifaceV (P : Program) (t : TypeId) (v : Value) : Option Value :=
  match P.underlying t with
  | some (.interface _) => none
  | some _ => some (.iface t v)
  | none => none
def arrPtrV (P : Program) (t : TypeId) (v : Value) : Option Value :=
  match P.underlying t, v with
  | some (.array n _), .slice (some a) len _ => if a.spot.isNone ∧ n ≤ len then some (.pointer (some a)) else none
  | _, _ => none
def minmaxV (mx : Bool) (vs : List Value) : Option Value :=
  if vs.all plainS then (if mx then asPure (Builtin.max_ #[] 0 vs.toArray) else asPure (Builtin.min_ #[] 0 vs.toArray)) else none
def callP (P : Program) (b : Builtin) (ts : Array TypeId) (vs : List Value) : Option Value :=
  match b, vs with
  | .len, [v] => match ts.toList with | t :: _ => lenV P t v | [] => none
  | .cap, [v] => match ts.toList with | t :: _ => capV P t v | [] => none
  | .max, vs => minmaxV true vs
  | .min, vs => minmaxV false vs
  | _, _ => none
def evP (P : Program) (ρ : Operand → Option Value) (op : Op) : Option Value :=
  match op with
  | .move x => ρ x
  | .assign x => ρ x
  | .pick c a b => match ρ c with
    | some (.bool true) => ρ a
    | some (.bool false) => ρ b
    | _ => none
  | .nilCheck x => match ρ x with
    | some (.pointer (some a)) => some (.pointer (some a))
    | some (.func (.func f) p q) => some (.func (.func f) p q)
    | _ => none
  | .binOp op t x y _ => match ρ x, ρ y with
    | some a, some b => binV P op t (isC x || isC y) a b
    | _, _ => none
  | .unOp op _ x => match ρ x with | some v => unV op v | none => none
  | .convert s d x => match ρ x with | some v => convP P s d v | none => none
  | .makeFunc (.func f) first captured => match valsV ρ first.toList, valsV ρ captured.toList with
    | some a, some b => some (.func (.func f) ⟨a⟩ ⟨b⟩)
    | _, _ => none
  | .fieldAddr s x f => match ρ x with | some v => fieldAddrV P s v f | none => none
  | .field t x f => match ρ x with | some v => fieldV P t v f | none => none
  | .indexAddr t x i => match ρ x, ρ i with
    | some v, some j => indexAddrV P t v j
    | _, _ => none
  | .index t x i => match ρ x, ρ i with
    | some v, some j => indexV P t v j
    | _, _ => none
  | .slice t x lo hi mx => match ρ x, optV ρ lo, optV ρ hi, optV ρ mx with
    | some v, some l, some h, some m => sliceV P t v l h m
    | _, _, _, _ => none
  | .extract x i => match ρ x with | some v => extractV v i | none => none
  | .build t ps => match partsV ρ ps.toList with | some l => buildV P t l | none => none
  | .makeInterface t x => match ρ x with | some v => ifaceV P t v | none => none
  | .sliceToArrayPointer t x => match ρ x with | some v => arrPtrV P t v | none => none
  | .call c => match c.callee with
    | .builtin b => match valsV ρ c.args.toList with | some vs => callP P b c.argTypes vs | none => none
    | _ => none
  | _ => none
section
variable {P : Program} {φ : Phi} {ρ : Operand → Option Value} {ev : Operand → Value}
theorem valsV_ok (hρ : ∀ x u, ρ x = some u → conc φ u = some (ev x)) : ∀ (l : List Operand) (vs : List Value), valsV ρ l = some vs → concL φ vs = some (l.map ev)
  | [], vs, h => by cases h; rfl
  | x :: l, vs, h => by
    rw [valsV_cons] at h
    split at h
    · next v us h1 h2 => cases h; simp only [concL, hρ _ _ h1, valsV_ok hρ l us h2, List.map_cons]
    · cases h
theorem partsV_ok (hρ : ∀ x u, ρ x = some u → conc φ u = some (ev x)) : ∀ (l : List (Nat × Operand)) (vs : List (Nat × Value)), partsV ρ l = some vs → concPs φ vs (l.map fun p => (p.1, ev p.2))
  | [], vs, h => by cases h; rfl
  | (i, x) :: l, vs, h => by
    unfold partsV at h
    split at h
    · next v us h1 h2 => cases h; exact ⟨_, _, rfl, hρ _ _ h1, partsV_ok hρ l us h2⟩
    · cases h
theorem optV_ok (hρ : ∀ x u, ρ x = some u → conc φ u = some (ev x)) {x : Option Operand} {v : Option Value} (h : optV ρ x = some v) : concO φ v (x.map ev) := by
  cases x with
  | none => cases h; rfl
  | some x =>
    simp only [optV] at h
    cases hx : ρ x with
    | none => rw [hx] at h; cases h
    | some u => rw [hx] at h; cases h; exact ⟨_, hρ _ _ hx, rfl⟩
theorem wrapV {s : Sem Value} {V : Value} (h : RunsTo P s V) : RunsTo P (do pure (Next.value (← s))) (Next.value V) := fun w => by rw [bind_ok (h w)]; rfl
theorem minmax_eq (t : Array TypeId) (ty : TypeId) (a : Array Value) : Builtin.max_ t ty a = Builtin.max_ #[] 0 a ∧ Builtin.min_ t ty a = Builtin.min_ #[] 0 a := ⟨rfl, rfl⟩
theorem evP_ok (hρ : ∀ x u, ρ x = some u → conc φ u = some (ev x)) {o : Oper} {v : Value} (h : evP P ρ o.op = some v) : ∃ V, conc φ v = some V ∧ RunsTo P (execOp ev o) (.value V) := by
  obtain ⟨dst, op, ty, pos, after, guard⟩ := o
  simp only at h
  unfold evP at h
  split at h
  · next x => exact ⟨_, hρ _ _ h, fun w => rfl⟩
  · next x => exact ⟨_, hρ _ _ h, fun w => rfl⟩
  · next c a b =>
    split at h
    · next hc =>
      have hb := hρ _ _ hc
      simp [conc] at hb
      refine ⟨_, hρ _ _ h, fun w => ?_⟩
      show (do pure (Next.value (if ← asBool (ev c) then ev a else ev b)) : Sem Next).run P w = _
      rw [← hb]; rfl
    · next hc =>
      have hb := hρ _ _ hc
      simp [conc] at hb
      refine ⟨_, hρ _ _ h, fun w => ?_⟩
      show (do pure (Next.value (if ← asBool (ev c) then ev a else ev b)) : Sem Next).run P w = _
      rw [← hb]; rfl
    · cases h
  · next x =>
    split at h
    · next a hx =>
      cases h
      have hc := hρ _ _ hx
      obtain ⟨_, A, _, he⟩ := conc_ptr hc
      refine ⟨_, hc, fun w => ?_⟩
      unfold execOp
      simp only [he]; rfl
    · next f p q hx =>
      cases h
      have hc := hρ _ _ hx
      obtain ⟨f', A, B, hf, _, _, he⟩ := conc_func hc
      refine ⟨_, hc, fun w => ?_⟩
      unfold execOp
      simp only [he]; rfl
    · cases h
  · next op t x y yt =>
    split at h
    · next a b ha hb =>
      obtain ⟨V, h1, h2⟩ := binV_ok (a := x) (b := y) h (hρ _ _ ha) (hρ _ _ hb)
      exact ⟨V, h1, wrapV h2⟩
    · cases h
  · next op t x =>
    split at h
    · next a ha => obtain ⟨V, h1, h2⟩ := unV_ok (P := P) h (hρ _ _ ha); exact ⟨V, h1, wrapV h2⟩
    · cases h
  · next s d x =>
    split at h
    · next a ha => obtain ⟨V, h1, h2⟩ := convP_ok h (hρ _ _ ha); exact ⟨V, h1, wrapV h2⟩
    · cases h
  · next f first captured =>
    split at h
    · next a b ha hb =>
      cases h
      refine ⟨.func (.func f) (first.map ev) (captured.map ev), ?_, fun w => rfl⟩
      simp only [conc, valsV_ok hρ _ _ ha, valsV_ok hρ _ _ hb]
      congr 2 <;> (apply Array.toList_inj.1; simp)
    · cases h
  · next s x f =>
    split at h
    · next a ha => obtain ⟨V, h1, h2⟩ := fieldAddrV_ok h (hρ _ _ ha); exact ⟨V, h1, wrapV h2⟩
    · cases h
  · next t x f =>
    split at h
    · next a ha => obtain ⟨V, h1, h2⟩ := fieldV_ok h (hρ _ _ ha); exact ⟨V, h1, wrapV h2⟩
    · cases h
  · next t x i =>
    split at h
    · next a b ha hb => obtain ⟨V, h1, h2⟩ := indexAddrV_ok h (hρ _ _ ha) (hρ _ _ hb); exact ⟨V, h1, wrapV h2⟩
    · cases h
  · next t x i =>
    split at h
    · next a b ha hb => obtain ⟨V, h1, h2⟩ := indexV_ok h (hρ _ _ ha) (hρ _ _ hb); exact ⟨V, h1, wrapV h2⟩
    · cases h
  · next t x lo hi mx =>
    split at h
    · next a l hh m ha hl hh' hm =>
      obtain ⟨V, h1, h2⟩ := sliceV_ok h (hρ _ _ ha) (optV_ok hρ hl) (optV_ok hρ hh') (optV_ok hρ hm)
      exact ⟨V, h1, wrapV h2⟩
    · cases h
  · next x i =>
    split at h
    · next a ha => obtain ⟨V, h1, h2⟩ := extractV_ok (P := P) h (hρ _ _ ha); exact ⟨V, h1, wrapV h2⟩
    · cases h
  · next t ps =>
    split at h
    · next l hl =>
      obtain ⟨V, h1, h2⟩ := buildV_ok h (partsV_ok hρ _ _ hl)
      refine ⟨V, h1, ?_⟩
      have e : (ps.toList.map fun p => (p.1, ev p.2)).toArray = ps.map fun p => (p.1, ev p.2) := by apply Array.toList_inj.1; simp
      rw [e] at h2
      exact wrapV h2
    · cases h
  · next t x =>
    split at h
    · next a ha =>
      unfold ifaceV at h
      have hc := hρ _ _ ha
      split at h
      · cases h
      · next d hnu hu =>
        cases h
        refine ⟨.iface t (ev x), by simp only [conc, hc]; rfl, wrapV fun w => ?_⟩
        unfold Instr.makeInterface
        rw [bind_ok (underlying_run hu)]
        cases d <;> first | rfl | (exact absurd rfl (hnu _))
      · cases h
    · cases h
  · next t x =>
    split at h
    · next a ha =>
      unfold arrPtrV at h
      have hc := hρ _ _ ha
      split at h
      · next n e a len c hu =>
        split at h
        · next hb =>
          cases h
          obtain ⟨B, A, hB, hA, he⟩ := conc_slice hc
          refine ⟨_, conc_ptr_mk (by simpa using hb.1) hA, wrapV fun w => ?_⟩
          rw [he]
          unfold Instr.arrayAt
          rw [bind_ok (underlying_run hu)]
          simp only []
          rw [if_neg (by omega)]; rfl
        · cases h
      · cases h
    · cases h
  · next c =>
    split at h
    · next b hcal =>
      split at h
      · next vs hvs =>
        have hcl := valsV_ok hρ _ _ hvs
        have hargs : c.args.map ev = (c.args.toList.map ev).toArray := by apply Array.toList_inj.1; simp
        have run : ∀ {V : Value} {s : (Array TypeId) → TypeId → Array Value → Sem Value}, (∀ consts, builtin b c.argTypes ty consts (c.args.map ev) = (do pure (.value (← s c.argTypes ty (c.args.map ev))))) → RunsTo P (s c.argTypes ty (c.args.toList.map ev).toArray) V → RunsTo P (execOp ev ⟨dst, .call c, ty, pos, after, guard⟩) (.value V) := by
          intro V s hb hs w
          unfold execOp
          simp only
          unfold resolve
          rw [hcal]
          simp only
          rw [bind_ok (run_pure P _ w)]
          show (builtin b c.argTypes ty _ (c.args.map ev)).run P w = _
          rw [hb, hargs]
          exact wrapV hs w
        unfold callP at h
        split at h
        · next v =>
          split at h
          · next t ts hts =>
            obtain ⟨V, g1, g2⟩ : ∃ V, conc φ v = some V ∧ c.args.toList.map ev = [V] := by
              simp only [concL] at hcl
              cases hv : conc φ v with
              | none => rw [hv] at hcl; cases hcl
              | some V => rw [hv] at hcl; simp only [Option.some.injEq] at hcl; exact ⟨V, rfl, hcl.symm⟩
            obtain ⟨V', g3, g4⟩ := lenV_ok (ty := ty) (ts := c.argTypes) (by rw [← Array.getElem?_toList, hts]; rfl) h g1
            exact ⟨V', g3, run (s := Builtin.len_) (fun _ => rfl) (by rw [g2]; exact g4)⟩
          · cases h
        · next v =>
          split at h
          · next t ts hts =>
            obtain ⟨V, g1, g2⟩ : ∃ V, conc φ v = some V ∧ c.args.toList.map ev = [V] := by
              simp only [concL] at hcl
              cases hv : conc φ v with
              | none => rw [hv] at hcl; cases hcl
              | some V => rw [hv] at hcl; simp only [Option.some.injEq] at hcl; exact ⟨V, rfl, hcl.symm⟩
            obtain ⟨V', g3, g4⟩ := capV_ok (ty := ty) (ts := c.argTypes) (by rw [← Array.getElem?_toList, hts]; rfl) h g1
            exact ⟨V', g3, run (s := Builtin.cap_) (fun _ => rfl) (by rw [g2]; exact g4)⟩
          · cases h
        · unfold minmaxV at h
          split at h
          · next hp =>
            rw [concL_plain hp] at hcl
            simp only [Option.some.injEq] at hcl
            obtain ⟨g1, g2⟩ := asPure_ok h
            refine ⟨v, conc_plainS g1, run (s := Builtin.max_) (fun _ => rfl) fun w => ?_⟩
            rw [← hcl, (minmax_eq _ _ _).1, g2]; rfl
          · cases h
        · unfold minmaxV at h
          split at h
          · next hp =>
            rw [concL_plain hp] at hcl
            simp only [Option.some.injEq] at hcl
            obtain ⟨g1, g2⟩ := asPure_ok h
            refine ⟨v, conc_plainS g1, run (s := Builtin.min_) (fun _ => rfl) fun w => ?_⟩
            rw [← hcl, (minmax_eq _ _ _).2, g2]; rfl
          · cases h
        · cases h
      · cases h
    · cases h
  · cases h
end
structure FRel (D : List Deferred) (φ : Phi) (nt : Nat) (T : Tr Value) (a : Act) : Prop where
  size : a.tmps.size = nt
  vals : ∀ t, conc φ ((T.get t).getD undef) = some (a.tmps.getD t undef)
  defers : a.defers = D
variable {D : List Deferred}
def opV (T : Tr Value) : Operand → Option Value
  | .tmp t => some ((T.get t).getD undef)
  | .const v => if plainV v then some v else none
  | .global _ => none
  | .func f => some (.func (.func f) #[] #[])
theorem opV_ok {φ : Phi} {nt : Nat} {T : Tr Value} {a : Act} (h : FRel D φ nt T a) : ∀ x u, opV T x = some u → conc φ u = some (a.eval x)
  | .tmp t, u, hu => by cases hu; exact h.vals t
  | .const v, u, hu => by
    simp only [opV] at hu
    split at hu
    · next hp => cases hu; exact conc_plainV hp
    · cases hu
  | .global _, u, hu => by cases hu
  | .func f, u, hu => by cases hu; rfl
theorem FRel.le {φ ψ : Phi} {nt : Nat} {T : Tr Value} {a : Act} (h : FRel D φ nt T a) (hl : φ.le ψ) : FRel D ψ nt T a := ⟨h.size, fun t => conc_le hl _ _ (h.vals t), h.defers⟩
def putT (nt : Nat) (T : Tr Value) (dst : Option Tmp) (v : Value) : Option (Tr Value) :=
  match dst with
  | none => some T
  | some d => if d < nt then Tr.set 40 T d (some v) else none
theorem FRel.put {φ : Phi} {nt : Nat} {T T' : Tr Value} {a : Act} {dst : Option Tmp} {v V : Value} (h : FRel D φ nt T a) (ht : putT nt T dst v = some T') (hv : conc φ v = some V) : FRel D φ nt T' (a.put dst V) := by
  unfold putT at ht
  cases dst with
  | none => cases ht; exact h
  | some d =>
    simp only at ht
    split at ht
    · next hd =>
      refine ⟨by simp [Act.put, h.size], fun t => ?_, h.defers⟩
      rw [Tr.get_set _ _ _ _ _ ht]
      by_cases e : t = d
      · subst e
        have : t < a.tmps.size := by rw [h.size]; exact hd
        simp [Act.put, this, hv]
      · rw [if_neg e]
        have := h.vals t
        simp only [Act.put]
        rw [show (a.tmps.setIfInBounds d V).getD t undef = a.tmps.getD t undef by simp [Array.getElem?_setIfInBounds_ne (fun x => e x.symm)]]
        exact this
    · cases ht
end Ev
end Go.Proofs.YtifoekadjnlhcaaGreatDoor
noncomputable section
namespace Go.Proofs.YtifoekadjnlhcaaGreatDoor
open Go.RowKit
set_option linter.unusedVariables false
set_option linter.unusedSimpArgs false
namespace Ev
def keyOk (P : Program) : Nat → TypeId → Value → Bool
  | 0, _, _ => false
  | d + 1, t, v => match P.underlying t with
    | some (.struct fs) => match v with
      | .agg ⟨l⟩ => fs.toList.all fun f => match partV P f.type l f.offset with
        | some u => plainV u && keyOk P d f.type u
        | none => false
      | _ => false
    | some (.array _ _) => false
    | some (.interface _) => false
    | some _ => true
    | none => false
def findV (P : Program) (kt : TypeId) (k : Value) : List (Value × Value × Nat) → Nat → Option (Option (Nat × Value))
  | [], _ => some none
  | e :: es, i => match eqV P Op.maxDepth kt k e.1 with
    | some true => some (some (i, e.2.1))
    | some false => findV P kt k es (i + 1)
    | none => none
def loadV (P : Program) (H : Heap) (t : TypeId) (a : Value) : Option Value :=
  match a with
  | .pointer (some a) => match tAgg P t with
    | some true => match tSize P t with
      | some n => (H.load a.block a.off n).map fun l => .agg ⟨l⟩
      | none => none
    | some false => match H.load a.block a.off 1 with
      | some [v] => some v
      | _ => none
    | none => none
  | _ => none
def bytesV : List Value → Option (List UInt8)
  | [] => some []
  | .int .u8 n :: l => (bytesV l).map (UInt8.ofNat n.toNat :: ·)
  | _ => none
def strOfV (P : Program) (H : Heap) (s d : TypeId) (x : Value) : Option Value :=
  match P.underlying s, P.underlying d, x with
  | some (.slice e), some .string, .slice none _ _ => match P.underlying e with
    | some (.int .u8) => some (.string .empty)
    | _ => none
  | some (.slice e), some .string, .slice (some a) n _ => match P.underlying e with
    | some (.int .u8) => match a.spot, H.load a.block a.off n with
      | none, some l => (bytesV l).map fun b => .string ⟨⟨b⟩⟩
      | _, _ => none
    | _ => none
  | _, _, _ => none
def lookupV (P : Program) (H : Heap) (t : TypeId) (x ix : Value) (ok : Bool) : Option Value :=
  match P.underlying t with
  | some (.map key elem) =>
    if plainV ix && keyOk P 4 key ix then
      match (match x with
        | .map none => some none
        | .map (some r) => match H.get r with
          | some (.map es _) => findV P key ix es 0
          | _ => none
        | _ => none) with
      | some (some (_, v)) => some (if ok then .tuple ⟨[v, .bool true]⟩ else v)
      | some none => match (P.info? elem).bind (·.zero) with
        | some z => if plainV z then some (if ok then .tuple ⟨[z, .bool false]⟩ else z) else none
        | none => none
      | none => none
    else none
  | _ => none
def lenM (P : Program) (H : Heap) (t : TypeId) (x : Value) : Option Value :=
  match P.underlying t, x with
  | some (.map _ _), .map (some r) => match H.get r with
    | some (.map es _) => some (goInt es.length)
    | _ => none
  | _, _ => none
def evR (P : Program) (ρ : Operand → Option Value) (H : Heap) (op : Op) : Option Value :=
  match op with
  | .load t a => match ρ a with | some v => loadV P H t v | none => none
  | .convert s d x => match ρ x with | some v => strOfV P H s d v | none => none
  | .lookup t x ix ok => match ρ x, ρ ix with
    | some v, some k => lookupV P H t v k ok
    | _, _ => none
  | .call c => match c.callee with
    | .builtin .len => match c.args.toList, c.argTypes.toList with
      | [x], t :: _ => match ρ x with | some v => lenM P H t v | none => none
      | _, _ => none
    | _ => none
  | _ => none
section
variable {P : Program} {φ : Phi} {ρ : Operand → Option Value} {ev : Operand → Value}
theorem keyOk_run {b : Bool} : ∀ (d n : Nat) (t : TypeId) (v : Value), plainV v = true → keyOk P d t v = true → d ≤ n → RunsTo P (Instr.checkKey b n t v) ()
  | 0, _, _, _, _, h, _ => by simp [keyOk] at h
  | d + 1, 0, _, _, _, _, h => by omega
  | d + 1, n + 1, t, v, hp, h, hn => by
    intro w
    unfold keyOk at h
    unfold Instr.checkKey
    split at h
    · next fs hu =>
      rw [bind_ok (underlying_run hu)]
      split at h
      · next l =>
        simp only []
        have key : ∀ (fl : List Field), (∀ f ∈ fl, (match partV P f.type l f.offset with | some u => plainV u && keyOk P d f.type u | none => false) = true) →
            (forIn fl () fun f __s => do
              if f.name ≠ "_" then
                Instr.checkKey b n f.type (← part f.type l.toArray f.offset)
                pure (ForInStep.yield ())
              else pure (ForInStep.yield ()) : Sem Unit).run P w = .ok () w := by
          intro fl
          induction fl with
          | nil => intro _; rfl
          | cons f fl ih =>
            intro hall
            rw [List.forIn_cons]
            have hf := hall f (by simp)
            split at hf
            · next u hu' =>
              simp only [Bool.and_eq_true] at hf
              obtain ⟨U, g1, g2⟩ := partV_ok (φ := ⟨fun _ => none, fun _ => none⟩) hu' (concL_plain (by simpa [plainV] using hp))
              rw [conc_plainV hf.1] at g1; cases g1
              split
              · rw [run_bind, bind_ok (g2 w), bind_ok (keyOk_run d n f.type u hf.1 hf.2 (by omega) w)]
                exact ih fun g hg => hall g (by simp [hg])
              · rw [run_bind]
                exact ih fun g hg => hall g (by simp [hg])
            · cases hf
        have := key fs.toList (fun f hf => (List.all_eq_true.1 h) f hf)
        rw [Array.forIn_toList] at this
        exact (bind_ok this).trans rfl
      · cases h
    · cases h
    · cases h
    · next d' h1 h2 h3 hu =>
      rw [bind_ok (underlying_run hu)]
      cases d' <;> first | rfl | (exact absurd rfl (h1 _)) | (exact absurd rfl (h2 _ _)) | (exact absurd rfl (h3 _)) | (cases v <;> rfl)
    · cases h
theorem sameNow_eq {d : Nat} {kt : TypeId} {kd : TypeDesc} {x y Y : Value} {b : Bool} (hu : P.underlying kt = some kd) (h : eqV P (d + 1) kt x y = some b) (hy : conc φ y = some Y) :
    Instr.sameNow kd x Y = some b ∨ Instr.sameNow kd x Y = none := by
  unfold eqV at h
  rw [hu] at h
  cases kd
  case int ik =>
    cases x <;> cases y <;> try (simp at h; done)
    case int.int =>
      simp at h
      simp only [conc, Option.some.injEq] at hy; subst hy
      left
      simp only [Instr.sameNow, if_pos h.1, h.2]
    case int.float k a fk n =>
      cases fk
      · simp at h
      · cases k <;> try (simp at h; done)
        have h' : tokCmp .eql n a = some b := h
        obtain ⟨m, rfl, e⟩ := tokFlip_ok (op := .eql) h' (conc_tok hy) kt
        rw [cmp_eql] at e
        cases e
        exact .inl rfl
    all_goals exact .inr rfl
  case string =>
    cases x <;> cases y <;> try (simp at h; done)
    case string.string =>
      simp at h
      simp only [conc, Option.some.injEq] at hy; subst hy
      left
      simp only [Instr.sameNow, h]
    all_goals exact .inr rfl
  case bool =>
    cases x <;> cases y <;> simp at h
    simp only [conc, Option.some.injEq] at hy; subst hy
    left
    simp only [Instr.sameNow, h]
  all_goals exact .inr rfl
theorem find_run {kt : TypeId} {kd : TypeDesc} {k : Value} (hu : P.underlying kt = some kd) (hk : conc φ k = some k) : ∀ (es : List (Value × Value × Nat)) (en : List MapEntry) (i : Nat) (r : Option (Nat × Value)),
    en.length = es.length → (∀ (j : Nat) e, es[j]? = some e → ∃ m, en[j]? = some m ∧ entIn φ e m) → findV P kt k es i = some r →
    ∃ R, (∀ w, (Instr.findAsking kt k en i).run P w = .ok R w) ∧ (∀ s, Instr.findNow kd k en i = some s → s = R) ∧
      (match r with | none => R = none | some (j, v) => ∃ V m, R = some (j, V) ∧ conc φ v = some V ∧ i ≤ j ∧ en[j - i]? = some m ∧ m.val = V)
  | [], en, i, r, hl, _, h => by
    cases en with
    | nil => cases h; exact ⟨none, fun w => rfl, fun s hs => by cases hs; rfl, rfl⟩
    | cons => simp at hl
  | e :: es, en, i, r, hl, hall, h => by
    cases en with
    | nil => simp at hl
    | cons m en =>
      obtain ⟨m', hm, h1, h2, h3⟩ := hall 0 e rfl
      simp at hm; subst hm
      unfold findV at h
      split at h
      · next he =>
        cases h
        have hq := eqV_ok _ _ _ _ _ _ _ he hk h1
        refine ⟨some (i, m.val), fun w => ?_, fun s hs => ?_, m.val, m, rfl, h2, Nat.le_refl _, by simp, rfl⟩
        · unfold Instr.findAsking Op.equal
          rw [bind_ok (hq w)]; rfl
        · unfold Instr.findNow at hs
          have := sameNow_eq (d := 9999) hu he h1
          rcases this with h4 | h4 <;> rw [h4] at hs
          · cases hs; rfl
          · cases hs
      · next he =>
        have hq := eqV_ok _ _ _ _ _ _ _ he hk h1
        obtain ⟨R, g1, g2, g3⟩ := find_run hu hk es en (i + 1) r (by simpa using hl) (fun j e' hj => by simpa using hall (j + 1) e' (by simpa using hj)) h
        refine ⟨R, fun w => ?_, fun s hs => ?_, ?_⟩
        · unfold Instr.findAsking Op.equal
          rw [bind_ok (hq w)]; exact g1 w
        · unfold Instr.findNow at hs
          rcases sameNow_eq (d := 9999) hu he h1 with h4 | h4 <;> rw [h4] at hs
          · exact g2 s hs
          · cases hs
        · cases r with
          | none => exact g3
          | some p => obtain ⟨V, m2, e1, e2, e3, e4, e5⟩ := g3; exact ⟨V, m2, e1, e2, by omega, by rw [show p.1 - i = (p.1 - (i + 1)) + 1 by omega]; simpa using e4, e5⟩
      · cases h
end
end Ev
end Go.Proofs.YtifoekadjnlhcaaGreatDoor
noncomputable section
namespace Go.Proofs.YtifoekadjnlhcaaGreatDoor
open Go.RowKit
set_option linter.unusedVariables false
set_option linter.unusedSimpArgs false
namespace Ev
section
variable {P : Program} {φ : Phi} {ρ : Operand → Option Value} {ev : Operand → Value} {H : Heap} {w : World}
theorem concA_none {a A : Addr} (hs : a.spot = none) (h : concA φ a = some A) : ∃ B, φ.at_ a.block = some B ∧ A = ⟨B.blk, B.base + a.off, none⟩ := by
  unfold concA at h
  cases hb : φ.at_ a.block with
  | none => rw [hb] at h; cases h
  | some B => rw [hb, hs] at h; cases h; exact ⟨B, rfl, rfl⟩
theorem loadV_ok {t : TypeId} {x v X : Value} (hR : Rel φ H w) (h : loadV P H t x = some v) (hx : conc φ x = some X) : ∃ V, conc φ v = some V ∧ (Instr.loadAt t X).run P w = .ok V w := by
  unfold loadV at h
  split at h
  · next a =>
    obtain ⟨hs, A, hA, rfl⟩ := conc_ptr hx
    obtain ⟨B, hB, rfl⟩ := concA_none hs hA
    have start : (Instr.loadAt t (.pointer (some ⟨B.blk, B.base + a.off, none⟩))).run P w = (loadVar t ⟨B.blk, B.base + a.off, none⟩).run P w := by
      unfold Instr.loadAt; exact bind_ok (show (Instr.sureAddr _).run P w = .ok _ w from rfl)
    split at h
    · next hagg =>
      split at h
      · next n hn =>
        cases hl : H.load a.block a.off n with
        | none => rw [hl] at h; cases h
        | some vs =>
          rw [hl] at h; cases h
          obtain ⟨cs, el, fr, g1, g2, g3, g4⟩ := hR.load hl hB
          refine ⟨.agg (cs.extract (B.base + a.off) (B.base + a.off + n)), by simp only [conc, g4]; rfl, ?_⟩
          rw [start]; unfold loadVar
          rw [bind_ok (isAgg_run hagg)]
          simp only [if_true]
          rw [bind_ok (sizeOf_run hn), bind_ok (loadCells_run g1 g2)]; rfl
      · cases h
    · next hagg =>
      split at h
      · next u hl =>
        cases h
        obtain ⟨cs, el, fr, g1, g2, g3, g4⟩ := hR.load hl hB
        obtain ⟨y, g5, g6⟩ := concL_get g4 0 _ rfl
        refine ⟨y, g6, ?_⟩
        rw [start]; unfold loadVar
        rw [bind_ok (isAgg_run hagg)]
        simp only [Bool.false_eq_true, if_false]
        refine load_run ?_
        rw [cell_of g1]
        rw [Array.getElem?_toList, Array.getElem?_extract] at g5
        split at g5
        · simpa using g5
        · cases g5
      · cases h
    · cases h
  · cases h
theorem bytes_run : ∀ (vs : List Value) (b : List UInt8) (C : List Value) (s : ByteArray), bytesV vs = some b → concL φ vs = some C →
    ∀ w, (forIn C s fun (c : Value) (r : ByteArray) => match c with
      | .int .u8 n => (pure (ForInStep.yield (r.push (UInt8.ofNat n.toNat))) : Sem (ForInStep ByteArray))
      | x => do
        stuck "bytesToString: byte expected"
        pure (ForInStep.yield r) : Sem ByteArray).run P w = .ok ⟨⟨s.data.toList ++ b⟩⟩ w
  | [], b, C, s, hb, hC, w => by
    cases hb; simp [concL] at hC; subst hC
    simp only [List.forIn_nil, run_pure, List.append_nil]
  | v :: vs, b, C, s, hb, hC, w => by
    simp only [concL] at hC
    cases hv : conc φ v with
    | none => rw [hv] at hC; simp at hC
    | some V =>
      cases hvs : concL φ vs with
      | none => rw [hv, hvs] at hC; simp at hC
      | some VS =>
        rw [hv, hvs] at hC; simp at hC; subst hC
        unfold bytesV at hb
        split at hb
        · next he => cases he
        · next n l he =>
          cases he
          cases hbs : bytesV vs with
          | none => rw [hbs] at hb; cases hb
          | some bs =>
            rw [hbs] at hb; cases hb
            simp only [conc, Option.some.injEq] at hv; subst hv
            rw [List.forIn_cons]
            simp only []
            rw [bind_ok (run_pure P _ w)]
            have := bytes_run vs bs VS (s.push (UInt8.ofNat n.toNat)) hbs hvs w
            simp only []
            rw [this]
            congr 3
            simp [ByteArray.push]
        · cases hb
theorem strOfV_ok {s d : TypeId} {x v X : Value} (hR : Rel φ H w) (h : strOfV P H s d x = some v) (hx : conc φ x = some X) : ∃ V, conc φ v = some V ∧ (Go.convert s d X).run P w = .ok V w := by
  unfold strOfV at h
  split at h
  · next e n c h1 h2 =>
    split at h
    · next h3 =>
      cases h
      simp [conc] at hx; subst hx
      refine ⟨_, rfl, ?_⟩
      unfold Go.convert
      rw [bind_ok (underlying_run h1), bind_ok (underlying_run h2)]
      simp only []
      rw [bind_ok (underlying_run h3)]; rfl
    · cases h
  · next e a n c h1 h2 =>
    split at h
    · next h3 =>
      split at h
      · next l hs hl =>
        cases hb : bytesV l with
        | none => rw [hb] at h; cases h
        | some b =>
          rw [hb] at h; cases h
          obtain ⟨B, A, hB, hA, rfl⟩ := conc_slice hx
          obtain ⟨B', hB', rfl⟩ := concA_none hs hA
          rw [hB] at hB'; cases hB'
          obtain ⟨cs, el, fr, g1, g2, g3, g4⟩ := hR.load hl hB
          refine ⟨_, rfl, ?_⟩
          unfold Go.convert
          rw [bind_ok (underlying_run h1), bind_ok (underlying_run h2)]
          simp only []
          rw [bind_ok (underlying_run h3)]
          simp only []
          unfold Conv.bytesToString
          simp only []
          rw [bind_ok (loadCells_run g1 g2)]
          have := bytes_run (P := P) l b _ .empty hb g4 w
          rw [Array.forIn_toList] at this
          exact (bind_ok this).trans rfl
      · cases h
    · cases h
  · cases h
def lookRest (key elem : TypeId) (ix : Value) (ok : Bool) (es : Array MapEntry) : Sem Value := do
  Instr.checkKey es.isEmpty 10000 key ix
  match ← Instr.findKey key ix es.toList with
  | some (_, v) => do
    let x ← pure (v, true)
    pure (if ok then .tuple #[x.1, .bool x.2] else x.1)
  | none => do
    let z ← zeroValue elem
    let x ← pure (z, false)
    pure (if ok then .tuple #[x.1, .bool x.2] else x.1)
theorem findKey_run {key : TypeId} {ix : Value} {es : List (Value × Value × Nat)} {en : Array MapEntry} {r : Option (Nat × Value)} (hk : (plainV ix && keyOk P 4 key ix) = true) (hl : en.size = es.length) (hall : ∀ (j : Nat) e, es[j]? = some e → ∃ m, en[j]? = some m ∧ entIn φ e m)
    (hfv : findV P key ix es 0 = some r) : ∃ R, (Instr.findKey key ix en.toList).run P w = .ok R w ∧ (match r with | none => R = none | some (j, v) => ∃ V m, R = some (j, V) ∧ conc φ v = some V ∧ en[j]? = some m ∧ m.val = V) := by
  simp only [Bool.and_eq_true] at hk
  obtain ⟨kd, hkd⟩ : ∃ kd, P.underlying key = some kd := by
    cases hkd : P.underlying key with
    | some kd => exact ⟨kd, rfl⟩
    | none => have := hk.2; unfold keyOk at this; rw [hkd] at this; cases this
  obtain ⟨R, g1, g2, g3⟩ := find_run hkd (conc_plainV hk.1) es en.toList 0 r (by simpa using hl) (fun j e he => by simpa using hall j e he) hfv
  refine ⟨R, ?_, ?_⟩
  · unfold Instr.findKey
    rw [bind_ok (underlying_run hkd)]
    split
    · next s hs => rw [g2 s hs]; rfl
    · exact g1 w
  · cases r with
    | none => exact g3
    | some p => obtain ⟨V, m, e1, e2, _, e4, e5⟩ := g3; exact ⟨V, m, e1, e2, by simpa using e4, e5⟩
theorem lookRest_ok {key elem : TypeId} {ix v : Value} {ok : Bool} {es : List (Value × Value × Nat)} {en : Array MapEntry} {r : Option (Nat × Value)} (hk : (plainV ix && keyOk P 4 key ix) = true)
    (hl : en.size = es.length) (hall : ∀ (j : Nat) e, es[j]? = some e → ∃ m, en[j]? = some m ∧ entIn φ e m) (hfv : findV P key ix es 0 = some r)
    (h : (match r with
      | some (_, v) => some (if ok then .tuple ⟨[v, .bool true]⟩ else v)
      | none => match (P.info? elem).bind (·.zero) with
        | some z => if plainV z then some (if ok then .tuple ⟨[z, .bool false]⟩ else z) else none
        | none => none) = some v) : ∃ V, conc φ v = some V ∧ (lookRest key elem ix ok en).run P w = .ok V w := by
  obtain ⟨R, g1, g2⟩ := findKey_run (w := w) hk hl hall hfv
  simp only [Bool.and_eq_true] at hk
  unfold lookRest
  rw [bind_ok (keyOk_run 4 10000 key ix hk.1 hk.2 (by omega) w), bind_ok g1]
  cases r with
  | some p =>
    obtain ⟨j, u⟩ := p
    obtain ⟨V, m, rfl, g3, _⟩ := g2
    simp only [Option.some.injEq] at h; subst h
    refine ⟨if ok then .tuple #[V, .bool true] else V, ?_, ?_⟩
    · cases ok
      · exact g3
      · simp [conc, concL, g3]
    · rfl
  | none =>
    simp only at g2; subst g2
    simp only at h
    split at h
    · next z hz =>
      split at h
      · next hzp =>
        cases h
        have hzc : conc φ z = some z := conc_plainV hzp
        refine ⟨if ok then .tuple #[z, .bool false] else z, ?_, ?_⟩
        · cases ok
          · exact hzc
          · simp [conc, concL, hzc]
        · simp only []
          rw [bind_ok (zeroValue_run hz)]; rfl
      · cases h
    · cases h
theorem lookupV_ok {t : TypeId} {x ix v X I : Value} {ok : Bool} (hR : Rel φ H w) (h : lookupV P H t x ix ok = some v) (hx : conc φ x = some X) (hi : conc φ ix = some I) :
    ∃ V, conc φ v = some V ∧ (Instr.lookup t X I ok).run P w = .ok V w := by
  unfold lookupV at h
  split at h
  · next key elem hu =>
    split at h
    · next hk =>
      have hk' := hk
      simp only [Bool.and_eq_true] at hk'
      rw [conc_plainV hk'.1] at hi; cases hi
      cases x
      case map r =>
        cases r with
        | none =>
          simp [conc] at hx; subst hx
          have start : (Instr.lookup t (.map none) ix ok).run P w = (lookRest key elem ix ok #[]).run P w := by
            unfold Instr.lookup
            rw [bind_ok (underlying_run hu)]
            rfl
          rw [start]
          exact lookRest_ok (es := []) (r := none) hk rfl (by simp) rfl h
        | some r =>
          obtain ⟨B, hB, rfl⟩ := conc_map hx
          simp only at h
          cases hg : H.get r with
          | none => simp only [hg] at h; cases h
          | some o =>
            cases o
            case map es clock =>
              obtain ⟨c, hc, en, rfl, hsz, hall⟩ := hR.objs _ _ _ hg hB
              have start : (Instr.lookup t (.map (some B.blk)) ix ok).run P w = (lookRest key elem ix ok en).run P w := by
                unfold Instr.lookup
                rw [bind_ok (underlying_run hu)]
                simp only []
                have e : (getObj B.blk).run P w = .ok (.map en clock) w := by
                  unfold getObj; simp only [Sem.run, hc]
                rw [bind_ok e]; rfl
              rw [start]
              simp only [hg] at h
              cases hfv : findV P key ix es 0 with
              | none => rw [hfv] at h; cases h
              | some r' =>
                refine lookRest_ok hk hsz hall hfv ?_
                rw [hfv] at h
                cases r' with
                | none => exact h
                | some p => exact h
            all_goals (simp only [hg] at h; cases h)
      all_goals (simp only at h; cases h)
    · cases h
  · cases h
theorem evR_ok (hR : Rel φ H w) (hρ : ∀ x u, ρ x = some u → conc φ u = some (ev x)) {o : Oper} {v : Value} (h : evR P ρ H o.op = some v) : ∃ V, conc φ v = some V ∧ (execOp ev o).run P w = .ok (.value V) w := by
  have wrap : ∀ {s : Sem Value} {V : Value}, s.run P w = .ok V w → (do pure (Next.value (← s)) : Sem Next).run P w = .ok (.value V) w := fun h => by rw [bind_ok h]; rfl
  obtain ⟨dst, op, ty, pos, after, guard⟩ := o
  simp only at h
  unfold evR at h
  split at h
  · next t a =>
    split at h
    · next u hu => obtain ⟨V, h1, h2⟩ := loadV_ok hR h (hρ _ _ hu); exact ⟨V, h1, wrap h2⟩
    · cases h
  · next s d x =>
    split at h
    · next u hu => obtain ⟨V, h1, h2⟩ := strOfV_ok hR h (hρ _ _ hu); exact ⟨V, h1, wrap h2⟩
    · cases h
  · next t x ix ok =>
    split at h
    · next u k hu hk => obtain ⟨V, h1, h2⟩ := lookupV_ok hR h (hρ _ _ hu) (hρ _ _ hk); exact ⟨V, h1, wrap h2⟩
    · cases h
  · next c =>
    split at h
    · next hc =>
      split at h
      · next x t ts hx ht =>
        split at h
        · next u hu =>
          have hcu := hρ _ _ hu
          unfold lenM at h
          split at h
          · next k e r hund =>
            split at h
            · next es clock hg =>
              cases h
              obtain ⟨B, hB, he⟩ := conc_map hcu
              obtain ⟨cc, hcc, en, rfl, hsz, hall⟩ := hR.objs _ _ _ hg hB
              refine ⟨goInt es.length, rfl, ?_⟩
              have hargs : c.args.map ev = #[.map (some B.blk)] := by apply Array.toList_inj.1; simp [hx, he]
              have ht0 : c.argTypes[0]? = some t := by rw [← Array.getElem?_toList, ht]; rfl
              unfold execOp
              simp only
              unfold resolve
              rw [hc]
              simp only
              rw [bind_ok (run_pure P _ w)]
              show (do pure (Next.value (← Builtin.len_ c.argTypes ty (c.args.map ev))) : Sem Next).run P w = _
              rw [hargs]
              refine wrap (s := Builtin.len_ c.argTypes ty #[.map (some B.blk)]) ?_
              unfold Builtin.len_
              rw [ht0]
              show (Sem.bind (underlying t) _).run P w = _
              refine (bind_ok (underlying_run hund)).trans ?_
              show (Sem.bind (getObj B.blk) _).run P w = _
              simp only [getObj, Sem.bind, Sem.run, hcc]
              rw [hsz]; rfl
            · cases h
          · cases h
        · cases h
      · cases h
    · cases h
  · cases h
end
end Ev
end Go.Proofs.YtifoekadjnlhcaaGreatDoor
