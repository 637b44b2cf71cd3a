/- THE ENGINE, 11: operations that read memory, and operations that make a block. -/
import Derived.Test.YtepdkcikkemieaaGreatEvJ
noncomputable section
namespace Go.Proofs.YtepdkcikkemieaaGreat
open Go.RowKit
set_option linter.unusedVariables false
set_option linter.unusedSimpArgs false
namespace Ev

/-! ### Keys of maps -/
def keyOk (P : Program) : Nat → TypeId → Value → Bool
  | 0, _, _ => false
  | d + 1, t, v => match P.underlying t with
    | some (.struct fs) => match v with
      | .agg ⟨l⟩ => fs.toList.all fun f => match partV P f.type l f.offset with
        | some u => plainV u && keyOk P d f.type u
        | none => false
      | _ => false
    | some (.array _ _) => false
    | some (.interface _) => false
    | some _ => true
    | none => false
def findV (P : Program) (kt : TypeId) (k : Value) : List (Value × Value × Nat) → Nat → Option (Option (Nat × Value))
  | [], _ => some none
  | e :: es, i => match eqV P Op.maxDepth kt k e.1 with
    | some true => some (some (i, e.2.1))
    | some false => findV P kt k es (i + 1)
    | none => none
def loadV (P : Program) (H : Heap) (t : TypeId) (a : Value) : Option Value :=
  match a with
  | .pointer (some a) => match tAgg P t with
    | some true => match tSize P t with
      | some n => (H.load a.block a.off n).map fun l => .agg ⟨l⟩
      | none => none
    | some false => match H.load a.block a.off 1 with
      | some [v] => some v
      | _ => none
    | none => none
  | _ => none
def bytesV : List Value → Option (List UInt8)
  | [] => some []
  | .int .u8 n :: l => (bytesV l).map (UInt8.ofNat n.toNat :: ·)
  | _ => none
def strOfV (P : Program) (H : Heap) (s d : TypeId) (x : Value) : Option Value :=
  match P.underlying s, P.underlying d, x with
  | some (.slice e), some .string, .slice none _ _ => match P.underlying e with
    | some (.int .u8) => some (.string .empty)
    | _ => none
  | some (.slice e), some .string, .slice (some a) n _ => match P.underlying e with
    | some (.int .u8) => match a.spot, H.load a.block a.off n with
      | none, some l => (bytesV l).map fun b => .string ⟨⟨b⟩⟩
      | _, _ => none
    | _ => none
  | _, _, _ => none
def lookupV (P : Program) (H : Heap) (t : TypeId) (x ix : Value) (ok : Bool) : Option Value :=
  match P.underlying t with
  | some (.map key elem) =>
    if plainV ix && keyOk P 4 key ix then
      match (match x with
        | .map none => some none
        | .map (some r) => match H.get r with
          | some (.map es _) => findV P key ix es 0
          | _ => none
        | _ => none) with
      | some (some (_, v)) => some (if ok then .tuple ⟨[v, .bool true]⟩ else v)
      | some none => match (P.info? elem).bind (·.zero) with
        | some z => if plainV z then some (if ok then .tuple ⟨[z, .bool false]⟩ else z) else none
        | none => none
      | none => none
    else none
  | _ => none
def lenM (P : Program) (H : Heap) (t : TypeId) (x : Value) : Option Value :=
  match P.underlying t, x with
  | some (.map _ _), .map (some r) => match H.get r with
    | some (.map es _) => some (goInt es.length)
    | _ => none
  | _, _ => none
def evR (P : Program) (ρ : Operand → Option Value) (H : Heap) (op : Op) : Option Value :=
  match op with
  | .load t a => match ρ a with | some v => loadV P H t v | none => none
  | .convert s d x => match ρ x with | some v => strOfV P H s d v | none => none
  | .lookup t x ix ok => match ρ x, ρ ix with
    | some v, some k => lookupV P H t v k ok
    | _, _ => none
  | .call c => match c.callee with
    | .builtin .len => match c.args.toList, c.argTypes.toList with
      | [x], t :: _ => match ρ x with | some v => lenM P H t v | none => none
      | _, _ => none
    | _ => none
  | _ => none
section
variable {P : Program} {φ : Phi} {ρ : Operand → Option Value} {ev : Operand → Value}
theorem keyOk_run {b : Bool} : ∀ (d n : Nat) (t : TypeId) (v : Value), plainV v = true → keyOk P d t v = true → d ≤ n → RunsTo P (Instr.checkKey b n t v) ()
  | 0, _, _, _, _, h, _ => by simp [keyOk] at h
  | d + 1, 0, _, _, _, _, h => by omega
  | d + 1, n + 1, t, v, hp, h, hn => by
    intro w
    unfold keyOk at h
    unfold Instr.checkKey
    split at h
    · next fs hu =>
      rw [bind_ok (underlying_run hu)]
      split at h
      · next l =>
        simp only []
        have key : ∀ (fl : List Field), (∀ f ∈ fl, (match partV P f.type l f.offset with | some u => plainV u && keyOk P d f.type u | none => false) = true) →
            (forIn fl () fun f __s => do
              if f.name ≠ "_" then
                Instr.checkKey b n f.type (← part f.type l.toArray f.offset)
                pure (ForInStep.yield ())
              else pure (ForInStep.yield ()) : Sem Unit).run P w = .ok () w := by
          intro fl
          induction fl with
          | nil => intro _; rfl
          | cons f fl ih =>
            intro hall
            rw [List.forIn_cons]
            have hf := hall f (by simp)
            split at hf
            · next u hu' =>
              simp only [Bool.and_eq_true] at hf
              obtain ⟨U, g1, g2⟩ := partV_ok (φ := ⟨fun _ => none, fun _ => none⟩) hu' (concL_plain (by simpa [plainV] using hp))
              rw [conc_plainV hf.1] at g1; cases g1
              split
              · rw [run_bind, bind_ok (g2 w), bind_ok (keyOk_run d n f.type u hf.1 hf.2 (by omega) w)]
                exact ih fun g hg => hall g (by simp [hg])
              · rw [run_bind]
                exact ih fun g hg => hall g (by simp [hg])
            · cases hf
        have := key fs.toList (fun f hf => (List.all_eq_true.1 h) f hf)
        rw [Array.forIn_toList] at this
        exact (bind_ok this).trans rfl
      · cases h
    · cases h
    · cases h
    · next d' h1 h2 h3 hu =>
      rw [bind_ok (underlying_run hu)]
      cases d' <;> first | rfl | (exact absurd rfl (h1 _)) | (exact absurd rfl (h2 _ _)) | (exact absurd rfl (h3 _)) | (cases v <;> rfl)
    · cases h
theorem sameNow_eq {d : Nat} {kt : TypeId} {kd : TypeDesc} {x y Y : Value} {b : Bool} (hu : P.underlying kt = some kd) (h : eqV P (d + 1) kt x y = some b) (hy : conc φ y = some Y) :
    Instr.sameNow kd x Y = some b ∨ Instr.sameNow kd x Y = none := by
  unfold eqV at h
  rw [hu] at h
  cases kd
  case int ik =>
    cases x <;> cases y <;> try (simp at h; done)
    case int.int =>
      simp at h
      simp only [conc, Option.some.injEq] at hy; subst hy
      left
      simp only [Instr.sameNow, if_pos h.1, h.2]
    case int.float k a fk n =>
      cases fk
      · simp at h
      · cases k <;> try (simp at h; done)
        have h' : tokCmp .eql n a = some b := h
        obtain ⟨m, rfl, e⟩ := tokFlip_ok (op := .eql) h' (conc_tok hy) kt
        rw [cmp_eql] at e
        cases e
        exact .inl rfl
    all_goals exact .inr rfl
  case string =>
    cases x <;> cases y <;> try (simp at h; done)
    case string.string =>
      simp at h
      simp only [conc, Option.some.injEq] at hy; subst hy
      left
      simp only [Instr.sameNow, h]
    all_goals exact .inr rfl
  case bool =>
    cases x <;> cases y <;> simp at h
    simp only [conc, Option.some.injEq] at hy; subst hy
    left
    simp only [Instr.sameNow, h]
  all_goals exact .inr rfl
theorem find_run {kt : TypeId} {kd : TypeDesc} {k : Value} (hu : P.underlying kt = some kd) (hk : conc φ k = some k) : ∀ (es : List (Value × Value × Nat)) (en : List MapEntry) (i : Nat) (r : Option (Nat × Value)),
    en.length = es.length → (∀ (j : Nat) e, es[j]? = some e → ∃ m, en[j]? = some m ∧ entIn φ e m) → findV P kt k es i = some r →
    ∃ R, (∀ w, (Instr.findAsking kt k en i).run P w = .ok R w) ∧ (∀ s, Instr.findNow kd k en i = some s → s = R) ∧
      (match r with | none => R = none | some (j, v) => ∃ V m, R = some (j, V) ∧ conc φ v = some V ∧ i ≤ j ∧ en[j - i]? = some m ∧ m.val = V)
  | [], en, i, r, hl, _, h => by
    cases en with
    | nil => cases h; exact ⟨none, fun w => rfl, fun s hs => by cases hs; rfl, rfl⟩
    | cons => simp at hl
  | e :: es, en, i, r, hl, hall, h => by
    cases en with
    | nil => simp at hl
    | cons m en =>
      obtain ⟨m', hm, h1, h2, h3⟩ := hall 0 e rfl
      simp at hm; subst hm
      unfold findV at h
      split at h
      · next he =>
        cases h
        have hq := eqV_ok _ _ _ _ _ _ _ he hk h1
        refine ⟨some (i, m.val), fun w => ?_, fun s hs => ?_, m.val, m, rfl, h2, Nat.le_refl _, by simp, rfl⟩
        · unfold Instr.findAsking Op.equal
          rw [bind_ok (hq w)]; rfl
        · unfold Instr.findNow at hs
          have := sameNow_eq (d := 9999) hu he h1
          rcases this with h4 | h4 <;> rw [h4] at hs
          · cases hs; rfl
          · cases hs
      · next he =>
        have hq := eqV_ok _ _ _ _ _ _ _ he hk h1
        obtain ⟨R, g1, g2, g3⟩ := find_run hu hk es en (i + 1) r (by simpa using hl) (fun j e' hj => by simpa using hall (j + 1) e' (by simpa using hj)) h
        refine ⟨R, fun w => ?_, fun s hs => ?_, ?_⟩
        · unfold Instr.findAsking Op.equal
          rw [bind_ok (hq w)]; exact g1 w
        · unfold Instr.findNow at hs
          rcases sameNow_eq (d := 9999) hu he h1 with h4 | h4 <;> rw [h4] at hs
          · exact g2 s hs
          · cases hs
        · cases r with
          | none => exact g3
          | some p => obtain ⟨V, m2, e1, e2, e3, e4, e5⟩ := g3; exact ⟨V, m2, e1, e2, by omega, by rw [show p.1 - i = (p.1 - (i + 1)) + 1 by omega]; simpa using e4, e5⟩
      · cases h
end
end Ev
end Go.Proofs.YtepdkcikkemieaaGreat
