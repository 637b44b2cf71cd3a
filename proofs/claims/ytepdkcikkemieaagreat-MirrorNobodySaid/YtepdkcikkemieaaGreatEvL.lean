/- THE ENGINE, 12: operations that read memory. -/
import Derived.Test.YtepdkcikkemieaaGreatEvK
noncomputable section
namespace Go.Proofs.YtepdkcikkemieaaGreat
open Go.RowKit
set_option linter.unusedVariables false
set_option linter.unusedSimpArgs false
namespace Ev

section
variable {P : Program} {φ : Phi} {ρ : Operand → Option Value} {ev : Operand → Value} {H : Heap} {w : World}
theorem concA_none {a A : Addr} (hs : a.spot = none) (h : concA φ a = some A) : ∃ B, φ.at_ a.block = some B ∧ A = ⟨B.blk, B.base + a.off, none⟩ := by
  unfold concA at h
  cases hb : φ.at_ a.block with
  | none => rw [hb] at h; cases h
  | some B => rw [hb, hs] at h; cases h; exact ⟨B, rfl, rfl⟩
theorem loadV_ok {t : TypeId} {x v X : Value} (hR : Rel φ H w) (h : loadV P H t x = some v) (hx : conc φ x = some X) : ∃ V, conc φ v = some V ∧ (Instr.loadAt t X).run P w = .ok V w := by
  unfold loadV at h
  split at h
  · next a =>
    obtain ⟨hs, A, hA, rfl⟩ := conc_ptr hx
    obtain ⟨B, hB, rfl⟩ := concA_none hs hA
    have start : (Instr.loadAt t (.pointer (some ⟨B.blk, B.base + a.off, none⟩))).run P w = (loadVar t ⟨B.blk, B.base + a.off, none⟩).run P w := by
      unfold Instr.loadAt; exact bind_ok (show (Instr.sureAddr _).run P w = .ok _ w from rfl)
    split at h
    · next hagg =>
      split at h
      · next n hn =>
        cases hl : H.load a.block a.off n with
        | none => rw [hl] at h; cases h
        | some vs =>
          rw [hl] at h; cases h
          obtain ⟨cs, el, fr, g1, g2, g3, g4⟩ := hR.load hl hB
          refine ⟨.agg (cs.extract (B.base + a.off) (B.base + a.off + n)), by simp only [conc, g4]; rfl, ?_⟩
          rw [start]; unfold loadVar
          rw [bind_ok (isAgg_run hagg)]
          simp only [if_true]
          rw [bind_ok (sizeOf_run hn), bind_ok (loadCells_run g1 g2)]; rfl
      · cases h
    · next hagg =>
      split at h
      · next u hl =>
        cases h
        obtain ⟨cs, el, fr, g1, g2, g3, g4⟩ := hR.load hl hB
        obtain ⟨y, g5, g6⟩ := concL_get g4 0 _ rfl
        refine ⟨y, g6, ?_⟩
        rw [start]; unfold loadVar
        rw [bind_ok (isAgg_run hagg)]
        simp only [Bool.false_eq_true, if_false]
        refine load_run ?_
        rw [cell_of g1]
        rw [Array.getElem?_toList, Array.getElem?_extract] at g5
        split at g5
        · simpa using g5
        · cases g5
      · cases h
    · cases h
  · cases h
theorem bytes_run : ∀ (vs : List Value) (b : List UInt8) (C : List Value) (s : ByteArray), bytesV vs = some b → concL φ vs = some C →
    ∀ w, (forIn C s fun (c : Value) (r : ByteArray) => match c with
      | .int .u8 n => (pure (ForInStep.yield (r.push (UInt8.ofNat n.toNat))) : Sem (ForInStep ByteArray))
      | x => do
        stuck "bytesToString: byte expected"
        pure (ForInStep.yield r) : Sem ByteArray).run P w = .ok ⟨⟨s.data.toList ++ b⟩⟩ w
  | [], b, C, s, hb, hC, w => by
    cases hb; simp [concL] at hC; subst hC
    simp only [List.forIn_nil, run_pure, List.append_nil]
  | v :: vs, b, C, s, hb, hC, w => by
    simp only [concL] at hC
    cases hv : conc φ v with
    | none => rw [hv] at hC; simp at hC
    | some V =>
      cases hvs : concL φ vs with
      | none => rw [hv, hvs] at hC; simp at hC
      | some VS =>
        rw [hv, hvs] at hC; simp at hC; subst hC
        unfold bytesV at hb
        split at hb
        · next he => cases he
        · next n l he =>
          cases he
          cases hbs : bytesV vs with
          | none => rw [hbs] at hb; cases hb
          | some bs =>
            rw [hbs] at hb; cases hb
            simp only [conc, Option.some.injEq] at hv; subst hv
            rw [List.forIn_cons]
            simp only []
            rw [bind_ok (run_pure P _ w)]
            have := bytes_run vs bs VS (s.push (UInt8.ofNat n.toNat)) hbs hvs w
            simp only []
            rw [this]
            congr 3
            simp [ByteArray.push]
        · cases hb
theorem strOfV_ok {s d : TypeId} {x v X : Value} (hR : Rel φ H w) (h : strOfV P H s d x = some v) (hx : conc φ x = some X) : ∃ V, conc φ v = some V ∧ (Go.convert s d X).run P w = .ok V w := by
  unfold strOfV at h
  split at h
  · next e n c h1 h2 =>
    split at h
    · next h3 =>
      cases h
      simp [conc] at hx; subst hx
      refine ⟨_, rfl, ?_⟩
      unfold Go.convert
      rw [bind_ok (underlying_run h1), bind_ok (underlying_run h2)]
      simp only []
      rw [bind_ok (underlying_run h3)]; rfl
    · cases h
  · next e a n c h1 h2 =>
    split at h
    · next h3 =>
      split at h
      · next l hs hl =>
        cases hb : bytesV l with
        | none => rw [hb] at h; cases h
        | some b =>
          rw [hb] at h; cases h
          obtain ⟨B, A, hB, hA, rfl⟩ := conc_slice hx
          obtain ⟨B', hB', rfl⟩ := concA_none hs hA
          rw [hB] at hB'; cases hB'
          obtain ⟨cs, el, fr, g1, g2, g3, g4⟩ := hR.load hl hB
          refine ⟨_, rfl, ?_⟩
          unfold Go.convert
          rw [bind_ok (underlying_run h1), bind_ok (underlying_run h2)]
          simp only []
          rw [bind_ok (underlying_run h3)]
          simp only []
          unfold Conv.bytesToString
          simp only []
          rw [bind_ok (loadCells_run g1 g2)]
          have := bytes_run (P := P) l b _ .empty hb g4 w
          rw [Array.forIn_toList] at this
          exact (bind_ok this).trans rfl
      · cases h
    · cases h
  · cases h
def lookRest (key elem : TypeId) (ix : Value) (ok : Bool) (es : Array MapEntry) : Sem Value := do
  Instr.checkKey es.isEmpty 10000 key ix
  match ← Instr.findKey key ix es.toList with
  | some (_, v) => do
    let x ← pure (v, true)
    pure (if ok then .tuple #[x.1, .bool x.2] else x.1)
  | none => do
    let z ← zeroValue elem
    let x ← pure (z, false)
    pure (if ok then .tuple #[x.1, .bool x.2] else x.1)
theorem findKey_run {key : TypeId} {ix : Value} {es : List (Value × Value × Nat)} {en : Array MapEntry} {r : Option (Nat × Value)} (hk : (plainV ix && keyOk P 4 key ix) = true) (hl : en.size = es.length) (hall : ∀ (j : Nat) e, es[j]? = some e → ∃ m, en[j]? = some m ∧ entIn φ e m)
    (hfv : findV P key ix es 0 = some r) : ∃ R, (Instr.findKey key ix en.toList).run P w = .ok R w ∧ (match r with | none => R = none | some (j, v) => ∃ V m, R = some (j, V) ∧ conc φ v = some V ∧ en[j]? = some m ∧ m.val = V) := by
  simp only [Bool.and_eq_true] at hk
  obtain ⟨kd, hkd⟩ : ∃ kd, P.underlying key = some kd := by
    cases hkd : P.underlying key with
    | some kd => exact ⟨kd, rfl⟩
    | none => have := hk.2; unfold keyOk at this; rw [hkd] at this; cases this
  obtain ⟨R, g1, g2, g3⟩ := find_run hkd (conc_plainV hk.1) es en.toList 0 r (by simpa using hl) (fun j e he => by simpa using hall j e he) hfv
  refine ⟨R, ?_, ?_⟩
  · unfold Instr.findKey
    rw [bind_ok (underlying_run hkd)]
    split
    · next s hs => rw [g2 s hs]; rfl
    · exact g1 w
  · cases r with
    | none => exact g3
    | some p => obtain ⟨V, m, e1, e2, _, e4, e5⟩ := g3; exact ⟨V, m, e1, e2, by simpa using e4, e5⟩
theorem lookRest_ok {key elem : TypeId} {ix v : Value} {ok : Bool} {es : List (Value × Value × Nat)} {en : Array MapEntry} {r : Option (Nat × Value)} (hk : (plainV ix && keyOk P 4 key ix) = true)
    (hl : en.size = es.length) (hall : ∀ (j : Nat) e, es[j]? = some e → ∃ m, en[j]? = some m ∧ entIn φ e m) (hfv : findV P key ix es 0 = some r)
    (h : (match r with
      | some (_, v) => some (if ok then .tuple ⟨[v, .bool true]⟩ else v)
      | none => match (P.info? elem).bind (·.zero) with
        | some z => if plainV z then some (if ok then .tuple ⟨[z, .bool false]⟩ else z) else none
        | none => none) = some v) : ∃ V, conc φ v = some V ∧ (lookRest key elem ix ok en).run P w = .ok V w := by
  obtain ⟨R, g1, g2⟩ := findKey_run (w := w) hk hl hall hfv
  simp only [Bool.and_eq_true] at hk
  unfold lookRest
  rw [bind_ok (keyOk_run 4 10000 key ix hk.1 hk.2 (by omega) w), bind_ok g1]
  cases r with
  | some p =>
    obtain ⟨j, u⟩ := p
    obtain ⟨V, m, rfl, g3, _⟩ := g2
    simp only [Option.some.injEq] at h; subst h
    refine ⟨if ok then .tuple #[V, .bool true] else V, ?_, ?_⟩
    · cases ok
      · exact g3
      · simp [conc, concL, g3]
    · rfl
  | none =>
    simp only at g2; subst g2
    simp only at h
    split at h
    · next z hz =>
      split at h
      · next hzp =>
        cases h
        have hzc : conc φ z = some z := conc_plainV hzp
        refine ⟨if ok then .tuple #[z, .bool false] else z, ?_, ?_⟩
        · cases ok
          · exact hzc
          · simp [conc, concL, hzc]
        · simp only []
          rw [bind_ok (zeroValue_run hz)]; rfl
      · cases h
    · cases h
theorem lookupV_ok {t : TypeId} {x ix v X I : Value} {ok : Bool} (hR : Rel φ H w) (h : lookupV P H t x ix ok = some v) (hx : conc φ x = some X) (hi : conc φ ix = some I) :
    ∃ V, conc φ v = some V ∧ (Instr.lookup t X I ok).run P w = .ok V w := by
  unfold lookupV at h
  split at h
  · next key elem hu =>
    split at h
    · next hk =>
      have hk' := hk
      simp only [Bool.and_eq_true] at hk'
      rw [conc_plainV hk'.1] at hi; cases hi
      cases x
      case map r =>
        cases r with
        | none =>
          simp [conc] at hx; subst hx
          have start : (Instr.lookup t (.map none) ix ok).run P w = (lookRest key elem ix ok #[]).run P w := by
            unfold Instr.lookup
            rw [bind_ok (underlying_run hu)]
            rfl
          rw [start]
          exact lookRest_ok (es := []) (r := none) hk rfl (by simp) rfl h
        | some r =>
          obtain ⟨B, hB, rfl⟩ := conc_map hx
          simp only at h
          cases hg : H.get r with
          | none => simp only [hg] at h; cases h
          | some o =>
            cases o
            case map es clock =>
              obtain ⟨c, hc, en, rfl, hsz, hall⟩ := hR.objs _ _ _ hg hB
              have start : (Instr.lookup t (.map (some B.blk)) ix ok).run P w = (lookRest key elem ix ok en).run P w := by
                unfold Instr.lookup
                rw [bind_ok (underlying_run hu)]
                simp only []
                have e : (getObj B.blk).run P w = .ok (.map en clock) w := by
                  unfold getObj; simp only [Sem.run, hc]
                rw [bind_ok e]; rfl
              rw [start]
              simp only [hg] at h
              cases hfv : findV P key ix es 0 with
              | none => rw [hfv] at h; cases h
              | some r' =>
                refine lookRest_ok hk hsz hall hfv ?_
                rw [hfv] at h
                cases r' with
                | none => exact h
                | some p => exact h
            all_goals (simp only [hg] at h; cases h)
      all_goals (simp only at h; cases h)
    · cases h
  · cases h
theorem evR_ok (hR : Rel φ H w) (hρ : ∀ x u, ρ x = some u → conc φ u = some (ev x)) {o : Oper} {v : Value} (h : evR P ρ H o.op = some v) : ∃ V, conc φ v = some V ∧ (execOp ev o).run P w = .ok (.value V) w := by
  have wrap : ∀ {s : Sem Value} {V : Value}, s.run P w = .ok V w → (do pure (Next.value (← s)) : Sem Next).run P w = .ok (.value V) w := fun h => by rw [bind_ok h]; rfl
  obtain ⟨dst, op, ty, pos, after, guard⟩ := o
  simp only at h
  unfold evR at h
  split at h
  · next t a =>
    split at h
    · next u hu => obtain ⟨V, h1, h2⟩ := loadV_ok hR h (hρ _ _ hu); exact ⟨V, h1, wrap h2⟩
    · cases h
  · next s d x =>
    split at h
    · next u hu => obtain ⟨V, h1, h2⟩ := strOfV_ok hR h (hρ _ _ hu); exact ⟨V, h1, wrap h2⟩
    · cases h
  · next t x ix ok =>
    split at h
    · next u k hu hk => obtain ⟨V, h1, h2⟩ := lookupV_ok hR h (hρ _ _ hu) (hρ _ _ hk); exact ⟨V, h1, wrap h2⟩
    · cases h
  · next c =>
    split at h
    · next hc =>
      split at h
      · next x t ts hx ht =>
        split at h
        · next u hu =>
          have hcu := hρ _ _ hu
          unfold lenM at h
          split at h
          · next k e r hund =>
            split at h
            · next es clock hg =>
              cases h
              obtain ⟨B, hB, he⟩ := conc_map hcu
              obtain ⟨cc, hcc, en, rfl, hsz, hall⟩ := hR.objs _ _ _ hg hB
              refine ⟨goInt es.length, rfl, ?_⟩
              have hargs : c.args.map ev = #[.map (some B.blk)] := by apply Array.toList_inj.1; simp [hx, he]
              have ht0 : c.argTypes[0]? = some t := by rw [← Array.getElem?_toList, ht]; rfl
              unfold execOp
              simp only
              unfold resolve
              rw [hc]
              simp only
              rw [bind_ok (run_pure P _ w)]
              show (do pure (Next.value (← Builtin.len_ c.argTypes ty (c.args.map ev))) : Sem Next).run P w = _
              rw [hargs]
              refine wrap (s := Builtin.len_ c.argTypes ty #[.map (some B.blk)]) ?_
              unfold Builtin.len_
              rw [ht0]
              show (Sem.bind (underlying t) _).run P w = _
              refine (bind_ok (underlying_run hund)).trans ?_
              show (Sem.bind (getObj B.blk) _).run P w = _
              simp only [getObj, Sem.bind, Sem.run, hcc]
              rw [hsz]; rfl
            · cases h
          · cases h
        · cases h
      · cases h
    · cases h
  · cases h
end
end Ev
end Go.Proofs.YtepdkcikkemieaaGreat
