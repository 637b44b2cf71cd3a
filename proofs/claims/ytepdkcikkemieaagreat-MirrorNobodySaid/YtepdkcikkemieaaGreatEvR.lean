/- THE ENGINE, 18: all operations but calls of functions. -/
import Derived.Test.YtepdkcikkemieaaGreatEvQ
noncomputable section
namespace Go.Proofs.YtepdkcikkemieaaGreat
open Go.RowKit
set_option linter.unusedVariables false
set_option linter.unusedSimpArgs false
namespace Ev

def evRd (P : Program) (ρ : Operand → Option Value) (H : Heap) (op : Op) : Option Value :=
  match op with
  | .entry x => match ρ x with | some v => entryV H v | none => none
  | op => evR P ρ H op
def callE (P : Program) (H : Heap) (b : Builtin) (ts : List TypeId) (vs : List Value) : Option (Value × Heap) :=
  match b, vs with
  | .append, [s, x] => appendV P H ts s x
  | .copy, [d, x] => copyV P H ts d x
  | .clear, [x] => clearV P H ts x
  | .delete, [m, k] => deleteV P H ts m k
  | _, _ => none
def evE (P : Program) (ρ : Operand → Option Value) (H : Heap) (op : Op) : Option (Value × Heap) :=
  match op with
  | .store t a x => match ρ a, ρ x with
    | some a, some x => storeV P H t a x
    | _, _ => none
  | .mapUpdate t m k x => match ρ m, ρ k, ρ x with
    | some m, some k, some x => mapSetV P H t m k x
    | _, _, _ => none
  | .insert t m k x => match ρ m, ρ k, ρ x with
    | some m, some k, some x => mapSetV P H t m k x
    | _, _, _ => none
  | .range t x => match ρ x with | some x => rangeV P H t x | none => none
  | .next it b => match ρ it with | some x => nextV H x b | none => none
  | .call c => match c.callee with
    | .builtin b => match valsV ρ c.args.toList with | some vs => callE P H b c.argTypes.toList vs | none => none
    | _ => none
  | _ => none
section
variable {P : Program} {φ : Phi} {H H' : Heap} {w : World} {ρ : Operand → Option Value} {ev : Operand → Value}
theorem entryV_ok {it v X : Value} (hR : Rel φ H w) (h : entryV H it = some v) (hx : conc φ it = some X) : ∃ V, conc φ v = some V ∧ (Instr.entry X).run P w = .ok V w := by
  unfold entryV at h
  split at h
  · next r =>
    split at h
    · next m since seen stepped hg =>
      split at h
      · next stamp es clock hl hgm =>
        split at h
        · next hcl =>
          split at h
          · next e hf =>
            cases h
            obtain ⟨B, c, hB, rfl, hc, ho⟩ := iter_at hR hg hx (fun B c h => h.1)
            obtain ⟨hb0, M, hM, rfl⟩ := ho
            obtain ⟨cm, hcm, en, rfl, hsz, hall⟩ := hR.objs _ _ _ hgm hM
            have hfa := ent_forall (φ := φ) (es := es) (en := en.toList) (by simpa using hsz) (fun i e he => by simpa using hall i e he)
            obtain ⟨mm, g1, g2, g3, g4⟩ := find_forall (p := fun b => b == stamp) hfa hf
            refine ⟨.tuple #[mm.key, mm.val], by simp [conc, concL, g2, g3], ?_⟩
            unfold Instr.entry
            simp only []
            rw [bind_ok (getObj_run hc (by simp))]
            have hb : seen.toArray.back? = some stamp := by simpa using hl
            simp only [hb]
            rw [bind_ok (getObj_run hcm (by simp))]
            have hne : (clock != stepped) = false := by simpa using hcl
            have hfd : en.find? (fun e => e.born == stamp) = some mm := by rw [← Array.find?_toList]; exact g1
            simp only [hne, hfd]
            rfl
          · cases h
        · cases h
      · cases h
    · cases h
  · cases h
def lenA : Value → Option Nat
  | .slice _ n _ => some n
  | .string s => some s.size
  | _ => none
theorem lenOf_run {x X : Value} (hx : conc φ x = some X) : ∀ n, lenA x = some n → (Builtin.lenOf X).run P w = .ok n w := by
  intro n h
  cases x <;> simp [lenA] at h
  case slice a m c =>
    subst h
    cases a with
    | none => simp [conc] at hx; subst hx; rfl
    | some a => obtain ⟨B, A, _, _, rfl⟩ := conc_slice hx; rfl
  case string s => subst h; simp [conc] at hx; subst hx; rfl
theorem copy_start {ts : Array TypeId} {ty t0 e : TypeId} {es n dl c : Nat} {base : Option Addr} {X : Value} (h0 : ts[0]? = some t0) (hu : P.underlying t0 = some (.slice e)) (hs : tSize P e = some es) (hn : (Builtin.lenOf X).run P w = .ok n w) :
    (Builtin.copy_ ts ty #[.slice base dl c, X]).run P w = (do
      let cells ← Builtin.firstCells es (Nat.min n dl) X
      match base with
      | some a => do
        storeCells a cells.toList
        pure (goInt ((Nat.min n dl : Nat) : Int))
      | _ => pure (goInt ((Nat.min n dl : Nat) : Int)) : Sem Value).run P w := by
  unfold Builtin.copy_
  simp only [h0]
  show (Sem.bind (underlying t0) _).run P w = _
  refine (bind_ok (underlying_run hu)).trans ?_
  simp only []
  refine (bind_ok hn).trans ?_
  refine (bind_ok (sizeOf_run hs)).trans ?_
  cases base <;> rfl
theorem first_zero {x X : Value} {es n : Nat} (hx : conc φ x = some X) (hn : lenA x = some n) : ∃ C : Array Value, (Builtin.firstCells es 0 X).run P w = .ok C w ∧ C = #[] := by
  cases x <;> simp [lenA] at hn
  case slice a m c =>
    cases a with
    | none => simp [conc] at hx; subst hx; exact ⟨#[], rfl, rfl⟩
    | some a =>
      obtain ⟨B, A, _, _, rfl⟩ := conc_slice hx
      refine ⟨#[], ?_, rfl⟩
      show (loadCells A (0 * es)).run P w = _
      rw [Nat.zero_mul]; rfl
  case string s =>
    simp [conc] at hx; subst hx
    refine ⟨_, rfl, ?_⟩
    apply Array.toList_inj.1
    simp
theorem copyV_ok {ts : Array TypeId} {ty : TypeId} {d x v D X : Value} (hR : Rel φ H w) (h : copyV P H ts.toList d x = some (v, H')) (hd : conc φ d = some D) (hx : conc φ x = some X) : Does P φ H w (Builtin.copy_ ts ty #[D, X]) v H' := by
  unfold copyV at h
  split at h
  · next t0 tl hts =>
    have h0 : ts[0]? = some t0 := by rw [← Array.getElem?_toList, hts]; rfl
    split at h
    · next e hu =>
      split at h
      · next es hes =>
        -- nothing is copied
        have nothing : ∀ (n dl c : Nat) (base : Option Addr), lenA x = some n → Nat.min n dl = 0 → D = .slice base dl c → Does P φ H w (Builtin.copy_ ts ty #[D, X]) (goInt 0) H := by
          intro n dl c base hn hm hD
          obtain ⟨C, g1, g2⟩ := first_zero (P := P) (w := w) (es := es) hx hn
          refine ⟨goInt 0, w, φ, ?_, rfl, hR, Step.refl _ _ _⟩
          rw [hD, copy_start h0 hu hes (lenOf_run hx n hn), hm, bind_ok g1, g2]
          cases base <;> rfl
        split at h
        · next dl c n c2 =>
          split at h
          · next hz => cases h; simp [conc] at hd; subst hd hz; exact nothing n 0 c none rfl (Nat.min_zero _) rfl
          · cases h
        · next dl c a n c2 =>
          split at h
          · next hz => cases h; simp [conc] at hd; subst hd hz; exact nothing n 0 c none rfl (Nat.min_zero _) rfl
          · cases h
        · next dl c s =>
          split at h
          · next hz => cases h; simp [conc] at hd; subst hd hz; exact nothing s.size 0 c none rfl (Nat.min_zero _) rfl
          · cases h
        · next a dl c n c2 =>
          split at h
          · next hz =>
            cases h; subst hz
            obtain ⟨B, A, _, _, rfl⟩ := conc_slice hd
            exact nothing 0 dl _ _ rfl (Nat.zero_min _) rfl
          · cases h
        · next a dl c b n c2 =>
          obtain ⟨B, A, hB, hA, hD⟩ := conc_slice hd
          split at h
          · next hz => cases h; exact nothing n dl _ _ rfl hz hD
          · next hz =>
            split at h
            · next vs hsa hsb hl =>
              split at h
              · next hone =>
                cases hst : H.store a.block a.off vs with
                | none => rw [hst] at h; cases h
                | some H1 =>
                  rw [hst] at h; cases h
                  subst hD
                  obtain ⟨B', hB', rfl⟩ := concA_none hsa hA
                  rw [hB] at hB'; cases hB'
                  obtain ⟨C, A2, hC, hA2, rfl⟩ := conc_slice hx
                  obtain ⟨C', hC', rfl⟩ := concA_none hsb hA2
                  rw [hC] at hC'; cases hC'
                  obtain ⟨cs, el, fr, g1, g2, g3, g4⟩ := hR.load hl hC
                  obtain ⟨ds, dl', dr, k1, k2, k3, k4, k5⟩ := hR.store hst hB g4
                  refine ⟨_, _, φ, ?_, rfl, k4, k5⟩
                  rw [copy_start h0 hu hes (lenOf_run hx n rfl)]
                  have hfc : (Builtin.firstCells es (Nat.min n dl) (.slice (some ⟨C.blk, C.base + b.off, none⟩) n (if c2 < BIG then c2 else c2 - BIG + C.exc))).run P w = .ok _ w := loadCells_run g1 g2
                  rw [bind_ok hfc]
                  simp only []
                  have := storeCells_run (P := P) (o := B.base + a.off) _ 0 w ds dl' dr k1 k2 (all_one hone g4) (by simpa using k3)
                  rw [bind_ok this, run_pure]; rfl
              · cases h
            · cases h
        · next a dl c s =>
          obtain ⟨B, A, hB, hA, hD⟩ := conc_slice hd
          split at h
          · next hz => cases h; exact nothing s.size dl _ _ rfl hz hD
          · next hz =>
            split at h
            · next hsa =>
              split at h
              · next hes1 =>
                cases hst : H.store a.block a.off ((bytesOf s).take (min s.size dl)) with
                | none => rw [hst] at h; cases h
                | some H1 =>
                  rw [hst] at h; cases h
                  subst hD
                  obtain ⟨B', hB', rfl⟩ := concA_none hsa hA
                  rw [hB] at hB'; cases hB'
                  simp [conc] at hx; subst hx
                  have hpl : ((bytesOf s).take (min s.size dl)).all plainS = true := by
                    rw [List.all_eq_true]; intro y hy
                    have := List.mem_of_mem_take hy
                    simp only [bytesOf, List.mem_map] at this; obtain ⟨b, _, rfl⟩ := this; rfl
                  have hone : ((bytesOf s).take (min s.size dl)).all oneCell = true := by
                    rw [List.all_eq_true]; intro y hy
                    have := List.mem_of_mem_take hy
                    simp only [bytesOf, List.mem_map] at this; obtain ⟨b, _, rfl⟩ := this; rfl
                  have g4 := concL_plain (φ := φ) hpl
                  obtain ⟨ds, dl', dr, k1, k2, k3, k4, k5⟩ := hR.store hst hB g4
                  refine ⟨_, _, φ, ?_, rfl, k4, k5⟩
                  rw [copy_start h0 hu hes (show (Builtin.lenOf (.string s)).run P w = .ok s.size w from rfl)]
                  have hfc : (Builtin.firstCells es (Nat.min s.size dl) (.string s)).run P w = .ok ((s.extract 0 (Nat.min s.size dl)).data.map fun b => .int .u8 b.toNat) w := rfl
                  rw [bind_ok hfc]
                  simp only []
                  have hl : ((s.extract 0 (Nat.min s.size dl)).data.map fun b => Value.int .u8 b.toNat).toList = (bytesOf s).take (min s.size dl) := by
                    rw [Array.toList_map]
                    unfold bytesOf
                    rw [← List.map_take]
                    congr 1
                    have : (s.extract 0 (Nat.min s.size dl)).data = s.data.extract 0 (Nat.min s.size dl) := by simp
                    rw [this]; simp [List.extract_eq_take_drop]
                  rw [hl]
                  have := storeCells_run (P := P) (o := B.base + a.off) _ 0 w ds dl' dr k1 k2 (all_one hone g4) (by simpa using k3)
                  rw [bind_ok this, run_pure]; rfl
              · cases h
            · cases h
        · cases h
      · cases h
    · cases h
  · cases h
theorem clearV_ok {ts : Array TypeId} {ty : TypeId} {x v X : Value} (hR : Rel φ H w) (h : clearV P H ts.toList x = some (v, H')) (hx : conc φ x = some X) : Does P φ H w (Builtin.clear_ ts ty #[X]) v H' := by
  unfold clearV at h
  split at h
  · next t0 tl hts =>
    have h0 : ts[0]? = some t0 := by rw [← Array.getElem?_toList, hts]; rfl
    split at h
    · next e a n c hu =>
      obtain ⟨B, A, hB, hA, rfl⟩ := conc_slice hx
      split at h
      · next hn =>
        cases h; subst hn
        refine ⟨.tuple #[], w, φ, ?_, rfl, hR, Step.refl _ _ _⟩
        unfold Builtin.clear_
        simp only [h0]
        show (Sem.bind (underlying t0) _).run P w = _
        exact (bind_ok (underlying_run hu)).trans rfl
      · next hn =>
        split at h
        · next z hz hs =>
          split at h
          · next hc =>
            cases hst : H.store a.block a.off (copies n (cellsL z)) with
            | none => rw [hst] at h; cases h
            | some H1 =>
              rw [hst] at h; cases h
              obtain ⟨B', hB', rfl⟩ := concA_none hs hA
              rw [hB] at hB'; cases hB'
              have hzc := cellsL_plain hc.1
              have hpl := copies_plain n _ hc.1
              have g4 := concL_plain (φ := φ) hpl
              have hone : (copies n (cellsL z)).all oneCell = true := by
                rw [List.all_eq_true]; intro y hy
                have := (List.all_eq_true.1 hpl) y hy
                cases y <;> simp [plainS] at this <;> rfl
              obtain ⟨ds, dl', dr, k1, k2, k3, k4, k5⟩ := hR.store hst hB g4
              refine ⟨.tuple #[], _, φ, ?_, rfl, k4, k5⟩
              obtain ⟨n', rfl⟩ : ∃ n', n = n' + 1 := ⟨n - 1, by omega⟩
              unfold Builtin.clear_
              simp only [h0]
              show (Sem.bind (underlying t0) _).run P w = _
              refine (bind_ok (underlying_run hu)).trans ?_
              have e1 : (Builtin.zeroCells z.cells (n' + 1)).toList = copies (n' + 1) (cellsL z) := by
                unfold Builtin.zeroCells
                rw [range_copies (n' + 1) (by rw [hzc]; simpa using hc.2), hzc]
              show (Sem.bind (zeroValue e) _).run P w = _
              refine (bind_ok (zeroValue_run hz)).trans ?_
              show (Sem.bind (storeCells _ _) _).run P w = _
              rw [e1]
              have := storeCells_run (P := P) (o := B.base + a.off) _ 0 w ds dl' dr k1 k2 (all_one hone g4) (by simpa using k3)
              rw [Nat.add_zero] at this
              exact (bind_ok this).trans rfl
          · cases h
        · cases h
    · next e n c hu =>
      cases h
      simp [conc] at hx; subst hx
      refine ⟨.tuple #[], w, φ, ?_, rfl, hR, Step.refl _ _ _⟩
      unfold Builtin.clear_
      simp only [h0]
      show (Sem.bind (underlying t0) _).run P w = _
      exact (bind_ok (underlying_run hu)).trans rfl
    · next k e hu =>
      cases h
      simp [conc] at hx; subst hx
      refine ⟨.tuple #[], w, φ, ?_, rfl, hR, Step.refl _ _ _⟩
      unfold Builtin.clear_
      simp only [h0]
      show (Sem.bind (underlying t0) _).run P w = _
      exact (bind_ok (underlying_run hu)).trans rfl
    · next k e r hu =>
      obtain ⟨B, hB, rfl⟩ := conc_map hx
      split at h
      · next es clock hg =>
        obtain ⟨c, hc, en, rfl, hsz, hall⟩ := hR.objs _ _ _ hg hB
        cases hst : H.set r (some (.map [] clock)) with
        | none => rw [hst] at h; cases h
        | some H1 =>
          rw [hst] at h; cases h
          obtain ⟨k1, k2⟩ := hR.setObj hg rfl hB hst rfl (c' := .map #[] clock) ⟨#[], rfl, rfl, by simp⟩
          refine ⟨.tuple #[], _, φ, ?_, rfl, k1, k2⟩
          unfold Builtin.clear_
          simp only [h0]
          show (Sem.bind (underlying t0) _).run P w = _
          refine (bind_ok (underlying_run hu)).trans ?_
          show (Sem.bind (getObj B.blk) _).run P w = _
          refine (bind_ok (getObj_run hc (by simp))).trans ?_
          show (Sem.bind (setObj B.blk _) _).run P w = _
          exact (bind_ok (setObj_run hc (by simp))).trans rfl
      · cases h
    · cases h
  · cases h
theorem evRd_ok (hR : Rel φ H w) (hρ : ∀ x u, ρ x = some u → conc φ u = some (ev x)) {o : Oper} {v : Value} (h : evRd P ρ H o.op = some v) : ∃ V, conc φ v = some V ∧ (execOp ev o).run P w = .ok (.value V) w := by
  unfold evRd at h
  split at h
  · next x hop =>
    split at h
    · next u hu =>
      obtain ⟨V, g1, g2⟩ := entryV_ok (P := P) hR h (hρ _ _ hu)
      refine ⟨V, g1, ?_⟩
      unfold execOp
      simp only [hop]
      rw [bind_ok g2]; rfl
    · cases h
  · exact evR_ok hR hρ h
/-- What an operation that writes leaves. -/
theorem evE_ok (hR : Rel φ H w) (hρ : ∀ x u, ρ x = some u → conc φ u = some (ev x)) {o : Oper} {v : Value} (h : evE P ρ H o.op = some (v, H')) :
    ∃ V w' φ', ((execOp ev o).run P w = .ok (.value V) w' ∨ ((execOp ev o).run P w = .ok .skip w' ∧ V = undef)) ∧ conc φ' v = some V ∧ Rel φ' H' w' ∧ Step φ H w φ' H' w' := by
  obtain ⟨dst, op, ty, pos, after, guard⟩ := o
  simp only at h
  have cu : conc φ undef = some undef := rfl
  unfold evE at h
  split at h
  · next t a x =>
    split at h
    · next a' x' ha hx =>
      obtain ⟨w', g1, rfl, g3, g4⟩ := storeV_ok hR h (hρ _ _ ha) (hρ _ _ hx)
      refine ⟨undef, w', φ, .inr ⟨?_, rfl⟩, cu, g3, g4⟩
      unfold execOp
      simp only
      rw [bind_ok g1]; rfl
    · cases h
  · next t m k x =>
    split at h
    · next m' k' x' hm hk hx =>
      obtain ⟨w', g1, rfl, g3, g4⟩ := mapSetV_ok hR h (hρ _ _ hm) (hρ _ _ hk) (hρ _ _ hx)
      refine ⟨undef, w', φ, .inr ⟨?_, rfl⟩, cu, g3, g4⟩
      unfold execOp
      simp only
      rw [bind_ok g1]; rfl
    · cases h
  · next t m k x =>
    split at h
    · next m' k' x' hm hk hx =>
      obtain ⟨w', g1, rfl, g3, g4⟩ := mapSetV_ok hR h (hρ _ _ hm) (hρ _ _ hk) (hρ _ _ hx)
      refine ⟨undef, w', φ, .inr ⟨?_, rfl⟩, cu, g3, g4⟩
      unfold execOp
      simp only
      rw [bind_ok g1]; rfl
    · cases h
  · next t x =>
    split at h
    · next x' hx =>
      obtain ⟨V, w', φ', g1, g2, g3, g4⟩ := rangeV_ok hR h (hρ _ _ hx)
      refine ⟨V, w', φ', .inl ?_, g2, g3, g4⟩
      unfold execOp
      simp only
      rw [bind_ok g1]; rfl
    · cases h
  · next it b =>
    split at h
    · next x' hx =>
      obtain ⟨V, w', φ', g1, g2, g3, g4⟩ := nextV_ok (P := P) (ty := ty) hR h (hρ _ _ hx)
      refine ⟨V, w', φ', .inl ?_, g2, g3, g4⟩
      unfold execOp
      simp only
      rw [bind_ok g1]; rfl
    · cases h
  · next c =>
    split at h
    · next b hcal =>
      split at h
      · next vs hvs =>
        have hcl := valsV_ok hρ _ _ hvs
        have hargs : c.args.map ev = (c.args.toList.map ev).toArray := by apply Array.toList_inj.1; simp
        have run : ∀ {V : Value} {w' : World} {s : (Array TypeId) → TypeId → Array Value → Sem Value}, (∀ consts, builtin b c.argTypes ty consts (c.args.map ev) = (do pure (.value (← s c.argTypes ty (c.args.map ev))))) → (s c.argTypes ty (c.args.toList.map ev).toArray).run P w = .ok V w' → (execOp ev ⟨dst, .call c, ty, pos, after, guard⟩).run P w = .ok (.value V) w' := by
          intro V w' s hb hs
          unfold execOp
          simp only
          unfold resolve
          rw [hcal]
          simp only
          rw [bind_ok (run_pure P _ w)]
          show (builtin b c.argTypes ty _ (c.args.map ev)).run P w = _
          rw [hb, hargs, bind_ok hs]; rfl
        have two : ∀ {a b : Value}, vs = [a, b] → ∃ A B, conc φ a = some A ∧ conc φ b = some B ∧ c.args.toList.map ev = [A, B] := by
          intro a b e; subst e
          simp only [concL] at hcl
          cases ha : conc φ a with
          | none => rw [ha] at hcl; cases hcl
          | some A =>
            cases hb : conc φ b with
            | none => rw [ha, hb] at hcl; cases hcl
            | some B => rw [ha, hb] at hcl; simp only [Option.some.injEq] at hcl; exact ⟨A, B, rfl, rfl, hcl.symm⟩
        unfold callE at h
        split at h
        · next s x =>
          obtain ⟨A, B, ga, gb, gl⟩ := two rfl
          obtain ⟨V, w', φ', g1, g2, g3, g4⟩ := appendV_ok (ty := ty) hR h ga gb
          exact ⟨V, w', φ', .inl (run (s := Builtin.append_) (fun _ => rfl) (by rw [gl]; exact g1)), g2, g3, g4⟩
        · next s x =>
          obtain ⟨A, B, ga, gb, gl⟩ := two rfl
          obtain ⟨V, w', φ', g1, g2, g3, g4⟩ := copyV_ok (ty := ty) hR h ga gb
          exact ⟨V, w', φ', .inl (run (s := Builtin.copy_) (fun _ => rfl) (by rw [gl]; exact g1)), g2, g3, g4⟩
        · next x =>
          obtain ⟨A, ga, gl⟩ : ∃ V, conc φ x = some V ∧ c.args.toList.map ev = [V] := by
            simp only [concL] at hcl
            cases hv : conc φ x with
            | none => rw [hv] at hcl; cases hcl
            | some V => rw [hv] at hcl; simp only [Option.some.injEq] at hcl; exact ⟨V, rfl, hcl.symm⟩
          obtain ⟨V, w', φ', g1, g2, g3, g4⟩ := clearV_ok (ty := ty) hR h ga
          exact ⟨V, w', φ', .inl (run (s := Builtin.clear_) (fun _ => rfl) (by rw [gl]; exact g1)), g2, g3, g4⟩
        · next s x =>
          obtain ⟨A, B, ga, gb, gl⟩ := two rfl
          obtain ⟨V, w', φ', g1, g2, g3, g4⟩ := deleteV_ok (ty := ty) hR h ga gb
          exact ⟨V, w', φ', .inl (run (s := Builtin.delete_) (fun _ => rfl) (by rw [gl]; exact g1)), g2, g3, g4⟩
        · cases h
      · cases h
    · cases h
  · cases h
end
end Ev
end Go.Proofs.YtepdkcikkemieaaGreat
