/- THE ENGINE, 17: iterators, copy, clear; all operations that write memory. -/
import Derived.Test.YtepdkcikkemieaaGreatEvP
noncomputable section
namespace Go.Proofs.YtepdkcikkemieaaGreat
open Go.RowKit
set_option linter.unusedVariables false
set_option linter.unusedSimpArgs false
namespace Ev

def entryV (H : Heap) (it : Value) : Option Value :=
  match it with
  | .pointer (some ⟨r, 0, none⟩) => match H.get r with
    | some (.miter (some m) _ seen stepped) => match seen.getLast?, H.get m with
      | some stamp, some (.map es clock) => if clock = stepped then (match es.find? (fun e => e.2.2 == stamp) with | some e => some (.tuple ⟨[e.1, e.2.1]⟩) | none => none) else none
      | _, _ => none
    | _ => none
  | _ => none
def copyV (P : Program) (H : Heap) (ts : List TypeId) (d x : Value) : Option (Value × Heap) :=
  match ts with
  | t0 :: _ => match P.underlying t0 with
    | some (.slice e) => match tSize P e with
      | some es => match d, x with
        | .slice none dl _, .slice none n _ => if dl = 0 then some (goInt 0, H) else none
        | .slice none dl _, .slice (some a) n _ => if dl = 0 then some (goInt 0, H) else none
        | .slice none dl _, .string s => if dl = 0 then some (goInt 0, H) else none
        | .slice (some a) dl _, .slice none n _ => if n = 0 then some (goInt 0, H) else none
        | .slice (some a) dl _, .slice (some b) n _ =>
          if min n dl = 0 then some (goInt 0, H) else
          match a.spot, b.spot, H.load b.block b.off (min n dl * es) with
          | none, none, some vs => if vs.all oneCell then (H.store a.block a.off vs).map fun H' => (goInt ((min n dl : Nat) : Int), H') else none
          | _, _, _ => none
        | .slice (some a) dl _, .string s =>
          if min s.size dl = 0 then some (goInt 0, H) else
          match a.spot with
          | none => if es = 1 then (H.store a.block a.off ((bytesOf s).take (min s.size dl))).map fun H' => (goInt ((min s.size dl : Nat) : Int), H') else none
          | _ => none
        | _, _ => none
      | none => none
    | _ => none
  | [] => none
def clearV (P : Program) (H : Heap) (ts : List TypeId) (x : Value) : Option (Value × Heap) :=
  match ts with
  | t0 :: _ => match P.underlying t0, x with
    | some (.slice e), .slice (some a) n _ =>
      if n = 0 then some (.tuple ⟨[]⟩, H) else
      match (P.info? e).bind (·.zero), a.spot with
      | some z, none => if (cellsL z).all plainS ∧ 0 < (cellsL z).length then (H.store a.block a.off (copies n (cellsL z))).map fun H' => (.tuple ⟨[]⟩, H') else none
      | _, _ => none
    | some (.slice _), .slice none _ _ => some (.tuple ⟨[]⟩, H)
    | some (.map _ _), .map none => some (.tuple ⟨[]⟩, H)
    | some (.map _ _), .map (some r) => match H.get r with
      | some (.map _ clock) => (H.set r (some (.map [] clock))).map fun H' => (.tuple ⟨[]⟩, H')
      | _ => none
    | _, _ => none
  | [] => none
section
variable {P : Program} {φ : Phi} {H H' : Heap} {w : World}
theorem rangeV_ok {t : TypeId} {x v X : Value} (hR : Rel φ H w) (h : rangeV P H t x = some (v, H')) (hx : conc φ x = some X) : Does P φ H w (Instr.range t X) v H' := by
  have fin : ∀ (o : AObj) (c : Obj), objIs φ o ⟨w.heap.size, 0, 0⟩ c → ∀ H1, H.add o = some H1 → (∀ (s : Sem Obj), s.run P w = .ok c w → Does P φ H w (do let it ← s; pure (.pointer (some ⟨← newObj it, 0, none⟩))) (.pointer (some ⟨H.next, 0, none⟩)) H1) := by
    intro o c ho H1 ha s hs
    obtain ⟨φ', g1, g2, g3⟩ := new_block (n := w.drawn) hR ha ho
    refine ⟨.pointer (some ⟨w.heap.size, 0, none⟩), _, φ', ?_, ptr_val g1, g2, g3⟩
    rw [bind_ok hs, bind_ok (newObj_run _ w)]; rfl
  unfold rangeV at h
  split at h
  · next s hu =>
    cases ha : H.add (.siter s 0) with
    | none => rw [ha] at h; cases h
    | some H1 =>
      rw [ha] at h; cases h
      simp [conc] at hx; subst hx
      have := fin (.siter s 0) (.stringIter s 0) ⟨rfl, rfl⟩ H' ha (pure (.stringIter s 0)) rfl
      obtain ⟨V, w', φ', k1, k2⟩ := this
      refine ⟨V, w', φ', ?_, k2⟩
      unfold Instr.range
      rw [bind_ok (underlying_run hu)]
      exact k1
  · next k e hu =>
    cases ha : H.add (.miter none 0 [] 0) with
    | none => rw [ha] at h; cases h
    | some H1 =>
      rw [ha] at h; cases h
      simp [conc] at hx; subst hx
      have := fin (.miter none 0 [] 0) (.mapIter none 0 #[] 0) ⟨rfl, rfl⟩ H' ha (pure (.mapIter none 0 #[] 0)) rfl
      obtain ⟨V, w', φ', k1, k2⟩ := this
      refine ⟨V, w', φ', ?_, k2⟩
      unfold Instr.range
      rw [bind_ok (underlying_run hu)]
      exact k1
  · next k e r hu =>
    split at h
    · next es clock hg =>
      cases ha : H.add (.miter (some r) clock [] clock) with
      | none => rw [ha] at h; cases h
      | some H1 =>
        rw [ha] at h; cases h
        obtain ⟨B, hB, rfl⟩ := conc_map hx
        obtain ⟨c, hc, en, rfl, hsz, hall⟩ := hR.objs _ _ _ hg hB
        have := fin (.miter (some r) clock [] clock) (.mapIter (some B.blk) clock #[] clock) ⟨rfl, B, hB, rfl⟩ H' ha (pure (.mapIter (some B.blk) clock #[] clock)) rfl
        obtain ⟨V, w', φ', k1, k2⟩ := this
        refine ⟨V, w', φ', ?_, k2⟩
        unfold Instr.range
        rw [bind_ok (underlying_run hu)]
        simp only []
        rw [bind_ok (getObj_run hc (by simp))]
        exact k1
    · cases h
  · cases h
inductive All2 {α β : Type} (R : α → β → Prop) : List α → List β → Prop where
  | nil : All2 R [] []
  | cons {a : α} {b : β} {l : List α} {m : List β} (h : R a b) (t : All2 R l m) : All2 R (a :: l) (b :: m)
theorem ent_forall {es : List (Value × Value × Nat)} {en : List MapEntry} (hl : en.length = es.length) (h : ∀ (i : Nat) e, es[i]? = some e → ∃ m, en[i]? = some m ∧ entIn φ e m) : All2 (entIn φ) es en := by
  induction es generalizing en with
  | nil => cases en with
    | nil => exact .nil
    | cons => simp at hl
  | cons e es ih =>
    cases en with
    | nil => simp at hl
    | cons m en =>
      obtain ⟨m', h1, h2⟩ := h 0 e rfl
      simp at h1; subst h1
      exact .cons h2 (ih (by simpa using hl) fun i e' he => by simpa using h (i + 1) e' (by simpa using he))
theorem filter_forall {p : Nat → Bool} {es : List (Value × Value × Nat)} {en : List MapEntry} (h : All2 (entIn φ) es en) : All2 (entIn φ) (es.filter fun e => p e.2.2) (en.filter fun m => p m.born) := by
  induction h with
  | nil => exact .nil
  | @cons e m es en h1 h2 ih =>
    simp only [List.filter_cons, h1.2.2]
    split
    · exact .cons h1 ih
    · exact ih
theorem all_forall {p : Nat → Bool} {es : List (Value × Value × Nat)} {en : List MapEntry} (h : All2 (entIn φ) es en) : (es.all fun e => p e.2.2) = en.all fun m => p m.born := by
  induction h with
  | nil => rfl
  | @cons e m es en h1 h2 ih => simp only [List.all_cons, h1.2.2, ih]
theorem find_forall {p : Nat → Bool} {es : List (Value × Value × Nat)} {en : List MapEntry} (h : All2 (entIn φ) es en) {e : Value × Value × Nat} (hf : (es.find? fun e => p e.2.2) = some e) : ∃ m, (en.find? fun m => p m.born) = some m ∧ entIn φ e m := by
  induction h with
  | nil => simp at hf
  | @cons e1 m es en h1 h2 ih =>
    simp only [List.find?_cons, h1.2.2] at hf ⊢
    split at hf
    · next hp => cases hf; exact ⟨m, rfl, h1⟩
    · next hp => exact ih hf
theorem iter_at {r : Nat} {o : AObj} {X : Value} (hR : Rel φ H w) (hg : H.get r = some o) (hx : conc φ (.pointer (some ⟨r, 0, none⟩)) = some X) (h0 : ∀ B c, objIs φ o B c → B.base = 0) :
    ∃ B c, φ.at_ r = some B ∧ X = .pointer (some ⟨B.blk, 0, none⟩) ∧ w.heap[B.blk]? = some c ∧ objIs φ o B c := by
  obtain ⟨hs, A, hA, rfl⟩ := conc_ptr hx
  obtain ⟨B, hB, rfl⟩ := concA_none hs hA
  obtain ⟨c, hc, ho⟩ := hR.objs _ _ _ hg hB
  exact ⟨B, c, hB, by rw [h0 B c ho]; rfl, hc, ho⟩
theorem nextV_ok {it v X : Value} {b : Bool} {ty : TypeId} (hR : Rel φ H w) (h : nextV H it b = some (v, H')) (hx : conc φ it = some X) : Does P φ H w (Instr.next X b ty) v H' := by
  unfold nextV at h
  split at h
  · next r =>
    split at h
    · next s pos hg =>
      obtain ⟨B, c, hB, rfl, hc, ho⟩ := iter_at hR hg hx (fun B c h => h.1)
      obtain ⟨_, rfl⟩ := ho
      have start : (Instr.next (.pointer (some ⟨B.blk, 0, none⟩)) true ty).run P w = (if pos < s.size then (do
          setObj B.blk (.stringIter s (pos + (Utf8.decode s pos).2))
          pure (.tuple #[.bool true, goInt pos, .int .i32 (Utf8.decode s pos).1])) else pure (.tuple #[.bool false]) : Sem Value).run P w := by
        unfold Instr.next
        simp only []
        rw [bind_ok (getObj_run hc (by simp))]
      split at h
      · next hlt =>
        cases hst : H.set r (some (.siter s (pos + (Utf8.decode s pos).2))) with
        | none => rw [hst] at h; cases h
        | some H1 =>
          rw [hst] at h; cases h
          obtain ⟨k1, k2⟩ := hR.setObj hg rfl hB hst rfl (c' := .stringIter s (pos + (Utf8.decode s pos).2)) ⟨(by assumption), rfl⟩
          refine ⟨.tuple #[.bool true, goInt pos, .int .i32 (Utf8.decode s pos).1], _, φ, ?_, rfl, k1, k2⟩
          rw [start, if_pos hlt, bind_ok (setObj_run hc (by simp))]; rfl
      · next hge =>
        cases h
        exact ⟨.tuple #[.bool false], w, φ, by rw [start, if_neg hge]; rfl, rfl, hR, Step.refl _ _ _⟩
    · next since seen last hg =>
      cases h
      obtain ⟨B, c, hB, rfl, hc, ho⟩ := iter_at hR hg hx (fun B c h => h.1)
      obtain ⟨_, rfl⟩ := ho
      refine ⟨.tuple #[.bool false], w, φ, ?_, rfl, hR, Step.refl _ _ _⟩
      unfold Instr.next
      simp only []
      rw [bind_ok (getObj_run hc (by simp))]; rfl
    · next m since seen last hg =>
      split at h
      · next es clock hgm =>
        obtain ⟨B, c, hB, rfl, hc, ho⟩ := iter_at hR hg hx (fun B c h => h.1)
        obtain ⟨hb0, M, hM, rfl⟩ := ho
        obtain ⟨cm, hcm, en, rfl, hsz, hall⟩ := hR.objs _ _ _ hgm hM
        have hfa := ent_forall (φ := φ) (es := es) (en := en.toList) (by simpa using hsz) (fun i e he => by simpa using hall i e he)
        split at h
        · cases h
        · next hgd =>
          have e1 : (es.all fun e => decide (e.2.2 ≥ last)) = en.all fun e => decide (e.born ≥ last) := by
            rw [all_forall (p := fun b => decide (b ≥ last)) hfa, Array.all_toList]
          have e2 : es.isEmpty = en.isEmpty := by
            cases es with
            | nil => cases en using Array.recOn with | mk l => cases l <;> simp at hsz ⊢
            | cons a es => cases en using Array.recOn with | mk l => cases l <;> simp at hsz ⊢
          have e3 : seen.isEmpty = seen.toArray.isEmpty := by simp
          rw [e1, e2, e3] at hgd
          have start : (Instr.next (.pointer (some ⟨B.blk, 0, none⟩)) false ty).run P w = (do
              let left := en.filter fun e => !seen.toArray.contains e.born
              let old := left.filter (·.born < since)
              let new := left.filter (·.born ≥ since)
              let candidates := (if old.isEmpty then #[none] else #[]) ++ (old ++ new).map some
              match candidates[← choose (.mapNext candidates.size)]? with
              | some (some e) =>
                setObj B.blk (.mapIter (some M.blk) since (seen.toArray.push e.born) clock)
                pure (.tuple #[.bool true, e.key, e.val])
              | some none => pure (.tuple #[.bool false])
              | none => stuck "Next: no such candidate" : Sem Value).run P w := by
            unfold Instr.next
            simp only []
            rw [bind_ok (getObj_run hc (by simp))]
            simp only []
            rw [bind_ok (getObj_run hcm (by simp))]
            simp only []
            rw [if_neg hgd]; rfl
          have hff := filter_forall (p := fun b => !seen.contains b) hfa
          have e4 : (en.filter fun e => !seen.toArray.contains e.born).toList = en.toList.filter fun e => !seen.contains e.born := by rw [Array.toList_filter]; simp
          split at h
          · next hnil =>
            cases h
            rw [hnil] at hff
            have e5 : (en.filter fun e => !seen.toArray.contains e.born) = #[] := by
              apply Array.toList_inj.1; rw [e4]
              cases hq : en.toList.filter (fun e => !seen.contains e.born) with
              | nil => rfl
              | cons a b => rw [hq] at hff; cases hff
            refine ⟨.tuple #[.bool false], w, φ, ?_, rfl, hR, Step.refl _ _ _⟩
            rw [start]
            have f0 : ∀ f : MapEntry → Bool, (#[] : Array MapEntry).filter f = #[] := fun f => by apply Array.toList_inj.1; simp [Array.toList_filter]
            have fc : ((if (#[] : Array MapEntry).isEmpty = true then #[none] else #[]) ++ (#[] ++ #[] : Array MapEntry).map some) = #[none] := by apply Array.toList_inj.1; simp
            simp only [e5, f0, fc]
            have ec : (choose (.mapNext (#[none] : Array (Option MapEntry)).size)).run P w = .ok 0 w := rfl
            exact (bind_ok ec).trans rfl
          · next e he =>
            rw [he] at hff
            split at h
            · next hsin =>
              cases hst : H.set r (some (.miter (some m) since (seen ++ [e.2.2]) clock)) with
              | none => rw [hst] at h; cases h
              | some H1 =>
                rw [hst] at h; cases h
                obtain ⟨mm, hmm, hle⟩ : ∃ mm, (en.filter fun e => !seen.toArray.contains e.born) = #[mm] ∧ entIn φ e mm := by
                  cases hq : en.toList.filter (fun e => !seen.contains e.born) with
                  | nil => rw [hq] at hff; cases hff
                  | cons mm rest =>
                    rw [hq] at hff
                    cases hff with
                    | cons h1 h2 => cases h2; exact ⟨mm, by apply Array.toList_inj.1; rw [e4, hq], h1⟩
                obtain ⟨q1, q2, q3⟩ := hle
                obtain ⟨k1, k2⟩ := hR.setObj hg rfl hB hst rfl (c' := .mapIter (some M.blk) since (seen.toArray.push mm.born) clock) ⟨hb0, M, hM, by rw [q3]; simp⟩
                refine ⟨.tuple #[.bool true, mm.key, mm.val], _, φ, ?_, by simp [conc, concL, q1, q2], k1, k2⟩
                rw [start]
                have hlt : (mm.born < since) = True := by rw [← q3]; exact eq_true hsin
                have hge : (mm.born ≥ since) = False := eq_false (by rw [← q3]; omega)
                simp only [hmm]
                have f1 : #[mm].filter (fun e => decide (e.born < since)) = #[mm] := by apply Array.toList_inj.1; simp [Array.toList_filter, hlt]
                have f2 : #[mm].filter (fun e => decide (e.born ≥ since)) = #[] := by apply Array.toList_inj.1; simp [Array.toList_filter]; rw [← q3]; omega
                have fc : ((if (#[mm] : Array MapEntry).isEmpty = true then #[none] else #[]) ++ (#[mm] ++ #[] : Array MapEntry).map some) = #[some mm] := by apply Array.toList_inj.1; simp
                simp only [f1, f2, fc]
                have ec : (choose (.mapNext (#[some mm] : Array (Option MapEntry)).size)).run P w = .ok 0 w := rfl
                refine (bind_ok ec).trans ?_
                exact (bind_ok (setObj_run hc (by simp))).trans rfl
            · cases h
          · cases h
      · cases h
    · cases h
  · cases h
end
end Ev
end Go.Proofs.YtepdkcikkemieaaGreat
