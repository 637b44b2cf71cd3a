/- THE ENGINE, 16: maps, iterators, copy, clear. -/
import Derived.Test.YtepdkcikkemieaaGreatEvO
noncomputable section
namespace Go.Proofs.YtepdkcikkemieaaGreat
open Go.RowKit
set_option linter.unusedVariables false
set_option linter.unusedSimpArgs false
namespace Ev

def putKV (es : List (Value × Value × Nat)) (i : Nat) (k v : Value) : List (Value × Value × Nat) := es.modify i fun e => (k, v, e.2.2)
def mapSetV (P : Program) (H : Heap) (t : TypeId) (m k v : Value) : Option (Value × Heap) :=
  match P.underlying t, m with
  | some (.map key _), .map (some r) =>
    if plainV k && keyOk P 4 key k then
      match H.get r with
      | some (.map es clock) => match findV P key k es 0 with
        | some (some (i, _)) => match es[i]? with
          | some e => if plainV e.1 && Instr.sameBits 10000 e.1 k then (H.set r (some (.map (putKV es i k v) clock))).map fun H' => (undef, H') else none
          | none => none
        | some none => (H.set r (some (.map (es ++ [(k, v, clock)]) (clock + 1)))).map fun H' => (undef, H')
        | none => none
      | _ => none
    else none
  | _, _ => none
def deleteV (P : Program) (H : Heap) (ts : List TypeId) (m k : Value) : Option (Value × Heap) :=
  match ts with
  | t :: _ => match P.underlying t, m with
    | some (.map key _), .map (some r) =>
      if plainV k && keyOk P 4 key k then
        match H.get r with
        | some (.map es clock) => match findV P key k es 0 with
          | some (some (i, _)) => (H.set r (some (.map (es.eraseIdx i) clock))).map fun H' => (.tuple ⟨[]⟩, H')
          | some none => some (.tuple ⟨[]⟩, H)
          | none => none
        | _ => none
      else none
    | _, _ => none
  | [] => none
def rangeV (P : Program) (H : Heap) (t : TypeId) (x : Value) : Option (Value × Heap) :=
  match P.underlying t, x with
  | some .string, .string s => (H.add (.siter s 0)).map fun H' => (.pointer (some ⟨H.next, 0, none⟩), H')
  | some (.map _ _), .map none => (H.add (.miter none 0 [] 0)).map fun H' => (.pointer (some ⟨H.next, 0, none⟩), H')
  | some (.map _ _), .map (some r) => match H.get r with
    | some (.map _ clock) => (H.add (.miter (some r) clock [] clock)).map fun H' => (.pointer (some ⟨H.next, 0, none⟩), H')
    | _ => none
  | _, _ => none
def nextV (H : Heap) (it : Value) (isString : Bool) : Option (Value × Heap) :=
  match it with
  | .pointer (some ⟨r, 0, none⟩) => match H.get r, isString with
    | some (.siter s pos), true =>
      if pos < s.size then (H.set r (some (.siter s (pos + (Utf8.decode s pos).2)))).map fun H' => (.tuple ⟨[.bool true, goInt pos, .int .i32 (Utf8.decode s pos).1]⟩, H')
      else some (.tuple ⟨[.bool false]⟩, H)
    | some (.miter none _ _ _), false => some (.tuple ⟨[.bool false]⟩, H)
    | some (.miter (some m) since seen last), false => match H.get m with
      | some (.map es clock) =>
        if !seen.isEmpty && !es.isEmpty && es.all (fun e => decide (e.2.2 ≥ last)) then none
        else match es.filter (fun e => !seen.contains e.2.2) with
          | [] => some (.tuple ⟨[.bool false]⟩, H)
          | [e] => if e.2.2 < since then (H.set r (some (.miter (some m) since (seen ++ [e.2.2]) clock))).map fun H' => (.tuple ⟨[.bool true, e.1, e.2.1]⟩, H') else none
          | _ => none
      | _ => none
    | _, _ => none
  | _ => none
section
variable {P : Program} {φ : Phi} {H H' : Heap} {w : World}
def setW (w : World) (b : Nat) (c : Obj) : World := { w with heap := w.heap.setIfInBounds b c }
theorem setObj_run {b : Nat} {c c' : Obj} (h : w.heap[b]? = some c) (hc : ∀ x y z, c ≠ .cells x y z) : (setObj b c').run P w = .ok () (setW w b c') := by
  unfold setObj
  simp only [Sem.run, h]
  cases c <;> first | rfl | (exact absurd rfl (hc _ _ _))
theorem Rel.setObj {id : Nat} {o o' : AObj} {B : Blk} {c' : Obj} (h : Rel φ H w) (hg : H.get id = some o) (hm : o.mate = none) (hB : φ.at_ id = some B) (hs : H.set id (some o') = some H') (hm' : o'.mate = none) (hc : objIs φ o' B c') :
    Rel φ H' (setW w B.blk c') ∧ Step φ H w φ H' (setW w B.blk c') := by
  have hget : ∀ m, H'.get m = if m = id then some o' else H.get m := Heap.set_get hs
  have hlt := (h.dom id B hB).2
  have hold : ∀ j p C, j ≠ id → H'.get j = some p → φ.at_ j = some C → H.get j = some p ∧ C.blk ≠ B.blk := fun j p C hj hgj hC => by
    rw [hget, if_neg hj] at hgj
    refine ⟨hgj, fun e => ?_⟩
    rcases h.alias id j _ _ B C hg hgj hB hC e.symm with e | e
    · exact hj e.symm
    · rw [hm] at e; cases e
  refine ⟨⟨fun j p C hgj hC => ?_, fun j C hC => ?_, fun i j p q B1 C1 hi hj bi bj he => ?_⟩, ⟨Phi.le_refl φ, fun _ _ h => .inl h, by simp [setW], fun b hb hn => ?_, fun b hb ho => ?_, by rw [Heap.set_next hs]; exact Nat.le_refl _, rfl, rfl, rfl⟩⟩
  · by_cases hj : j = id
    · subst hj
      rw [hB] at hC; cases hC
      rw [hget, if_pos rfl] at hgj; cases hgj
      exact ⟨c', by simp [setW, hlt], hc⟩
    · obtain ⟨h1, h2⟩ := hold j p C hj hgj hC
      obtain ⟨c, h3, h4⟩ := h.objs j p C h1 hC
      exact ⟨c, by simp only [setW]; rw [Array.getElem?_setIfInBounds_ne (fun e => h2 e.symm)]; exact h3, h4⟩
  · rw [Heap.set_next hs]; simpa [setW] using h.dom j C hC
  · by_cases h1 : i = id
    · by_cases h2 : j = id
      · exact .inl (h1.trans h2.symm)
      · subst h1; rw [hB] at bi; cases bi
        exact absurd he.symm (hold j q C1 h2 hj bj).2
    · by_cases h2 : j = id
      · subst h2; rw [hB] at bj; cases bj
        exact absurd he (hold i p B1 h1 hi bi).2
      · exact h.alias i j p q B1 C1 (hold i p B1 h1 hi bi).1 (hold j q C1 h2 hj bj).1 bi bj he
  · simp only [setW]; exact Array.getElem?_setIfInBounds_ne (fun e => hn ⟨id, o, B, hg, hB, e⟩)
  · obtain ⟨j, p, C, h1, h2, h3⟩ := ho
    by_cases hj : j = id
    · subst hj; rw [hB] at h2; cases h2; exact ⟨j, o, B, hg, hB, h3⟩
    · exact ⟨j, p, C, (hold j p C hj h1 h2).1, h2, h3⟩
theorem getObj_run {b : Nat} {c : Obj} (h : w.heap[b]? = some c) (hc : ∀ x y z, c ≠ .cells x y z) : (getObj b).run P w = .ok c w := by
  unfold getObj
  cases c <;> first | (exact absurd rfl (hc _ _ _)) | (simp only [Sem.run, h])
theorem mapSetV_ok {t : TypeId} {m k v u M K V : Value} (hR : Rel φ H w) (h : mapSetV P H t m k v = some (u, H')) (hm : conc φ m = some M) (hk : conc φ k = some K) (hv : conc φ v = some V) :
    ∃ w', (Instr.mapUpdate t M K V).run P w = .ok () w' ∧ u = undef ∧ Rel φ H' w' ∧ Step φ H w φ H' w' := by
  unfold mapSetV at h
  split at h
  · next key e r hu =>
    split at h
    · next hkk =>
      have hkk' := hkk
      simp only [Bool.and_eq_true] at hkk'
      rw [conc_plainV hkk'.1] at hk; cases hk
      have hk : conc φ k = some k := conc_plainV hkk'.1
      obtain ⟨B, hB, rfl⟩ := conc_map hm
      split at h
      · next es clock hg =>
        obtain ⟨c, hc, en, rfl, hsz, hall⟩ := hR.objs _ _ _ hg hB
        have start : ∀ (R : Option (Nat × Value)), (Instr.findKey key k en.toList).run P w = .ok R w → (Instr.mapUpdate t (.map (some B.blk)) k V).run P w = (match R with
            | some (i, _) => do
              let key ← Instr.keyThatStays (((en[i]?).map (·.key)).getD k) k
              Go.setObj B.blk (.map (en.modify i fun e => { e with key, val := V }) clock)
            | none => Go.setObj B.blk (.map (en.push { key := k, val := V, born := clock }) (clock + 1)) : Sem Unit).run P w := by
          intro R hf
          unfold Instr.mapUpdate
          rw [bind_ok (underlying_run hu)]
          simp only []
          rw [bind_ok (getObj_run hc (by simp))]
          simp only []
          rw [bind_ok (keyOk_run 4 10000 key k hkk'.1 hkk'.2 (by omega) w), bind_ok hf]
          cases R <;> rfl
        split at h
        · next i x hf =>
          obtain ⟨R, g1, g2⟩ := findKey_run (w := w) hkk hsz hall hf
          obtain ⟨V0, mm, rfl, _, g3, _⟩ := g2
          split at h
          · next e0 he0 =>
            split at h
            · next hsb =>
              simp only [Bool.and_eq_true] at hsb
              cases hst : H.set r (some (.map (putKV es i k v) clock)) with
              | none => rw [hst] at h; cases h
              | some H1 =>
                rw [hst] at h; cases h
                obtain ⟨mm', g4, g5, g6, g7⟩ := hall i e0 he0
                rw [g3] at g4; cases g4
                rw [conc_plainV hsb.1] at g5
                have hkey : mm.key = e0.1 := (Option.some.inj g5).symm
                have hob : objIs φ (.map (putKV es i k v) clock) B (.map (en.modify i fun e => { e with key := k, val := V }) clock) := by
                  refine ⟨_, rfl, by simp [putKV, hsz], fun j e1 hj => ?_⟩
                  unfold putKV at hj
                  rw [List.getElem?_modify] at hj
                  rw [Array.getElem?_modify]
                  by_cases hij : i = j
                  · subst hij
                    rw [he0] at hj
                    simp at hj; subst hj
                    rw [if_pos rfl, g3]
                    exact ⟨_, rfl, hk, hv, g7⟩
                  · rw [if_neg hij]
                    simp only [hij, if_false] at hj
                    cases hej : es[j]? with
                    | none => rw [hej] at hj; cases hj
                    | some e2 => rw [hej] at hj; simp at hj; subst hj; exact hall j e2 hej
                obtain ⟨k1, k2⟩ := hR.setObj hg rfl hB hst rfl hob
                refine ⟨_, ?_, rfl, k1, k2⟩
                rw [start _ g1]
                simp only [g3, Option.map_some, Option.getD_some]
                have ek : (Instr.keyThatStays mm.key k).run P w = .ok k w := by
                  unfold Instr.keyThatStays; rw [hkey, if_pos hsb.2]; rfl
                rw [bind_ok ek]
                exact setObj_run hc (by simp)
            · cases h
          · cases h
        · next hf =>
          obtain ⟨R, g1, g2⟩ := findKey_run (w := w) hkk hsz hall hf
          simp only at g2; subst g2
          cases hst : H.set r (some (.map (es ++ [(k, v, clock)]) (clock + 1))) with
          | none => rw [hst] at h; cases h
          | some H1 =>
            rw [hst] at h; cases h
            have hob : objIs φ (.map (es ++ [(k, v, clock)]) (clock + 1)) B (.map (en.push { key := k, val := V, born := clock }) (clock + 1)) := by
              refine ⟨_, rfl, by simp [hsz], fun j e1 hj => ?_⟩
              rw [List.getElem?_append] at hj
              rw [Array.getElem?_push]
              split at hj
              · next hlt => rw [if_neg (by omega)]; exact hall j e1 hj
              · next hge =>
                have hj0 : j - es.length = 0 := by
                  have := (List.getElem?_eq_some_iff.1 hj).1
                  simp at this; omega
                rw [hj0] at hj; simp at hj; subst hj
                rw [if_pos (by omega)]
                exact ⟨_, rfl, hk, hv, rfl⟩
            obtain ⟨k1, k2⟩ := hR.setObj hg rfl hB hst rfl hob
            refine ⟨_, ?_, rfl, k1, k2⟩
            rw [start _ g1]
            exact setObj_run hc (by simp)
        · cases h
      · cases h
    · cases h
  · cases h
theorem deleteV_ok {ts : Array TypeId} {ty : TypeId} {m k u M K : Value} (hR : Rel φ H w) (h : deleteV P H ts.toList m k = some (u, H')) (hm : conc φ m = some M) (hk : conc φ k = some K) :
    Does P φ H w (Builtin.delete_ ts ty #[M, K]) u H' := by
  unfold deleteV at h
  split at h
  · next t tl hts =>
    have h0 : ts[0]? = some t := by rw [← Array.getElem?_toList, hts]; rfl
    split at h
    · next key e r hu =>
      split at h
      · next hkk =>
        have hkk' := hkk
        simp only [Bool.and_eq_true] at hkk'
        rw [conc_plainV hkk'.1] at hk; cases hk
        obtain ⟨B, hB, rfl⟩ := conc_map hm
        split at h
        · next es clock hg =>
          obtain ⟨c, hc, en, rfl, hsz, hall⟩ := hR.objs _ _ _ hg hB
          have start : ∀ (R : Option (Nat × Value)), (Instr.findKey key k en.toList).run P w = .ok R w → (Builtin.delete_ ts ty #[.map (some B.blk), k]).run P w = (do
              match R with
              | some (i, _) => Go.setObj B.blk (.map (en.eraseIdxIfInBounds i) clock)
              | none => Go.setObj B.blk (.map en clock)
              pure (.tuple #[]) : Sem Value).run P w := by
            intro R hf
            unfold Builtin.delete_
            simp only [h0]
            show (Sem.bind (underlying t) _).run P w = _
            refine (bind_ok (underlying_run hu)).trans ?_
            simp only []
            refine (bind_ok (getObj_run hc (by simp))).trans ?_
            simp only []
            refine (bind_ok (keyOk_run 4 10000 key k hkk'.1 hkk'.2 (by omega) w)).trans ?_
            refine (bind_ok hf).trans ?_
            cases R <;> rfl
          split at h
          · next i x hf =>
            obtain ⟨R, g1, g2⟩ := findKey_run (w := w) hkk hsz hall hf
            obtain ⟨V0, mm, rfl, _, g3, _⟩ := g2
            cases hst : H.set r (some (.map (es.eraseIdx i) clock)) with
            | none => rw [hst] at h; cases h
            | some H1 =>
              rw [hst] at h; cases h
              have hil : i < en.size := (Array.getElem?_eq_some_iff.1 g3).1
              have hob : objIs φ (.map (es.eraseIdx i) clock) B (.map (en.eraseIdxIfInBounds i) clock) := by
                refine ⟨_, rfl, by unfold Array.eraseIdxIfInBounds; rw [dif_pos hil, Array.size_eraseIdx, List.length_eraseIdx, if_pos (by omega), hsz], fun j e1 hj => ?_⟩
                rw [List.getElem?_eraseIdx] at hj
                have : (en.eraseIdxIfInBounds i)[j]? = if j < i then en[j]? else en[j + 1]? := by
                  unfold Array.eraseIdxIfInBounds
                  rw [dif_pos hil, Array.getElem?_eraseIdx]
                rw [this]
                split at hj
                · next hlt => rw [if_pos hlt]; exact hall j e1 hj
                · next hge => rw [if_neg hge]; exact hall (j + 1) e1 hj
              obtain ⟨k1, k2⟩ := hR.setObj hg rfl hB hst rfl hob
              refine ⟨_, _, φ, ?_, rfl, k1, k2⟩
              rw [start _ g1]
              simp only []
              rw [bind_ok (setObj_run hc (by simp))]; rfl
          · next hf =>
            cases h
            obtain ⟨R, g1, g2⟩ := findKey_run (w := w) hkk hsz hall hf
            simp only at g2; subst g2
            refine ⟨_, w, φ, ?_, rfl, hR, Step.refl _ _ _⟩
            rw [start _ g1]
            simp only []
            rw [bind_ok (setObj_run hc (by simp))]
            have : setW w B.blk (.map en clock) = w := by
              unfold setW
              have e : w.heap.setIfInBounds B.blk (.map en clock) = w.heap := by
                apply Array.ext_getElem?
                intro j
                by_cases hj : B.blk = j
                · subst hj; rw [Array.getElem?_setIfInBounds_self, hc, if_pos (hR.dom _ _ hB).2]
                · rw [Array.getElem?_setIfInBounds_ne hj]
              rw [e]
            rw [this]; rfl
          · cases h
        · cases h
      · cases h
    · cases h
  · cases h
end
end Ev
end Go.Proofs.YtepdkcikkemieaaGreat
