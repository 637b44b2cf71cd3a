/- THE ENGINE, 16: maps, iterators, copy, clear. -/
import Derived.Test.YtifoekadjnlhcaaGreatDoorEE
noncomputable section
namespace Go.Proofs.YtifoekadjnlhcaaGreatDoor
open Go.RowKit
set_option linter.unusedVariables false
set_option linter.unusedSimpArgs false
namespace Ev
def putKV (es : List (Value × Value × Nat)) (i : Nat) (k v : Value) : List (Value × Value × Nat) := es.modify i fun e => (k, v, e.2.2)
def mapSetV (P : Program) (H : Heap) (t : TypeId) (m k v : Value) : Option (Value × Heap) :=
  match P.underlying t, m with
  | some (.map key _), .map (some r) =>
    if plainV k && keyOk P 4 key k then
      match H.get r with
      | some (.map es clock) => match findV P key k es 0 with
        | some (some (i, _)) => match es[i]? with
          | some e => if plainV e.1 && Instr.sameBits 10000 e.1 k then (H.set r (some (.map (putKV es i k v) clock))).map fun H' => (undef, H') else none
          | none => none
        | some none => (H.set r (some (.map (es ++ [(k, v, clock)]) (clock + 1)))).map fun H' => (undef, H')
        | none => none
      | _ => none
    else none
  | _, _ => none
def deleteV (P : Program) (H : Heap) (ts : List TypeId) (m k : Value) : Option (Value × Heap) :=
  match ts with
  | t :: _ => match P.underlying t, m with
    | some (.map key _), .map (some r) =>
      if plainV k && keyOk P 4 key k then
        match H.get r with
        | some (.map es clock) => match findV P key k es 0 with
          | some (some (i, _)) => (H.set r (some (.map (es.eraseIdx i) clock))).map fun H' => (.tuple ⟨[]⟩, H')
          | some none => some (.tuple ⟨[]⟩, H)
          | none => none
        | _ => none
      else none
    | _, _ => none
  | [] => none
def rangeV (P : Program) (H : Heap) (t : TypeId) (x : Value) : Option (Value × Heap) :=
  match P.underlying t, x with
  | some .string, .string s => (H.add (.siter s 0)).map fun H' => (.pointer (some ⟨H.next, 0, none⟩), H')
  | some (.map _ _), .map none => (H.add (.miter none 0 [] 0)).map fun H' => (.pointer (some ⟨H.next, 0, none⟩), H')
  | some (.map _ _), .map (some r) => match H.get r with
    | some (.map _ clock) => (H.add (.miter (some r) clock [] clock)).map fun H' => (.pointer (some ⟨H.next, 0, none⟩), H')
    | _ => none
  | _, _ => none
def nextV (H : Heap) (it : Value) (isString : Bool) : Option (Value × Heap) :=
  match it with
  | .pointer (some ⟨r, 0, none⟩) => match H.get r, isString with
    | some (.siter s pos), true =>
      if pos < s.size then (H.set r (some (.siter s (pos + (Utf8.decode s pos).2)))).map fun H' => (.tuple ⟨[.bool true, goInt pos, .int .i32 (Utf8.decode s pos).1]⟩, H')
      else some (.tuple ⟨[.bool false]⟩, H)
    | some (.miter none _ _ _), false => some (.tuple ⟨[.bool false]⟩, H)
    | some (.miter (some m) since seen last), false => match H.get m with
      | some (.map es clock) =>
        if !seen.isEmpty && !es.isEmpty && es.all (fun e => decide (e.2.2 ≥ last)) then none
        else match es.filter (fun e => !seen.contains e.2.2) with
          | [] => some (.tuple ⟨[.bool false]⟩, H)
          | [e] => if e.2.2 < since then (H.set r (some (.miter (some m) since (seen ++ [e.2.2]) clock))).map fun H' => (.tuple ⟨[.bool true, e.1, e.2.1]⟩, H') else none
          | _ => none
      | _ => none
    | _, _ => none
  | _ => none
section
variable {P : Program} {φ : Phi} {H H' : Heap} {w : World}
def setW (w : World) (b : Nat) (c : Obj) : World := { w with heap := w.heap.setIfInBounds b c }
theorem setObj_run {b : Nat} {c c' : Obj} (h : w.heap[b]? = some c) (hc : ∀ x y z, c ≠ .cells x y z) : (setObj b c').run P w = .ok () (setW w b c') := by
  unfold setObj
  simp only [Sem.run, h]
  cases c <;> first | rfl | (exact absurd rfl (hc _ _ _))
theorem Rel.setObj {id : Nat} {o o' : AObj} {B : Blk} {c' : Obj} (h : Rel φ H w) (hg : H.get id = some o) (hm : o.mate = none) (hB : φ.at_ id = some B) (hs : H.set id (some o') = some H') (hm' : o'.mate = none) (hc : objIs φ o' B c') :
    Rel φ H' (setW w B.blk c') ∧ Step φ H w φ H' (setW w B.blk c') := by
  have hget : ∀ m, H'.get m = if m = id then some o' else H.get m := Heap.set_get hs
  have hlt := (h.dom id B hB).2
  have hold : ∀ j p C, j ≠ id → H'.get j = some p → φ.at_ j = some C → H.get j = some p ∧ C.blk ≠ B.blk := fun j p C hj hgj hC => by
    rw [hget, if_neg hj] at hgj
    refine ⟨hgj, fun e => ?_⟩
    rcases h.alias id j _ _ B C hg hgj hB hC e.symm with e | e
    · exact hj e.symm
    · rw [hm] at e; cases e
  refine ⟨⟨fun j p C hgj hC => ?_, fun j C hC => ?_, fun i j p q B1 C1 hi hj bi bj he => ?_⟩, ⟨Phi.le_refl φ, fun _ _ h => .inl h, by simp [setW], fun b hb hn => ?_, fun b hb ho => ?_, by rw [Heap.set_next hs]; exact Nat.le_refl _, rfl, rfl, rfl⟩⟩
  · by_cases hj : j = id
    · subst hj
      rw [hB] at hC; cases hC
      rw [hget, if_pos rfl] at hgj; cases hgj
      exact ⟨c', by simp [setW, hlt], hc⟩
    · obtain ⟨h1, h2⟩ := hold j p C hj hgj hC
      obtain ⟨c, h3, h4⟩ := h.objs j p C h1 hC
      exact ⟨c, by simp only [setW]; rw [Array.getElem?_setIfInBounds_ne (fun e => h2 e.symm)]; exact h3, h4⟩
  · rw [Heap.set_next hs]; simpa [setW] using h.dom j C hC
  · by_cases h1 : i = id
    · by_cases h2 : j = id
      · exact .inl (h1.trans h2.symm)
      · subst h1; rw [hB] at bi; cases bi
        exact absurd he.symm (hold j q C1 h2 hj bj).2
    · by_cases h2 : j = id
      · subst h2; rw [hB] at bj; cases bj
        exact absurd he (hold i p B1 h1 hi bi).2
      · exact h.alias i j p q B1 C1 (hold i p B1 h1 hi bi).1 (hold j q C1 h2 hj bj).1 bi bj he
  · simp only [setW]; exact Array.getElem?_setIfInBounds_ne (fun e => hn ⟨id, o, B, hg, hB, e⟩)
  · obtain ⟨j, p, C, h1, h2, h3⟩ := ho
    by_cases hj : j = id
    · subst hj; rw [hB] at h2; cases h2; exact ⟨j, o, B, hg, hB, h3⟩
    · exact ⟨j, p, C, (hold j p C hj h1 h2).1, h2, h3⟩
theorem getObj_run {b : Nat} {c : Obj} (h : w.heap[b]? = some c) (hc : ∀ x y z, c ≠ .cells x y z) : (getObj b).run P w = .ok c w := by
  unfold getObj
  cases c <;> first | (exact absurd rfl (hc _ _ _)) | (simp only [Sem.run, h])
theorem mapSetV_ok {t : TypeId} {m k v u M K V : Value} (hR : Rel φ H w) (h : mapSetV P H t m k v = some (u, H')) (hm : conc φ m = some M) (hk : conc φ k = some K) (hv : conc φ v = some V) :
    ∃ w', (Instr.mapUpdate t M K V).run P w = .ok () w' ∧ u = undef ∧ Rel φ H' w' ∧ Step φ H w φ H' w' := by
  unfold mapSetV at h
  split at h
  · next key e r hu =>
    split at h
    · next hkk =>
      have hkk' := hkk
      simp only [Bool.and_eq_true] at hkk'
      rw [conc_plainV hkk'.1] at hk; cases hk
      have hk : conc φ k = some k := conc_plainV hkk'.1
      obtain ⟨B, hB, rfl⟩ := conc_map hm
      split at h
      · next es clock hg =>
        obtain ⟨c, hc, en, rfl, hsz, hall⟩ := hR.objs _ _ _ hg hB
        have start : ∀ (R : Option (Nat × Value)), (Instr.findKey key k en.toList).run P w = .ok R w → (Instr.mapUpdate t (.map (some B.blk)) k V).run P w = (match R with
            | some (i, _) => do
              let key ← Instr.keyThatStays (((en[i]?).map (·.key)).getD k) k
              Go.setObj B.blk (.map (en.modify i fun e => { e with key, val := V }) clock)
            | none => Go.setObj B.blk (.map (en.push { key := k, val := V, born := clock }) (clock + 1)) : Sem Unit).run P w := by
          intro R hf
          unfold Instr.mapUpdate
          rw [bind_ok (underlying_run hu)]
          simp only []
          rw [bind_ok (getObj_run hc (by simp))]
          simp only []
          rw [bind_ok (keyOk_run 4 10000 key k hkk'.1 hkk'.2 (by omega) w), bind_ok hf]
          cases R <;> rfl
        split at h
        · next i x hf =>
          obtain ⟨R, g1, g2⟩ := findKey_run (w := w) hkk hsz hall hf
          obtain ⟨V0, mm, rfl, _, g3, _⟩ := g2
          split at h
          · next e0 he0 =>
            split at h
            · next hsb =>
              simp only [Bool.and_eq_true] at hsb
              cases hst : H.set r (some (.map (putKV es i k v) clock)) with
              | none => rw [hst] at h; cases h
              | some H1 =>
                rw [hst] at h; cases h
                obtain ⟨mm', g4, g5, g6, g7⟩ := hall i e0 he0
                rw [g3] at g4; cases g4
                rw [conc_plainV hsb.1] at g5
                have hkey : mm.key = e0.1 := (Option.some.inj g5).symm
                have hob : objIs φ (.map (putKV es i k v) clock) B (.map (en.modify i fun e => { e with key := k, val := V }) clock) := by
                  refine ⟨_, rfl, by simp [putKV, hsz], fun j e1 hj => ?_⟩
                  unfold putKV at hj
                  rw [List.getElem?_modify] at hj
                  rw [Array.getElem?_modify]
                  by_cases hij : i = j
                  · subst hij
                    rw [he0] at hj
                    simp at hj; subst hj
                    rw [if_pos rfl, g3]
                    exact ⟨_, rfl, hk, hv, g7⟩
                  · rw [if_neg hij]
                    simp only [hij, if_false] at hj
                    cases hej : es[j]? with
                    | none => rw [hej] at hj; cases hj
                    | some e2 => rw [hej] at hj; simp at hj; subst hj; exact hall j e2 hej
                obtain ⟨k1, k2⟩ := hR.setObj hg rfl hB hst rfl hob
                refine ⟨_, ?_, rfl, k1, k2⟩
                rw [start _ g1]
                simp only [g3, Option.map_some, Option.getD_some]
                have ek : (Instr.keyThatStays mm.key k).run P w = .ok k w := by
                  unfold Instr.keyThatStays; rw [hkey, if_pos hsb.2]; rfl
                rw [bind_ok ek]
                exact setObj_run hc (by simp)
            · cases h
          · cases h
        · next hf =>
          obtain ⟨R, g1, g2⟩ := findKey_run (w := w) hkk hsz hall hf
          simp only at g2; subst g2
          cases hst : H.set r (some (.map (es ++ [(k, v, clock)]) (clock + 1))) with
          | none => rw [hst] at h; cases h
          | some H1 =>
            rw [hst] at h; cases h
            have hob : objIs φ (.map (es ++ [(k, v, clock)]) (clock + 1)) B (.map (en.push { key := k, val := V, born := clock }) (clock + 1)) := by
              refine ⟨_, rfl, by simp [hsz], fun j e1 hj => ?_⟩
              rw [List.getElem?_append] at hj
              rw [Array.getElem?_push]
              split at hj
              · next hlt => rw [if_neg (by omega)]; exact hall j e1 hj
              · next hge =>
                have hj0 : j - es.length = 0 := by
                  have := (List.getElem?_eq_some_iff.1 hj).1
                  simp at this; omega
                rw [hj0] at hj; simp at hj; subst hj
                rw [if_pos (by omega)]
                exact ⟨_, rfl, hk, hv, rfl⟩
            obtain ⟨k1, k2⟩ := hR.setObj hg rfl hB hst rfl hob
            refine ⟨_, ?_, rfl, k1, k2⟩
            rw [start _ g1]
            exact setObj_run hc (by simp)
        · cases h
      · cases h
    · cases h
  · cases h
theorem deleteV_ok {ts : Array TypeId} {ty : TypeId} {m k u M K : Value} (hR : Rel φ H w) (h : deleteV P H ts.toList m k = some (u, H')) (hm : conc φ m = some M) (hk : conc φ k = some K) :
    Does P φ H w (Builtin.delete_ ts ty #[M, K]) u H' := by
  unfold deleteV at h
  split at h
  · next t tl hts =>
    have h0 : ts[0]? = some t := by rw [← Array.getElem?_toList, hts]; rfl
    split at h
    · next key e r hu =>
      split at h
      · next hkk =>
        have hkk' := hkk
        simp only [Bool.and_eq_true] at hkk'
        rw [conc_plainV hkk'.1] at hk; cases hk
        obtain ⟨B, hB, rfl⟩ := conc_map hm
        split at h
        · next es clock hg =>
          obtain ⟨c, hc, en, rfl, hsz, hall⟩ := hR.objs _ _ _ hg hB
          have start : ∀ (R : Option (Nat × Value)), (Instr.findKey key k en.toList).run P w = .ok R w → (Builtin.delete_ ts ty #[.map (some B.blk), k]).run P w = (do
              match R with
              | some (i, _) => Go.setObj B.blk (.map (en.eraseIdxIfInBounds i) clock)
              | none => Go.setObj B.blk (.map en clock)
              pure (.tuple #[]) : Sem Value).run P w := by
            intro R hf
            unfold Builtin.delete_
            simp only [h0]
            show (Sem.bind (underlying t) _).run P w = _
            refine (bind_ok (underlying_run hu)).trans ?_
            simp only []
            refine (bind_ok (getObj_run hc (by simp))).trans ?_
            simp only []
            refine (bind_ok (keyOk_run 4 10000 key k hkk'.1 hkk'.2 (by omega) w)).trans ?_
            refine (bind_ok hf).trans ?_
            cases R <;> rfl
          split at h
          · next i x hf =>
            obtain ⟨R, g1, g2⟩ := findKey_run (w := w) hkk hsz hall hf
            obtain ⟨V0, mm, rfl, _, g3, _⟩ := g2
            cases hst : H.set r (some (.map (es.eraseIdx i) clock)) with
            | none => rw [hst] at h; cases h
            | some H1 =>
              rw [hst] at h; cases h
              have hil : i < en.size := (Array.getElem?_eq_some_iff.1 g3).1
              have hob : objIs φ (.map (es.eraseIdx i) clock) B (.map (en.eraseIdxIfInBounds i) clock) := by
                refine ⟨_, rfl, by unfold Array.eraseIdxIfInBounds; rw [dif_pos hil, Array.size_eraseIdx, List.length_eraseIdx, if_pos (by omega), hsz], fun j e1 hj => ?_⟩
                rw [List.getElem?_eraseIdx] at hj
                have : (en.eraseIdxIfInBounds i)[j]? = if j < i then en[j]? else en[j + 1]? := by
                  unfold Array.eraseIdxIfInBounds
                  rw [dif_pos hil, Array.getElem?_eraseIdx]
                rw [this]
                split at hj
                · next hlt => rw [if_pos hlt]; exact hall j e1 hj
                · next hge => rw [if_neg hge]; exact hall (j + 1) e1 hj
              obtain ⟨k1, k2⟩ := hR.setObj hg rfl hB hst rfl hob
              refine ⟨_, _, φ, ?_, rfl, k1, k2⟩
              rw [start _ g1]
              simp only []
              rw [bind_ok (setObj_run hc (by simp))]; rfl
          · next hf =>
            cases h
            obtain ⟨R, g1, g2⟩ := findKey_run (w := w) hkk hsz hall hf
            simp only at g2; subst g2
            refine ⟨_, w, φ, ?_, rfl, hR, Step.refl _ _ _⟩
            rw [start _ g1]
            simp only []
            rw [bind_ok (setObj_run hc (by simp))]
            have : setW w B.blk (.map en clock) = w := by
              unfold setW
              have e : w.heap.setIfInBounds B.blk (.map en clock) = w.heap := by
                apply Array.ext_getElem?
                intro j
                by_cases hj : B.blk = j
                · subst hj; rw [Array.getElem?_setIfInBounds_self, hc, if_pos (hR.dom _ _ hB).2]
                · rw [Array.getElem?_setIfInBounds_ne hj]
              rw [e]
            rw [this]; rfl
          · cases h
        · cases h
      · cases h
    · cases h
  · cases h
end
end Ev
end Go.Proofs.YtifoekadjnlhcaaGreatDoor
noncomputable section
namespace Go.Proofs.YtifoekadjnlhcaaGreatDoor
open Go.RowKit
set_option linter.unusedVariables false
set_option linter.unusedSimpArgs false
namespace Ev
def entryV (H : Heap) (it : Value) : Option Value :=
  match it with
  | .pointer (some ⟨r, 0, none⟩) => match H.get r with
    | some (.miter (some m) _ seen stepped) => match seen.getLast?, H.get m with
      | some stamp, some (.map es clock) => if clock = stepped then (match es.find? (fun e => e.2.2 == stamp) with | some e => some (.tuple ⟨[e.1, e.2.1]⟩) | none => none) else none
      | _, _ => none
    | _ => none
  | _ => none
def copyV (P : Program) (H : Heap) (ts : List TypeId) (d x : Value) : Option (Value × Heap) :=
  match ts with
  | t0 :: _ => match P.underlying t0 with
    | some (.slice e) => match tSize P e with
      | some es => match d, x with
        | .slice none dl _, .slice none n _ => if dl = 0 then some (goInt 0, H) else none
        | .slice none dl _, .slice (some a) n _ => if dl = 0 then some (goInt 0, H) else none
        | .slice none dl _, .string s => if dl = 0 then some (goInt 0, H) else none
        | .slice (some a) dl _, .slice none n _ => if n = 0 then some (goInt 0, H) else none
        | .slice (some a) dl _, .slice (some b) n _ =>
          if min n dl = 0 then some (goInt 0, H) else
          match a.spot, b.spot, H.load b.block b.off (min n dl * es) with
          | none, none, some vs => if vs.all oneCell then (H.store a.block a.off vs).map fun H' => (goInt ((min n dl : Nat) : Int), H') else none
          | _, _, _ => none
        | .slice (some a) dl _, .string s =>
          if min s.size dl = 0 then some (goInt 0, H) else
          match a.spot with
          | none => if es = 1 then (H.store a.block a.off ((bytesOf s).take (min s.size dl))).map fun H' => (goInt ((min s.size dl : Nat) : Int), H') else none
          | _ => none
        | _, _ => none
      | none => none
    | _ => none
  | [] => none
def clearV (P : Program) (H : Heap) (ts : List TypeId) (x : Value) : Option (Value × Heap) :=
  match ts with
  | t0 :: _ => match P.underlying t0, x with
    | some (.slice e), .slice (some a) n _ =>
      if n = 0 then some (.tuple ⟨[]⟩, H) else
      match (P.info? e).bind (·.zero), a.spot with
      | some z, none => if (cellsL z).all plainS ∧ 0 < (cellsL z).length then (H.store a.block a.off (copies n (cellsL z))).map fun H' => (.tuple ⟨[]⟩, H') else none
      | _, _ => none
    | some (.slice _), .slice none _ _ => some (.tuple ⟨[]⟩, H)
    | some (.map _ _), .map none => some (.tuple ⟨[]⟩, H)
    | some (.map _ _), .map (some r) => match H.get r with
      | some (.map _ clock) => (H.set r (some (.map [] clock))).map fun H' => (.tuple ⟨[]⟩, H')
      | _ => none
    | _, _ => none
  | [] => none
section
variable {P : Program} {φ : Phi} {H H' : Heap} {w : World}
theorem rangeV_ok {t : TypeId} {x v X : Value} (hR : Rel φ H w) (h : rangeV P H t x = some (v, H')) (hx : conc φ x = some X) : Does P φ H w (Instr.range t X) v H' := by
  have fin : ∀ (o : AObj) (c : Obj), objIs φ o ⟨w.heap.size, 0, 0⟩ c → ∀ H1, H.add o = some H1 → (∀ (s : Sem Obj), s.run P w = .ok c w → Does P φ H w (do let it ← s; pure (.pointer (some ⟨← newObj it, 0, none⟩))) (.pointer (some ⟨H.next, 0, none⟩)) H1) := by
    intro o c ho H1 ha s hs
    obtain ⟨φ', g1, g2, g3⟩ := new_block (n := w.drawn) hR ha ho
    refine ⟨.pointer (some ⟨w.heap.size, 0, none⟩), _, φ', ?_, ptr_val g1, g2, g3⟩
    rw [bind_ok hs, bind_ok (newObj_run _ w)]; rfl
  unfold rangeV at h
  split at h
  · next s hu =>
    cases ha : H.add (.siter s 0) with
    | none => rw [ha] at h; cases h
    | some H1 =>
      rw [ha] at h; cases h
      simp [conc] at hx; subst hx
      have := fin (.siter s 0) (.stringIter s 0) ⟨rfl, rfl⟩ H' ha (pure (.stringIter s 0)) rfl
      obtain ⟨V, w', φ', k1, k2⟩ := this
      refine ⟨V, w', φ', ?_, k2⟩
      unfold Instr.range
      rw [bind_ok (underlying_run hu)]
      exact k1
  · next k e hu =>
    cases ha : H.add (.miter none 0 [] 0) with
    | none => rw [ha] at h; cases h
    | some H1 =>
      rw [ha] at h; cases h
      simp [conc] at hx; subst hx
      have := fin (.miter none 0 [] 0) (.mapIter none 0 #[] 0) ⟨rfl, rfl⟩ H' ha (pure (.mapIter none 0 #[] 0)) rfl
      obtain ⟨V, w', φ', k1, k2⟩ := this
      refine ⟨V, w', φ', ?_, k2⟩
      unfold Instr.range
      rw [bind_ok (underlying_run hu)]
      exact k1
  · next k e r hu =>
    split at h
    · next es clock hg =>
      cases ha : H.add (.miter (some r) clock [] clock) with
      | none => rw [ha] at h; cases h
      | some H1 =>
        rw [ha] at h; cases h
        obtain ⟨B, hB, rfl⟩ := conc_map hx
        obtain ⟨c, hc, en, rfl, hsz, hall⟩ := hR.objs _ _ _ hg hB
        have := fin (.miter (some r) clock [] clock) (.mapIter (some B.blk) clock #[] clock) ⟨rfl, B, hB, rfl⟩ H' ha (pure (.mapIter (some B.blk) clock #[] clock)) rfl
        obtain ⟨V, w', φ', k1, k2⟩ := this
        refine ⟨V, w', φ', ?_, k2⟩
        unfold Instr.range
        rw [bind_ok (underlying_run hu)]
        simp only []
        rw [bind_ok (getObj_run hc (by simp))]
        exact k1
    · cases h
  · cases h
inductive All2 {α β : Type} (R : α → β → Prop) : List α → List β → Prop where
  | nil : All2 R [] []
  | cons {a : α} {b : β} {l : List α} {m : List β} (h : R a b) (t : All2 R l m) : All2 R (a :: l) (b :: m)
theorem ent_forall {es : List (Value × Value × Nat)} {en : List MapEntry} (hl : en.length = es.length) (h : ∀ (i : Nat) e, es[i]? = some e → ∃ m, en[i]? = some m ∧ entIn φ e m) : All2 (entIn φ) es en := by
  induction es generalizing en with
  | nil => cases en with
    | nil => exact .nil
    | cons => simp at hl
  | cons e es ih =>
    cases en with
    | nil => simp at hl
    | cons m en =>
      obtain ⟨m', h1, h2⟩ := h 0 e rfl
      simp at h1; subst h1
      exact .cons h2 (ih (by simpa using hl) fun i e' he => by simpa using h (i + 1) e' (by simpa using he))
theorem filter_forall {p : Nat → Bool} {es : List (Value × Value × Nat)} {en : List MapEntry} (h : All2 (entIn φ) es en) : All2 (entIn φ) (es.filter fun e => p e.2.2) (en.filter fun m => p m.born) := by
  induction h with
  | nil => exact .nil
  | @cons e m es en h1 h2 ih =>
    simp only [List.filter_cons, h1.2.2]
    split
    · exact .cons h1 ih
    · exact ih
theorem all_forall {p : Nat → Bool} {es : List (Value × Value × Nat)} {en : List MapEntry} (h : All2 (entIn φ) es en) : (es.all fun e => p e.2.2) = en.all fun m => p m.born := by
  induction h with
  | nil => rfl
  | @cons e m es en h1 h2 ih => simp only [List.all_cons, h1.2.2, ih]
theorem find_forall {p : Nat → Bool} {es : List (Value × Value × Nat)} {en : List MapEntry} (h : All2 (entIn φ) es en) {e : Value × Value × Nat} (hf : (es.find? fun e => p e.2.2) = some e) : ∃ m, (en.find? fun m => p m.born) = some m ∧ entIn φ e m := by
  induction h with
  | nil => simp at hf
  | @cons e1 m es en h1 h2 ih =>
    simp only [List.find?_cons, h1.2.2] at hf ⊢
    split at hf
    · next hp => cases hf; exact ⟨m, rfl, h1⟩
    · next hp => exact ih hf
theorem iter_at {r : Nat} {o : AObj} {X : Value} (hR : Rel φ H w) (hg : H.get r = some o) (hx : conc φ (.pointer (some ⟨r, 0, none⟩)) = some X) (h0 : ∀ B c, objIs φ o B c → B.base = 0) :
    ∃ B c, φ.at_ r = some B ∧ X = .pointer (some ⟨B.blk, 0, none⟩) ∧ w.heap[B.blk]? = some c ∧ objIs φ o B c := by
  obtain ⟨hs, A, hA, rfl⟩ := conc_ptr hx
  obtain ⟨B, hB, rfl⟩ := concA_none hs hA
  obtain ⟨c, hc, ho⟩ := hR.objs _ _ _ hg hB
  exact ⟨B, c, hB, by rw [h0 B c ho]; rfl, hc, ho⟩
theorem nextV_ok {it v X : Value} {b : Bool} {ty : TypeId} (hR : Rel φ H w) (h : nextV H it b = some (v, H')) (hx : conc φ it = some X) : Does P φ H w (Instr.next X b ty) v H' := by
  unfold nextV at h
  split at h
  · next r =>
    split at h
    · next s pos hg =>
      obtain ⟨B, c, hB, rfl, hc, ho⟩ := iter_at hR hg hx (fun B c h => h.1)
      obtain ⟨_, rfl⟩ := ho
      have start : (Instr.next (.pointer (some ⟨B.blk, 0, none⟩)) true ty).run P w = (if pos < s.size then (do
          setObj B.blk (.stringIter s (pos + (Utf8.decode s pos).2))
          pure (.tuple #[.bool true, goInt pos, .int .i32 (Utf8.decode s pos).1])) else pure (.tuple #[.bool false]) : Sem Value).run P w := by
        unfold Instr.next
        simp only []
        rw [bind_ok (getObj_run hc (by simp))]
      split at h
      · next hlt =>
        cases hst : H.set r (some (.siter s (pos + (Utf8.decode s pos).2))) with
        | none => rw [hst] at h; cases h
        | some H1 =>
          rw [hst] at h; cases h
          obtain ⟨k1, k2⟩ := hR.setObj hg rfl hB hst rfl (c' := .stringIter s (pos + (Utf8.decode s pos).2)) ⟨(by assumption), rfl⟩
          refine ⟨.tuple #[.bool true, goInt pos, .int .i32 (Utf8.decode s pos).1], _, φ, ?_, rfl, k1, k2⟩
          rw [start, if_pos hlt, bind_ok (setObj_run hc (by simp))]; rfl
      · next hge =>
        cases h
        exact ⟨.tuple #[.bool false], w, φ, by rw [start, if_neg hge]; rfl, rfl, hR, Step.refl _ _ _⟩
    · next since seen last hg =>
      cases h
      obtain ⟨B, c, hB, rfl, hc, ho⟩ := iter_at hR hg hx (fun B c h => h.1)
      obtain ⟨_, rfl⟩ := ho
      refine ⟨.tuple #[.bool false], w, φ, ?_, rfl, hR, Step.refl _ _ _⟩
      unfold Instr.next
      simp only []
      rw [bind_ok (getObj_run hc (by simp))]; rfl
    · next m since seen last hg =>
      split at h
      · next es clock hgm =>
        obtain ⟨B, c, hB, rfl, hc, ho⟩ := iter_at hR hg hx (fun B c h => h.1)
        obtain ⟨hb0, M, hM, rfl⟩ := ho
        obtain ⟨cm, hcm, en, rfl, hsz, hall⟩ := hR.objs _ _ _ hgm hM
        have hfa := ent_forall (φ := φ) (es := es) (en := en.toList) (by simpa using hsz) (fun i e he => by simpa using hall i e he)
        split at h
        · cases h
        · next hgd =>
          have e1 : (es.all fun e => decide (e.2.2 ≥ last)) = en.all fun e => decide (e.born ≥ last) := by
            rw [all_forall (p := fun b => decide (b ≥ last)) hfa, Array.all_toList]
          have e2 : es.isEmpty = en.isEmpty := by
            cases es with
            | nil => cases en using Array.recOn with | mk l => cases l <;> simp at hsz ⊢
            | cons a es => cases en using Array.recOn with | mk l => cases l <;> simp at hsz ⊢
          have e3 : seen.isEmpty = seen.toArray.isEmpty := by simp
          rw [e1, e2, e3] at hgd
          have start : (Instr.next (.pointer (some ⟨B.blk, 0, none⟩)) false ty).run P w = (do
              let left := en.filter fun e => !seen.toArray.contains e.born
              let old := left.filter (·.born < since)
              let new := left.filter (·.born ≥ since)
              let candidates := (if old.isEmpty then #[none] else #[]) ++ (old ++ new).map some
              match candidates[← choose (.mapNext candidates.size)]? with
              | some (some e) =>
                setObj B.blk (.mapIter (some M.blk) since (seen.toArray.push e.born) clock)
                pure (.tuple #[.bool true, e.key, e.val])
              | some none => pure (.tuple #[.bool false])
              | none => stuck "Next: no such candidate" : Sem Value).run P w := by
            unfold Instr.next
            simp only []
            rw [bind_ok (getObj_run hc (by simp))]
            simp only []
            rw [bind_ok (getObj_run hcm (by simp))]
            simp only []
            rw [if_neg hgd]; rfl
          have hff := filter_forall (p := fun b => !seen.contains b) hfa
          have e4 : (en.filter fun e => !seen.toArray.contains e.born).toList = en.toList.filter fun e => !seen.contains e.born := by rw [Array.toList_filter]; simp
          split at h
          · next hnil =>
            cases h
            rw [hnil] at hff
            have e5 : (en.filter fun e => !seen.toArray.contains e.born) = #[] := by
              apply Array.toList_inj.1; rw [e4]
              cases hq : en.toList.filter (fun e => !seen.contains e.born) with
              | nil => rfl
              | cons a b => rw [hq] at hff; cases hff
            refine ⟨.tuple #[.bool false], w, φ, ?_, rfl, hR, Step.refl _ _ _⟩
            rw [start]
            have f0 : ∀ f : MapEntry → Bool, (#[] : Array MapEntry).filter f = #[] := fun f => by apply Array.toList_inj.1; simp [Array.toList_filter]
            have fc : ((if (#[] : Array MapEntry).isEmpty = true then #[none] else #[]) ++ (#[] ++ #[] : Array MapEntry).map some) = #[none] := by apply Array.toList_inj.1; simp
            simp only [e5, f0, fc]
            have ec : (choose (.mapNext (#[none] : Array (Option MapEntry)).size)).run P w = .ok 0 w := rfl
            exact (bind_ok ec).trans rfl
          · next e he =>
            rw [he] at hff
            split at h
            · next hsin =>
              cases hst : H.set r (some (.miter (some m) since (seen ++ [e.2.2]) clock)) with
              | none => rw [hst] at h; cases h
              | some H1 =>
                rw [hst] at h; cases h
                obtain ⟨mm, hmm, hle⟩ : ∃ mm, (en.filter fun e => !seen.toArray.contains e.born) = #[mm] ∧ entIn φ e mm := by
                  cases hq : en.toList.filter (fun e => !seen.contains e.born) with
                  | nil => rw [hq] at hff; cases hff
                  | cons mm rest =>
                    rw [hq] at hff
                    cases hff with
                    | cons h1 h2 => cases h2; exact ⟨mm, by apply Array.toList_inj.1; rw [e4, hq], h1⟩
                obtain ⟨q1, q2, q3⟩ := hle
                obtain ⟨k1, k2⟩ := hR.setObj hg rfl hB hst rfl (c' := .mapIter (some M.blk) since (seen.toArray.push mm.born) clock) ⟨hb0, M, hM, by rw [q3]; simp⟩
                refine ⟨.tuple #[.bool true, mm.key, mm.val], _, φ, ?_, by simp [conc, concL, q1, q2], k1, k2⟩
                rw [start]
                have hlt : (mm.born < since) = True := by rw [← q3]; exact eq_true hsin
                have hge : (mm.born ≥ since) = False := eq_false (by rw [← q3]; omega)
                simp only [hmm]
                have f1 : #[mm].filter (fun e => decide (e.born < since)) = #[mm] := by apply Array.toList_inj.1; simp [Array.toList_filter, hlt]
                have f2 : #[mm].filter (fun e => decide (e.born ≥ since)) = #[] := by apply Array.toList_inj.1; simp [Array.toList_filter]; rw [← q3]; omega
                have fc : ((if (#[mm] : Array MapEntry).isEmpty = true then #[none] else #[]) ++ (#[mm] ++ #[] : Array MapEntry).map some) = #[some mm] := by apply Array.toList_inj.1; simp
                simp only [f1, f2, fc]
                have ec : (choose (.mapNext (#[some mm] : Array (Option MapEntry)).size)).run P w = .ok 0 w := rfl
                refine (bind_ok ec).trans ?_
                exact (bind_ok (setObj_run hc (by simp))).trans rfl
            · cases h
          · cases h
      · cases h
    · cases h
  · cases h
end
end Ev
end Go.Proofs.YtifoekadjnlhcaaGreatDoor
noncomputable section
namespace Go.Proofs.YtifoekadjnlhcaaGreatDoor
open Go.RowKit
set_option linter.unusedVariables false
set_option linter.unusedSimpArgs false
namespace Ev
def evRd (P : Program) (ρ : Operand → Option Value) (H : Heap) (op : Op) : Option Value :=
  match op with
  | .entry x => match ρ x with | some v => entryV H v | none => none
  | op => evR P ρ H op
def callE (P : Program) (H : Heap) (b : Builtin) (ts : List TypeId) (vs : List Value) : Option (Value × Heap) :=
  match b, vs with
  | .append, [s, x] => appendV P H ts s x
  | .copy, [d, x] => copyV P H ts d x
  | .clear, [x] => clearV P H ts x
  | .delete, [m, k] => deleteV P H ts m k
  | _, _ => none
def evE (P : Program) (ρ : Operand → Option Value) (H : Heap) (op : Op) : Option (Value × Heap) :=
  match op with
  | .store t a x => match ρ a, ρ x with
    | some a, some x => storeV P H t a x
    | _, _ => none
  | .mapUpdate t m k x => match ρ m, ρ k, ρ x with
    | some m, some k, some x => mapSetV P H t m k x
    | _, _, _ => none
  | .insert t m k x => match ρ m, ρ k, ρ x with
    | some m, some k, some x => mapSetV P H t m k x
    | _, _, _ => none
  | .range t x => match ρ x with | some x => rangeV P H t x | none => none
  | .next it b => match ρ it with | some x => nextV H x b | none => none
  | .call c => match c.callee with
    | .builtin b => match valsV ρ c.args.toList with | some vs => callE P H b c.argTypes.toList vs | none => none
    | _ => none
  | _ => none
section
variable {P : Program} {φ : Phi} {H H' : Heap} {w : World} {ρ : Operand → Option Value} {ev : Operand → Value}
theorem entryV_ok {it v X : Value} (hR : Rel φ H w) (h : entryV H it = some v) (hx : conc φ it = some X) : ∃ V, conc φ v = some V ∧ (Instr.entry X).run P w = .ok V w := by
  unfold entryV at h
  split at h
  · next r =>
    split at h
    · next m since seen stepped hg =>
      split at h
      · next stamp es clock hl hgm =>
        split at h
        · next hcl =>
          split at h
          · next e hf =>
            cases h
            obtain ⟨B, c, hB, rfl, hc, ho⟩ := iter_at hR hg hx (fun B c h => h.1)
            obtain ⟨hb0, M, hM, rfl⟩ := ho
            obtain ⟨cm, hcm, en, rfl, hsz, hall⟩ := hR.objs _ _ _ hgm hM
            have hfa := ent_forall (φ := φ) (es := es) (en := en.toList) (by simpa using hsz) (fun i e he => by simpa using hall i e he)
            obtain ⟨mm, g1, g2, g3, g4⟩ := find_forall (p := fun b => b == stamp) hfa hf
            refine ⟨.tuple #[mm.key, mm.val], by simp [conc, concL, g2, g3], ?_⟩
            unfold Instr.entry
            simp only []
            rw [bind_ok (getObj_run hc (by simp))]
            have hb : seen.toArray.back? = some stamp := by simpa using hl
            simp only [hb]
            rw [bind_ok (getObj_run hcm (by simp))]
            have hne : (clock != stepped) = false := by simpa using hcl
            have hfd : en.find? (fun e => e.born == stamp) = some mm := by rw [← Array.find?_toList]; exact g1
            simp only [hne, hfd]
            rfl
          · cases h
        · cases h
      · cases h
    · cases h
  · cases h
def lenA : Value → Option Nat
  | .slice _ n _ => some n
  | .string s => some s.size
  | _ => none
theorem lenOf_run {x X : Value} (hx : conc φ x = some X) : ∀ n, lenA x = some n → (Builtin.lenOf X).run P w = .ok n w := by
  intro n h
  cases x <;> simp [lenA] at h
  case slice a m c =>
    subst h
    cases a with
    | none => simp [conc] at hx; subst hx; rfl
    | some a => obtain ⟨B, A, _, _, rfl⟩ := conc_slice hx; rfl
  case string s => subst h; simp [conc] at hx; subst hx; rfl
theorem copy_start {ts : Array TypeId} {ty t0 e : TypeId} {es n dl c : Nat} {base : Option Addr} {X : Value} (h0 : ts[0]? = some t0) (hu : P.underlying t0 = some (.slice e)) (hs : tSize P e = some es) (hn : (Builtin.lenOf X).run P w = .ok n w) :
    (Builtin.copy_ ts ty #[.slice base dl c, X]).run P w = (do
      let cells ← Builtin.firstCells es (Nat.min n dl) X
      match base with
      | some a => do
        storeCells a cells.toList
        pure (goInt ((Nat.min n dl : Nat) : Int))
      | _ => pure (goInt ((Nat.min n dl : Nat) : Int)) : Sem Value).run P w := by
  unfold Builtin.copy_
  simp only [h0]
  show (Sem.bind (underlying t0) _).run P w = _
  refine (bind_ok (underlying_run hu)).trans ?_
  simp only []
  refine (bind_ok hn).trans ?_
  refine (bind_ok (sizeOf_run hs)).trans ?_
  cases base <;> rfl
theorem first_zero {x X : Value} {es n : Nat} (hx : conc φ x = some X) (hn : lenA x = some n) : ∃ C : Array Value, (Builtin.firstCells es 0 X).run P w = .ok C w ∧ C = #[] := by
  cases x <;> simp [lenA] at hn
  case slice a m c =>
    cases a with
    | none => simp [conc] at hx; subst hx; exact ⟨#[], rfl, rfl⟩
    | some a =>
      obtain ⟨B, A, _, _, rfl⟩ := conc_slice hx
      refine ⟨#[], ?_, rfl⟩
      show (loadCells A (0 * es)).run P w = _
      rw [Nat.zero_mul]; rfl
  case string s =>
    simp [conc] at hx; subst hx
    refine ⟨_, rfl, ?_⟩
    apply Array.toList_inj.1
    simp
theorem copyV_ok {ts : Array TypeId} {ty : TypeId} {d x v D X : Value} (hR : Rel φ H w) (h : copyV P H ts.toList d x = some (v, H')) (hd : conc φ d = some D) (hx : conc φ x = some X) : Does P φ H w (Builtin.copy_ ts ty #[D, X]) v H' := by
  unfold copyV at h
  split at h
  · next t0 tl hts =>
    have h0 : ts[0]? = some t0 := by rw [← Array.getElem?_toList, hts]; rfl
    split at h
    · next e hu =>
      split at h
      · next es hes =>
        have nothing : ∀ (n dl c : Nat) (base : Option Addr), lenA x = some n → Nat.min n dl = 0 → D = .slice base dl c → Does P φ H w (Builtin.copy_ ts ty #[D, X]) (goInt 0) H := by
          intro n dl c base hn hm hD
          obtain ⟨C, g1, g2⟩ := first_zero (P := P) (w := w) (es := es) hx hn
          refine ⟨goInt 0, w, φ, ?_, rfl, hR, Step.refl _ _ _⟩
          rw [hD, copy_start h0 hu hes (lenOf_run hx n hn), hm, bind_ok g1, g2]
          cases base <;> rfl
        split at h
        · next dl c n c2 =>
          split at h
          · next hz => cases h; simp [conc] at hd; subst hd hz; exact nothing n 0 c none rfl (Nat.min_zero _) rfl
          · cases h
        · next dl c a n c2 =>
          split at h
          · next hz => cases h; simp [conc] at hd; subst hd hz; exact nothing n 0 c none rfl (Nat.min_zero _) rfl
          · cases h
        · next dl c s =>
          split at h
          · next hz => cases h; simp [conc] at hd; subst hd hz; exact nothing s.size 0 c none rfl (Nat.min_zero _) rfl
          · cases h
        · next a dl c n c2 =>
          split at h
          · next hz =>
            cases h; subst hz
            obtain ⟨B, A, _, _, rfl⟩ := conc_slice hd
            exact nothing 0 dl _ _ rfl (Nat.zero_min _) rfl
          · cases h
        · next a dl c b n c2 =>
          obtain ⟨B, A, hB, hA, hD⟩ := conc_slice hd
          split at h
          · next hz => cases h; exact nothing n dl _ _ rfl hz hD
          · next hz =>
            split at h
            · next vs hsa hsb hl =>
              split at h
              · next hone =>
                cases hst : H.store a.block a.off vs with
                | none => rw [hst] at h; cases h
                | some H1 =>
                  rw [hst] at h; cases h
                  subst hD
                  obtain ⟨B', hB', rfl⟩ := concA_none hsa hA
                  rw [hB] at hB'; cases hB'
                  obtain ⟨C, A2, hC, hA2, rfl⟩ := conc_slice hx
                  obtain ⟨C', hC', rfl⟩ := concA_none hsb hA2
                  rw [hC] at hC'; cases hC'
                  obtain ⟨cs, el, fr, g1, g2, g3, g4⟩ := hR.load hl hC
                  obtain ⟨ds, dl', dr, k1, k2, k3, k4, k5⟩ := hR.store hst hB g4
                  refine ⟨_, _, φ, ?_, rfl, k4, k5⟩
                  rw [copy_start h0 hu hes (lenOf_run hx n rfl)]
                  have hfc : (Builtin.firstCells es (Nat.min n dl) (.slice (some ⟨C.blk, C.base + b.off, none⟩) n (if c2 < BIG then c2 else c2 - BIG + C.exc))).run P w = .ok _ w := loadCells_run g1 g2
                  rw [bind_ok hfc]
                  simp only []
                  have := storeCells_run (P := P) (o := B.base + a.off) _ 0 w ds dl' dr k1 k2 (all_one hone g4) (by simpa using k3)
                  rw [bind_ok this, run_pure]; rfl
              · cases h
            · cases h
        · next a dl c s =>
          obtain ⟨B, A, hB, hA, hD⟩ := conc_slice hd
          split at h
          · next hz => cases h; exact nothing s.size dl _ _ rfl hz hD
          · next hz =>
            split at h
            · next hsa =>
              split at h
              · next hes1 =>
                cases hst : H.store a.block a.off ((bytesOf s).take (min s.size dl)) with
                | none => rw [hst] at h; cases h
                | some H1 =>
                  rw [hst] at h; cases h
                  subst hD
                  obtain ⟨B', hB', rfl⟩ := concA_none hsa hA
                  rw [hB] at hB'; cases hB'
                  simp [conc] at hx; subst hx
                  have hpl : ((bytesOf s).take (min s.size dl)).all plainS = true := by
                    rw [List.all_eq_true]; intro y hy
                    have := List.mem_of_mem_take hy
                    simp only [bytesOf, List.mem_map] at this; obtain ⟨b, _, rfl⟩ := this; rfl
                  have hone : ((bytesOf s).take (min s.size dl)).all oneCell = true := by
                    rw [List.all_eq_true]; intro y hy
                    have := List.mem_of_mem_take hy
                    simp only [bytesOf, List.mem_map] at this; obtain ⟨b, _, rfl⟩ := this; rfl
                  have g4 := concL_plain (φ := φ) hpl
                  obtain ⟨ds, dl', dr, k1, k2, k3, k4, k5⟩ := hR.store hst hB g4
                  refine ⟨_, _, φ, ?_, rfl, k4, k5⟩
                  rw [copy_start h0 hu hes (show (Builtin.lenOf (.string s)).run P w = .ok s.size w from rfl)]
                  have hfc : (Builtin.firstCells es (Nat.min s.size dl) (.string s)).run P w = .ok ((s.extract 0 (Nat.min s.size dl)).data.map fun b => .int .u8 b.toNat) w := rfl
                  rw [bind_ok hfc]
                  simp only []
                  have hl : ((s.extract 0 (Nat.min s.size dl)).data.map fun b => Value.int .u8 b.toNat).toList = (bytesOf s).take (min s.size dl) := by
                    rw [Array.toList_map]
                    unfold bytesOf
                    rw [← List.map_take]
                    congr 1
                    have : (s.extract 0 (Nat.min s.size dl)).data = s.data.extract 0 (Nat.min s.size dl) := by simp
                    rw [this]; simp [List.extract_eq_take_drop]
                  rw [hl]
                  have := storeCells_run (P := P) (o := B.base + a.off) _ 0 w ds dl' dr k1 k2 (all_one hone g4) (by simpa using k3)
                  rw [bind_ok this, run_pure]; rfl
              · cases h
            · cases h
        · cases h
      · cases h
    · cases h
  · cases h
theorem clearV_ok {ts : Array TypeId} {ty : TypeId} {x v X : Value} (hR : Rel φ H w) (h : clearV P H ts.toList x = some (v, H')) (hx : conc φ x = some X) : Does P φ H w (Builtin.clear_ ts ty #[X]) v H' := by
  unfold clearV at h
  split at h
  · next t0 tl hts =>
    have h0 : ts[0]? = some t0 := by rw [← Array.getElem?_toList, hts]; rfl
    split at h
    · next e a n c hu =>
      obtain ⟨B, A, hB, hA, rfl⟩ := conc_slice hx
      split at h
      · next hn =>
        cases h; subst hn
        refine ⟨.tuple #[], w, φ, ?_, rfl, hR, Step.refl _ _ _⟩
        unfold Builtin.clear_
        simp only [h0]
        show (Sem.bind (underlying t0) _).run P w = _
        exact (bind_ok (underlying_run hu)).trans rfl
      · next hn =>
        split at h
        · next z hz hs =>
          split at h
          · next hc =>
            cases hst : H.store a.block a.off (copies n (cellsL z)) with
            | none => rw [hst] at h; cases h
            | some H1 =>
              rw [hst] at h; cases h
              obtain ⟨B', hB', rfl⟩ := concA_none hs hA
              rw [hB] at hB'; cases hB'
              have hzc := cellsL_plain hc.1
              have hpl := copies_plain n _ hc.1
              have g4 := concL_plain (φ := φ) hpl
              have hone : (copies n (cellsL z)).all oneCell = true := by
                rw [List.all_eq_true]; intro y hy
                have := (List.all_eq_true.1 hpl) y hy
                cases y <;> simp [plainS] at this <;> rfl
              obtain ⟨ds, dl', dr, k1, k2, k3, k4, k5⟩ := hR.store hst hB g4
              refine ⟨.tuple #[], _, φ, ?_, rfl, k4, k5⟩
              obtain ⟨n', rfl⟩ : ∃ n', n = n' + 1 := ⟨n - 1, by omega⟩
              unfold Builtin.clear_
              simp only [h0]
              show (Sem.bind (underlying t0) _).run P w = _
              refine (bind_ok (underlying_run hu)).trans ?_
              have e1 : (Builtin.zeroCells z.cells (n' + 1)).toList = copies (n' + 1) (cellsL z) := by
                unfold Builtin.zeroCells
                rw [range_copies (n' + 1) (by rw [hzc]; simpa using hc.2), hzc]
              show (Sem.bind (zeroValue e) _).run P w = _
              refine (bind_ok (zeroValue_run hz)).trans ?_
              show (Sem.bind (storeCells _ _) _).run P w = _
              rw [e1]
              have := storeCells_run (P := P) (o := B.base + a.off) _ 0 w ds dl' dr k1 k2 (all_one hone g4) (by simpa using k3)
              rw [Nat.add_zero] at this
              exact (bind_ok this).trans rfl
          · cases h
        · cases h
    · next e n c hu =>
      cases h
      simp [conc] at hx; subst hx
      refine ⟨.tuple #[], w, φ, ?_, rfl, hR, Step.refl _ _ _⟩
      unfold Builtin.clear_
      simp only [h0]
      show (Sem.bind (underlying t0) _).run P w = _
      exact (bind_ok (underlying_run hu)).trans rfl
    · next k e hu =>
      cases h
      simp [conc] at hx; subst hx
      refine ⟨.tuple #[], w, φ, ?_, rfl, hR, Step.refl _ _ _⟩
      unfold Builtin.clear_
      simp only [h0]
      show (Sem.bind (underlying t0) _).run P w = _
      exact (bind_ok (underlying_run hu)).trans rfl
    · next k e r hu =>
      obtain ⟨B, hB, rfl⟩ := conc_map hx
      split at h
      · next es clock hg =>
        obtain ⟨c, hc, en, rfl, hsz, hall⟩ := hR.objs _ _ _ hg hB
        cases hst : H.set r (some (.map [] clock)) with
        | none => rw [hst] at h; cases h
        | some H1 =>
          rw [hst] at h; cases h
          obtain ⟨k1, k2⟩ := hR.setObj hg rfl hB hst rfl (c' := .map #[] clock) ⟨#[], rfl, rfl, by simp⟩
          refine ⟨.tuple #[], _, φ, ?_, rfl, k1, k2⟩
          unfold Builtin.clear_
          simp only [h0]
          show (Sem.bind (underlying t0) _).run P w = _
          refine (bind_ok (underlying_run hu)).trans ?_
          show (Sem.bind (getObj B.blk) _).run P w = _
          refine (bind_ok (getObj_run hc (by simp))).trans ?_
          show (Sem.bind (setObj B.blk _) _).run P w = _
          exact (bind_ok (setObj_run hc (by simp))).trans rfl
      · cases h
    · cases h
  · cases h
theorem evRd_ok (hR : Rel φ H w) (hρ : ∀ x u, ρ x = some u → conc φ u = some (ev x)) {o : Oper} {v : Value} (h : evRd P ρ H o.op = some v) : ∃ V, conc φ v = some V ∧ (execOp ev o).run P w = .ok (.value V) w := by
  unfold evRd at h
  split at h
  · next x hop =>
    split at h
    · next u hu =>
      obtain ⟨V, g1, g2⟩ := entryV_ok (P := P) hR h (hρ _ _ hu)
      refine ⟨V, g1, ?_⟩
      unfold execOp
      simp only [hop]
      rw [bind_ok g2]; rfl
    · cases h
  · exact evR_ok hR hρ h
theorem evE_ok (hR : Rel φ H w) (hρ : ∀ x u, ρ x = some u → conc φ u = some (ev x)) {o : Oper} {v : Value} (h : evE P ρ H o.op = some (v, H')) :
    ∃ V w' φ', ((execOp ev o).run P w = .ok (.value V) w' ∨ ((execOp ev o).run P w = .ok .skip w' ∧ V = undef)) ∧ conc φ' v = some V ∧ Rel φ' H' w' ∧ Step φ H w φ' H' w' := by
  obtain ⟨dst, op, ty, pos, after, guard⟩ := o
  simp only at h
  have cu : conc φ undef = some undef := rfl
  unfold evE at h
  split at h
  · next t a x =>
    split at h
    · next a' x' ha hx =>
      obtain ⟨w', g1, rfl, g3, g4⟩ := storeV_ok hR h (hρ _ _ ha) (hρ _ _ hx)
      refine ⟨undef, w', φ, .inr ⟨?_, rfl⟩, cu, g3, g4⟩
      unfold execOp
      simp only
      rw [bind_ok g1]; rfl
    · cases h
  · next t m k x =>
    split at h
    · next m' k' x' hm hk hx =>
      obtain ⟨w', g1, rfl, g3, g4⟩ := mapSetV_ok hR h (hρ _ _ hm) (hρ _ _ hk) (hρ _ _ hx)
      refine ⟨undef, w', φ, .inr ⟨?_, rfl⟩, cu, g3, g4⟩
      unfold execOp
      simp only
      rw [bind_ok g1]; rfl
    · cases h
  · next t m k x =>
    split at h
    · next m' k' x' hm hk hx =>
      obtain ⟨w', g1, rfl, g3, g4⟩ := mapSetV_ok hR h (hρ _ _ hm) (hρ _ _ hk) (hρ _ _ hx)
      refine ⟨undef, w', φ, .inr ⟨?_, rfl⟩, cu, g3, g4⟩
      unfold execOp
      simp only
      rw [bind_ok g1]; rfl
    · cases h
  · next t x =>
    split at h
    · next x' hx =>
      obtain ⟨V, w', φ', g1, g2, g3, g4⟩ := rangeV_ok hR h (hρ _ _ hx)
      refine ⟨V, w', φ', .inl ?_, g2, g3, g4⟩
      unfold execOp
      simp only
      rw [bind_ok g1]; rfl
    · cases h
  · next it b =>
    split at h
    · next x' hx =>
      obtain ⟨V, w', φ', g1, g2, g3, g4⟩ := nextV_ok (P := P) (ty := ty) hR h (hρ _ _ hx)
      refine ⟨V, w', φ', .inl ?_, g2, g3, g4⟩
      unfold execOp
      simp only
      rw [bind_ok g1]; rfl
    · cases h
  · next c =>
    split at h
    · next b hcal =>
      split at h
      · next vs hvs =>
        have hcl := valsV_ok hρ _ _ hvs
        have hargs : c.args.map ev = (c.args.toList.map ev).toArray := by apply Array.toList_inj.1; simp
        have run : ∀ {V : Value} {w' : World} {s : (Array TypeId) → TypeId → Array Value → Sem Value}, (∀ consts, builtin b c.argTypes ty consts (c.args.map ev) = (do pure (.value (← s c.argTypes ty (c.args.map ev))))) → (s c.argTypes ty (c.args.toList.map ev).toArray).run P w = .ok V w' → (execOp ev ⟨dst, .call c, ty, pos, after, guard⟩).run P w = .ok (.value V) w' := by
          intro V w' s hb hs
          unfold execOp
          simp only
          unfold resolve
          rw [hcal]
          simp only
          rw [bind_ok (run_pure P _ w)]
          show (builtin b c.argTypes ty _ (c.args.map ev)).run P w = _
          rw [hb, hargs, bind_ok hs]; rfl
        have two : ∀ {a b : Value}, vs = [a, b] → ∃ A B, conc φ a = some A ∧ conc φ b = some B ∧ c.args.toList.map ev = [A, B] := by
          intro a b e; subst e
          simp only [concL] at hcl
          cases ha : conc φ a with
          | none => rw [ha] at hcl; cases hcl
          | some A =>
            cases hb : conc φ b with
            | none => rw [ha, hb] at hcl; cases hcl
            | some B => rw [ha, hb] at hcl; simp only [Option.some.injEq] at hcl; exact ⟨A, B, rfl, rfl, hcl.symm⟩
        unfold callE at h
        split at h
        · next s x =>
          obtain ⟨A, B, ga, gb, gl⟩ := two rfl
          obtain ⟨V, w', φ', g1, g2, g3, g4⟩ := appendV_ok (ty := ty) hR h ga gb
          exact ⟨V, w', φ', .inl (run (s := Builtin.append_) (fun _ => rfl) (by rw [gl]; exact g1)), g2, g3, g4⟩
        · next s x =>
          obtain ⟨A, B, ga, gb, gl⟩ := two rfl
          obtain ⟨V, w', φ', g1, g2, g3, g4⟩ := copyV_ok (ty := ty) hR h ga gb
          exact ⟨V, w', φ', .inl (run (s := Builtin.copy_) (fun _ => rfl) (by rw [gl]; exact g1)), g2, g3, g4⟩
        · next x =>
          obtain ⟨A, ga, gl⟩ : ∃ V, conc φ x = some V ∧ c.args.toList.map ev = [V] := by
            simp only [concL] at hcl
            cases hv : conc φ x with
            | none => rw [hv] at hcl; cases hcl
            | some V => rw [hv] at hcl; simp only [Option.some.injEq] at hcl; exact ⟨V, rfl, hcl.symm⟩
          obtain ⟨V, w', φ', g1, g2, g3, g4⟩ := clearV_ok (ty := ty) hR h ga
          exact ⟨V, w', φ', .inl (run (s := Builtin.clear_) (fun _ => rfl) (by rw [gl]; exact g1)), g2, g3, g4⟩
        · next s x =>
          obtain ⟨A, B, ga, gb, gl⟩ := two rfl
          obtain ⟨V, w', φ', g1, g2, g3, g4⟩ := deleteV_ok (ty := ty) hR h ga gb
          exact ⟨V, w', φ', .inl (run (s := Builtin.delete_) (fun _ => rfl) (by rw [gl]; exact g1)), g2, g3, g4⟩
        · cases h
      · cases h
    · cases h
  · cases h
end
end Ev
end Go.Proofs.YtifoekadjnlhcaaGreatDoor
