/- THE ENGINE, 15: append. -/
import Derived.Test.YtepdkcikkemieaaGreatEvN
noncomputable section
namespace Go.Proofs.YtepdkcikkemieaaGreat
open Go.RowKit
set_option linter.unusedVariables false
set_option linter.unusedSimpArgs false
namespace Ev

section
variable {P : Program} {φ : Phi} {H : Heap} {w : World}
theorem zeroCells_size (z : Array Value) (n : Nat) : (Builtin.zeroCells z n).size = n * z.size := by unfold Builtin.zeroCells; simp
theorem grown_obj {old : List (Option Value)} {vs : List Value} {D C Z : Array Value} {es e B : Nat} {t : TypeId} (hD : old.length = D.size) (hold : ∀ (i : Nat) v, old[i]? = some (some v) → ∃ x, D[i]? = some x ∧ conc φ v = some x)
    (hC : concL φ vs = some C.toList) (hZ : Z.size = e * es) : objIs φ (.cells (old ++ vs.map some) (some es) none) ⟨B, 0, e⟩ (.cells (D ++ C ++ Z) t) := by
  have hl := concL_len hC
  simp only [Array.length_toList] at hl
  refine ⟨D ++ C ++ Z, t, (0, 0), rfl, .inl (Nat.le_refl _), ?_, fun i v hi => ?_⟩
  · simp only [List.length_append, List.length_map, Array.size_append, hZ]; omega
  · rw [List.getElem?_append] at hi
    show ∃ x, (D ++ C ++ Z)[0 + i]? = some x ∧ _
    rw [Nat.zero_add, Array.append_assoc]
    split at hi
    · next hlt =>
      obtain ⟨x, g1, g2⟩ := hold i v hi
      exact ⟨x, by rw [Array.getElem?_append, if_pos (by omega)]; exact g1, g2⟩
    · next hge =>
      rw [List.getElem?_map] at hi
      cases hv : vs[i - old.length]? with
      | none => rw [hv] at hi; cases hi
      | some u =>
        rw [hv] at hi; cases hi
        obtain ⟨y, g1, g2⟩ := concL_get hC _ _ hv
        have hlt := (List.getElem?_eq_some_iff.1 hv).1
        refine ⟨y, ?_, g2⟩
        rw [Array.getElem?_append, if_neg (by omega), Array.getElem?_append, if_pos (by omega), ← hD]
        simpa using g1
theorem elems_all {es n : Nat} {x X : Value} {vs : List Value} (hR : Rel φ H w) (h : elemsV H es x = some (n, vs)) (hx : conc φ x = some X) (hn : vs.length = n * es) :
    ∃ C : Array Value, concL φ vs = some C.toList ∧ (Builtin.lenOf X).run P w = .ok n w ∧ ∀ m, (Builtin.firstCells es n X).run P { w with drawn := m } = .ok C { w with drawn := m } := by
  obtain ⟨C, h1, h2, h3⟩ := elemsV_ok (P := P) hR h hx hn
  refine ⟨C, h3, h1, fun m => ?_⟩
  obtain ⟨C', g1, g2, g3⟩ := elemsV_ok (P := P) (hR.heap (w' := { w with drawn := m }) rfl) h hx hn
  rw [h3] at g3
  have : C = C' := Array.toList_inj.1 (Option.some.inj g3)
  rw [this]; exact g2
theorem pushW_drawn (w : World) (o : Obj) (n : Nat) : (pushW w o n).tape = w.tape := rfl
theorem open_obj {id l es : Nat} {B : Blk} (hR : Rel φ H w) (h : openOf H id = some (l, es)) (hB : φ.at_ id = some B) : ∀ cs el fr, w.heap[B.blk]? = some (.cells cs el fr) → B.base + l + B.exc * es ≤ cs.size := by
  intro cs el fr hc
  unfold openOf at h
  split at h
  · next l' es' mate hg =>
    cases h
    obtain ⟨c, hc', ho⟩ := hR.objs id _ B hg hB
    obtain ⟨cs', el', fr', rfl, hf, hsz, hv⟩ := ho
    rw [hc] at hc'; cases hc'
    simpa using hsz
  · cases h
theorem appendV_ok {ts : Array TypeId} {ty : TypeId} {s x v S X : Value} {H' : Heap} (hR : Rel φ H w) (h : appendV P H ts.toList s x = some (v, H')) (hs : conc φ s = some S) (hx : conc φ x = some X) :
    Does P φ H w (Builtin.append_ ts ty #[S, X]) v H' := by
  unfold appendV at h
  split at h
  · next t0 t1 tl hts =>
    have h0 : ts[0]? = some t0 := by rw [← Array.getElem?_toList, hts]; rfl
    have h1 : ts[1]? = some t1 := by rw [← Array.getElem?_toList, hts]; rfl
    split at h
    · next e d1 hu hd =>
      split at h
      · cases h
      · next hni =>
        have hni : notInt d1 = true := by simpa using hni
        split at h
        · cases h
        · next i hi =>
          split at h
          · cases h
          · next z hz =>
            split at h
            · cases h
            · next hc =>
              have hc : i.size ≠ 0 ∧ z.cells.size = i.size ∧ i.bytes ≠ 0 := by omega
              obtain ⟨hes, hzs, hby⟩ := hc
              split at h
              · cases h
              · next n vs hel =>
                split at h
                · cases h
                · next hv =>
                  have hv : vs.length = n * i.size ∧ vs.all oneCell = true := by
                    refine ⟨Classical.byContradiction fun h => hv (.inl h), Classical.byContradiction fun h => hv (.inr h)⟩
                  obtain ⟨hvl, hone⟩ := hv
                  obtain ⟨C, hC, hlen, hfc⟩ := elems_all (P := P) hR hel hx hvl
                  have hCl := concL_len hC
                  simp only [Array.length_toList] at hCl
                  have hfc0 : (Builtin.firstCells i.size n X).run P w = .ok C w := hfc w.drawn
                  split at h
                  · next len cap =>
                    split at h
                    · next h00 =>
                      obtain ⟨rfl, rfl⟩ := h00
                      simp [conc] at hs; subst hs
                      split at h
                      · next hn0 =>
                        cases h; subst hn0
                        refine ⟨_, w, φ, append_in h0 h1 hu hd hni hi hlen (by omega) hfc0, rfl, hR, Step.refl _ _ _⟩
                      · next hn0 =>
                        split at h
                        · next hroom =>
                          cases hA : H.add (.cells (vs.map some) (some i.size) none) with
                          | none => rw [hA] at h; cases h
                          | some H1 =>
                            rw [hA] at h; cases h
                            obtain ⟨nc, m, hnc, hrun⟩ := append_grow (ty := ty) (base := none) (len := 0) (cap := 0) (D := #[]) h0 h1 hu hd hni hi hz hby hlen (by omega) (by simpa using hroom) hfc (fun m => rfl)
                            have hob := grown_obj (φ := φ) (old := []) (vs := vs) (D := #[]) (C := C) (Z := Builtin.zeroCells z.cells (nc - (0 + n))) (es := i.size) (e := nc - (0 + n)) (B := w.heap.size) (t := e) rfl (by simp) hC (by rw [zeroCells_size, hzs])
                            obtain ⟨φ', g1, g2, g3⟩ := new_block (n := m) hR hA hob
                            refine ⟨_, _, φ', hrun, ?_, g2, g3⟩
                            have := conc_slice_mk (φ := φ') (a := ⟨H.next, 0, none⟩) (A := ⟨w.heap.size, 0, none⟩) (n := n) (c := BIG + n) g1 (by unfold concA; simp [g1])
                            rw [this, if_neg (by omega)]
                            congr 2 <;> simp <;> omega
                        · cases h
                    · cases h
                  · next a len cap =>
                    obtain ⟨B, A, hB, hA, rfl⟩ := conc_slice hs
                    have store_case : ∀ (K : Nat) (H1 : Heap), a.spot = none → H.store a.block (a.off + len * i.size) vs = some H1 → len + n ≤ K → conc φ (.slice (some a) (len + n) cap) = some (.slice (some A) (len + n) K) →
                        Does P φ H w (Builtin.append_ ts ty #[.slice (some A) len K, X]) (.slice (some a) (len + n) cap) H1 := by
                      intro K H1 hsp hst hle hcv
                      obtain ⟨B', hB', rfl⟩ := concA_none hsp hA
                      rw [hB] at hB'; cases hB'
                      obtain ⟨cs, el, fr, g1, g2, g3, g4, g5⟩ := hR.store hst hB hC
                      refine ⟨_, _, φ, ?_, hcv, g4, g5⟩
                      rw [append_in h0 h1 hu hd hni hi hlen hle hfc0]
                      simp only []
                      rw [add_off]
                      have := storeCells_run (P := P) (o := B.base + a.off + len * i.size) C.toList 0 w cs el fr g1 g2 (all_one hone hC) (by simp only [Array.length_toList] at *; omega)
                      rw [bind_ok this, run_pure]
                      rw [show B.base + a.off + len * i.size + 0 = B.base + (a.off + len * i.size) by omega]
                    split at h
                    · next hcl =>
                      rw [if_pos hcl]
                      split at h
                      · next hsp =>
                        split at h
                        · next hle =>
                          cases hst : H.store a.block (a.off + len * i.size) vs with
                          | none => rw [hst] at h; cases h
                          | some H1 =>
                            rw [hst] at h; cases h
                            exact store_case cap H' hsp hst hle (by rw [conc_slice_mk hB hA, if_pos hcl])
                        · next hgt =>
                          split at h
                          · next hroom =>
                            split at h
                            · next old hpk =>
                              cases hAd : H.add (.cells (old ++ vs.map some) (some i.size) none) with
                              | none => rw [hAd] at h; cases h
                              | some H1 =>
                                rw [hAd] at h; cases h
                                obtain ⟨B', hB', rfl⟩ := concA_none hsp hA
                                rw [hB] at hB'; cases hB'
                                obtain ⟨cs, el, fr, k1, k2, k3, k4⟩ := peek_ok hR hpk hB
                                have hD : ∀ m, (Builtin.firstCells i.size len (.slice (some ⟨B.blk, B.base + a.off, none⟩) len cap)).run P { w with drawn := m } = .ok (cs.extract (B.base + a.off) (B.base + a.off + len * i.size)) { w with drawn := m } := fun m => loadCells_run k1 k2
                                obtain ⟨nc, m, hnc, hrun⟩ := append_grow (ty := ty) (base := some ⟨B.blk, B.base + a.off, none⟩) h0 h1 hu hd hni hi hz hby hlen hgt hroom hfc hD
                                have hob := grown_obj (φ := φ) (old := old) (vs := vs) (D := cs.extract (B.base + a.off) (B.base + a.off + len * i.size)) (C := C) (Z := Builtin.zeroCells z.cells (nc - (len + n))) (es := i.size) (e := nc - (len + n)) (B := w.heap.size) (t := e)
                                  (by rw [k3]; simp; omega) (fun j v hj => by
                                    obtain ⟨y, q1, q2⟩ := k4 j v hj
                                    have hjl := (List.getElem?_eq_some_iff.1 hj).1
                                    exact ⟨y, by rw [Array.getElem?_extract, if_pos (by omega)]; exact q1, q2⟩) hC (by rw [zeroCells_size, hzs])
                                obtain ⟨φ', g1, g2, g3⟩ := new_block (n := m) hR hAd hob
                                refine ⟨_, _, φ', hrun, ?_, g2, g3⟩
                                have := conc_slice_mk (φ := φ') (a := ⟨H.next, 0, none⟩) (A := ⟨w.heap.size, 0, none⟩) (n := len + n) (c := BIG + (len + n)) g1 (by unfold concA; simp [g1])
                                rw [this, if_neg (by omega)]
                                congr 2; simp; omega
                            · cases h
                          · cases h
                      · cases h
                    · next hcl =>
                      rw [if_neg hcl]
                      split at h
                      · next hsp =>
                        split at h
                        · next hle =>
                          cases hst : H.store a.block (a.off + len * i.size) vs with
                          | none => rw [hst] at h; cases h
                          | some H1 =>
                            rw [hst] at h; cases h
                            exact store_case (cap - BIG + B.exc) H' hsp hst (by omega) (by rw [conc_slice_mk hB hA, if_neg hcl])
                        · next hgt =>
                          split at h
                          · next hroom =>
                            split at h
                            · next l es hop =>
                              split at h
                              · next hcond =>
                                obtain ⟨rfl, hkl, hlk⟩ := hcond
                                cases hext : H.extend a.block a.off (len * i.size) i.size vs with
                                | none => rw [hext] at h; cases h
                                | some H1 =>
                                  rw [hext] at h; cases h
                                  obtain ⟨B', hB', rfl⟩ := concA_none hsp hA
                                  rw [hB] at hB'; cases hB'
                                  have hob := open_obj hR hop hB
                                  by_cases hin : len + n ≤ cap - BIG + B.exc
                                  · obtain ⟨ex, hex⟩ : ∃ ex, len + n + ex = cap - BIG + B.exc := ⟨cap - BIG + B.exc - (len + n), by omega⟩
                                    have hmul : (len + n) * i.size + ex * i.size = (cap - BIG) * i.size + B.exc * i.size := by rw [← Nat.add_mul, ← Nat.add_mul, hex]
                                    have hmul2 : (len + n) * i.size = len * i.size + n * i.size := Nat.add_mul _ _ _
                                    obtain ⟨cs, el, fr, φ', k1, k2, k3, k4, k5, k6⟩ := hR.extend_in (e := ex) hext hB hC (fun cs el fr hc => by
                                      have := hob cs el fr hc
                                      simp only [Array.length_toList]; omega)
                                    refine ⟨.slice (some ⟨B.blk, B.base + a.off, none⟩) (len + n) (cap - BIG + B.exc), _, φ', ?_, ?_, k5, k6⟩
                                    · rw [append_in h0 h1 hu hd hni hi hlen hin hfc0]
                                      simp only []
                                      rw [add_off]
                                      have := storeCells_run (P := P) (o := B.base + a.off + len * i.size) C.toList 0 w cs el fr k1 k2 (all_one hone hC) (by omega)
                                      rw [bind_ok this, run_pure]; rfl
                                    · have := conc_slice_mk (φ := φ') (a := ⟨H.next, 0, none⟩) (A := ⟨B.blk, B.base + a.off, none⟩) (n := len + n) (c := BIG + (len + n)) k4 (by unfold concA; simp [k4])
                                      rw [this, if_neg (by omega)]
                                      have e1 : BIG + (len + n) - BIG + ex = cap - BIG + B.exc := by omega
                                      show some (Value.slice _ _ (BIG + (len + n) - BIG + ex)) = _
                                      rw [e1]
                                  · obtain ⟨l', opn, mate, hg, hk', _, _⟩ := extend_get hext
                                    obtain ⟨c0, hc0, ho0⟩ := hR.objs _ _ B hg hB
                                    obtain ⟨cs, el, fr, rfl, hf0, hsz0, hv0⟩ := size_of_objIs ho0
                                    have hD : ∀ m, (Builtin.firstCells i.size len (.slice (some ⟨B.blk, B.base + a.off, none⟩) len (cap - BIG + B.exc))).run P { w with drawn := m } = .ok (cs.extract (B.base + a.off) (B.base + a.off + len * i.size)) { w with drawn := m } := fun m => loadCells_run hc0 (by omega)
                                    obtain ⟨nc, m, hnc, hrun⟩ := append_grow (ty := ty) (base := some ⟨B.blk, B.base + a.off, none⟩) h0 h1 hu hd hni hi hz hby hlen hin hroom hfc hD
                                    have hDs : (cs.extract (B.base + a.off) (B.base + a.off + len * i.size)).size = len * i.size := by simp; omega
                                    obtain ⟨φ', g1, g2, g3⟩ := hR.extend_new (e := nc - (len + n)) (m := m) (el := e) (cs := cs.extract (B.base + a.off) (B.base + a.off + len * i.size) ++ C ++ Builtin.zeroCells z.cells (nc - (len + n))) hext hB hC
                                      (fun ds dl fr' hds j hj => by
                                        rw [hc0] at hds; cases hds
                                        rw [Array.append_assoc, Array.getElem?_append, if_pos (by omega), Array.getElem?_extract, if_pos (by omega)])
                                      (fun j hj => by
                                        simp only [Array.length_toList] at hj
                                        rw [Array.append_assoc, Array.getElem?_append, if_neg (by omega), hDs, Array.getElem?_append, if_pos (by omega), Array.getElem?_toList]
                                        congr 1; omega)
                                      (by simp only [Array.size_append, hDs, zeroCells_size, hzs, Array.length_toList]; omega)
                                    refine ⟨_, _, φ', hrun, ?_, g2, g3⟩
                                    have := conc_slice_mk (φ := φ') (a := ⟨H.next, 0, none⟩) (A := ⟨w.heap.size, 0, none⟩) (n := len + n) (c := BIG + (len + n)) g1 (by unfold concA; simp [g1])
                                    rw [this, if_neg (by omega)]
                                    congr 2; simp; omega
                              · cases h
                            · cases h
                          · cases h
                      · cases h
                  · cases h
    · cases h
  · cases h
end
end Ev
end Go.Proofs.YtepdkcikkemieaaGreat
