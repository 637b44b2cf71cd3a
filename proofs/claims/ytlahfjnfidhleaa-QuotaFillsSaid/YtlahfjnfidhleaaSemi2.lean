/- A region that draws its order and makes TWO blocks. -/
import Derived.Test.YtlahfjnfidhleaaSemi
namespace Go.Proofs.Ytlahfjnfidhleaa
open Go.RowKit
set_option linter.unusedVariables false
set_option linter.unusedSimpArgs false

theorem split_at {α : Type} (l : List α) (b : Nat) (x : α) (h : l[b]? = some x) : ∃ p q, l = p ++ x :: q ∧ p.length = b := by
  obtain ⟨hb, rfl⟩ := List.getElem?_eq_some_iff.1 h
  refine ⟨l.take b, l.drop (b + 1), ?_, by simp; omega⟩
  rw [← List.drop_eq_getElem_cons hb, List.take_append_drop]
theorem split_two {α : Type} (E : Array α) (b c : Nat) (x y : α) (hb : E[b]? = some x) (hc : E[c]? = some y) (h : b < c) : ∃ e0 e1 e2 : Array α, E = e0 ++ #[x] ++ e1 ++ #[y] ++ e2 ∧ b = e0.size ∧ c = e0.size + 1 + e1.size := by
  obtain ⟨p, q, h1, h2⟩ := split_at E.toList b x (by simpa using hb)
  have h3 : q[c - b - 1]? = some y := by
    have : E.toList[c]? = some y := by simpa using hc
    rw [h1, List.getElem?_append_right (by omega), h2, show c - b = (c - b - 1) + 1 by omega, List.getElem?_cons_succ] at this
    exact this
  obtain ⟨p', q', h4, h5⟩ := split_at q _ y h3
  refine ⟨p.toArray, p'.toArray, q'.toArray, ?_, by simpa using h2.symm, by simp; omega⟩
  apply Array.toList_inj.1
  rw [h1, h4]
  simp

structure St2 (obj : Nat → Obj) where
  E : Array Obj
  B : Nat → Nat
  F : Nat → Nat → Prop
  ok : ∀ k p, F k p → E[p]? = some (obj k)
def updB (B : Nat → Nat) (i b : Nat) : Nat → Nat := fun j => if j = i then b else B j
def S2 (obj : Nat → Obj) (i : Nat) (s s' : St2 obj) : Prop :=
  ∃ b, s'.E[b]? = some (obj i) ∧ s'.B = updB s.B i b ∧ (∀ k p, s.F k p → s'.E[p]? = some (obj k) ∧ p ≠ b) ∧ s'.F = fun k p => s.F k p ∨ (k = i ∧ p = b)
theorem s2_ne (obj : Nat → Obj) (i : Nat) (s : St2 obj) (x : Array Obj) : ∃ s' : St2 obj, S2 obj i s s' ∧ s'.E = s.E ++ x ++ #[obj i] ∧ s'.B i = (s.E ++ x).size := by
  have key : ∀ k p, s.F k p → (s.E ++ x ++ #[obj i])[p]? = some (obj k) ∧ p ≠ (s.E ++ x).size := fun k p h => by
    have h1 := s.ok k p h
    have h2 := (Array.getElem?_eq_some_iff.1 h1).1
    refine ⟨?_, by rw [Array.size_append]; omega⟩
    rw [Array.getElem?_append, if_pos (by rw [Array.size_append]; omega), Array.getElem?_append, if_pos h2, h1]
  refine ⟨⟨s.E ++ x ++ #[obj i], updB s.B i (s.E ++ x).size, fun k p => s.F k p ∨ (k = i ∧ p = (s.E ++ x).size), fun k p h => ?_⟩, ⟨_, ?_, rfl, key, rfl⟩, rfl, by simp [updB]⟩
  · rcases h with h | ⟨rfl, rfl⟩
    · exact (key k p h).1
    · simp
  · simp
theorem s2_comm (obj : Nat → Obj) (i j : Nat) (s s1 s2 : St2 obj) (hij : i ≠ j) (h1 : S2 obj j s s1) (h2 : S2 obj i s1 s2) : ∃ s1', S2 obj i s s1' ∧ S2 obj j s1' s2 ∧ s1.B j = s2.B j ∧ s1'.B i = s2.B i := by
  obtain ⟨bj, a1, a2, a3, a4⟩ := h1
  obtain ⟨bi, c1, c2, c3, c4⟩ := h2
  have fj : s1.F j bj := by rw [a4]; exact .inr ⟨rfl, rfl⟩
  have fs : ∀ k p, s.F k p → s1.F k p := fun k p h => by rw [a4]; exact .inl h
  refine ⟨⟨s2.E, updB s.B i bi, fun k p => s.F k p ∨ (k = i ∧ p = bi), fun k p h => ?_⟩, ⟨bi, c1, rfl, fun k p h => c3 k p (fs k p h), rfl⟩, ⟨bj, (c3 j bj fj).1, ?_, fun k p h => ?_, ?_⟩, ?_, ?_⟩
  · rcases h with h | ⟨rfl, rfl⟩
    · exact (c3 k p (fs k p h)).1
    · exact c1
  · show s2.B = updB (updB s.B i bi) j bj
    rw [c2, a2]; funext x; simp only [updB]; split <;> split <;> simp_all
  · rcases h with h | ⟨rfl, rfl⟩
    · exact ⟨(c3 k p (fs k p h)).1, (a3 k p h).2⟩
    · exact ⟨c1, fun e => (c3 j bj fj).2 e.symm⟩
  · show s2.F = fun k p => (s.F k p ∨ (k = i ∧ p = bi)) ∨ (k = j ∧ p = bj)
    rw [c4, a4]; funext k p; apply propext; constructor
    · rintro ((h | h) | h)
      · exact .inl (.inl h)
      · exact .inr h
      · exact .inl (.inr h)
    · rintro ((h | h) | h)
      · exact .inl (.inl h)
      · exact .inr h
      · exact .inl (.inr h)
  · rw [c2, a2]; simp [updB, Ne.symm hij]
  · show updB s.B i bi i = s2.B i
    rw [c2]; simp [updB]

/-- **A region that draws its order: the operations qs read (or call what only makes memory), numbers i0 and i1 make a block each, ts are forced.** -/
theorem wp_region_new2 {P : Program} {id : Nat} {Q : Exit → Act → World → Prop} {a : Act} {w : World} {L : List (Array Obj)} {k : Nat} {l : List Oper} (qs : List Nat) (i0 d0 i1 d1 : Nat) (ts : List Nat) (bq bt : List Bool) (G0 G1 : Nat → Value) (obj0 obj1 : Obj) (hsel' : pickl l qs = sel bq l ∧ pickl l ts = sel bt l)
    (hm : P.follows .mixedOrders = true) (hB : regB l qs [i0, i1] ts a.tmps.size = true) (hQ : ∀ c a d v w, Q (.panic c) (a.put d v) w → Q (.panic c) a w) (h01 : i0 ≠ i1)
    (ho0 : ∃ op ty pos after, l[i0]? = some ⟨some d0, op, ty, pos, after, none⟩) (ho1 : ∃ op ty pos after, l[i1]? = some ⟨some d1, op, ty, pos, after, none⟩)
    (h : ∃ aE : Act, (∀ E : Array Obj, wpQuiet P l.toArray (fun w' => ∃ m : Ext, w' = wd w (m.e :: E :: L) m.n) (fun a' => a' = aE) (sel bq l) a) ∧
      (∀ o, l[i0]? = some o → ∀ w' : World, (execOp aE.eval o).run P w' = .ok (.value (G0 w'.heap.size)) (w'.alloc obj0)) ∧
      (∀ o, l[i1]? = some o → ∀ v, ∀ w' : World, (execOp (aE.put (some d0) v).eval o).run P w' = .ok (.value (G1 w'.heap.size)) (w'.alloc obj1)) ∧
      (∀ (e0 e1 : Array Obj) (m : Ext), wpList P l.toArray Q (sel bt l) ((aE.put (some d0) (G0 (sz w.heap.size (e0.size :: shape L)))).put (some d1) (G1 (sz w.heap.size (e1.size :: 1 :: e0.size :: shape L)))) (wd w (m.e :: #[obj1] :: e1 :: #[obj0] :: e0 :: L) m.n)) ∧
      (∀ (e0 e1 : Array Obj) (m : Ext), wpList P l.toArray Q (sel bt l) ((aE.put (some d0) (G0 (sz w.heap.size (e1.size :: 1 :: e0.size :: shape L)))).put (some d1) (G1 (sz w.heap.size (e0.size :: shape L)))) (wd w (m.e :: #[obj0] :: e1 :: #[obj1] :: e0 :: L) m.n))) :
    (Code.region id l.toArray true).wp P Q a (wd w L k) := by
  rw [← hsel'.1, ← hsel'.2] at h
  obtain ⟨aE, h1, hr0, hr1, hA, hB'⟩ := h
  simp only [regB, Bool.and_eq_true, decide_eq_true_eq] at hB
  obtain ⟨⟨⟨⟨⟨hsel, hord⟩, hdst⟩, hlen⟩, hne⟩, hlt⟩ := hB
  obtain ⟨op0, ty0, pos0, after0, ho0⟩ := ho0
  obtain ⟨op1, ty1, pos1, after1, ho1⟩ := ho1
  let obj : Nat → Obj := fun i => if i = i0 then obj0 else obj1
  have ob0 : obj i0 = obj0 := by simp [obj]
  have ob1 : obj i1 = obj1 := by simp [obj, Ne.symm h01]
  let G : Nat → Nat → Value := fun i => if i = i0 then G0 else G1
  have g0 : G i0 = G0 := by simp [G]
  have g1 : G i1 = G1 := by simp [G, Ne.symm h01]
  refine wp_region_any hm ?_
  have H := M_all (P := P) (md := .any) (ops := l.toArray) (σ := St2 obj) (Cl := fun s w' => ∃ m : Ext, w' = wd w (m.e :: s.E :: L) m.n) (vs := slotOf l.toArray aE) (isN := fun i => [i0, i1].contains i) (isL := fun i => ts.contains i)
    (S' := S2 obj) (g := fun i s => G i (sz w.heap.size (shape L) + s.B i)) (Q' := Q) (f := ts.length) (E := seqT .any l.toArray ts)
    (T := fun s a' => ∀ m : Ext, wpList P l.toArray Q (pickl l ts) a' (wd w (m.e :: s.E :: L) m.n))
    hsel (fun i s _ => by obtain ⟨s', h, _⟩ := s2_ne obj i s #[]; exact ⟨s', h⟩)
    (fun i j s s1 s2 _ _ hij hj hi => by
      obtain ⟨s1', c1, c2, c3, c4⟩ := s2_comm obj i j s s1 s2 hij hj hi
      exact ⟨s1', c1, c2, by rw [c3], by rw [c4]⟩) (fun s => ⟨_, ⟨#[], 0⟩, rfl⟩) hQ
    (fun listed s a' w' hE hw' hT => by obtain ⟨m, rfl⟩ := hw'; exact wpAny_of_seqT ts listed a' _ hE (hT m)) [i0, i1] (fun i hi => by simpa using hi)
    qs _ ⟨#[], fun _ => 0, fun _ _ => False, fun _ _ h => h.elim⟩ a (fun i hi => by simpa using List.all_eq_true.1 hne i hi) (shut0 l) hord
    (ord_of_quiet ⟨#[], fun _ => 0, fun _ _ => False, fun _ _ h => h.elim⟩ (by
      have run : ∀ (i : Nat) (a' : Act) (o : Oper) (s : St2 obj) (w' : World), (∃ m : Ext, w' = wd w (m.e :: s.E :: L) m.n) → (∀ w', (execOp a'.eval o).run P w' = .ok (.value (G i w'.heap.size)) (w'.alloc (obj i))) →
          ∃ (s' : St2 obj) (w'' : World), S2 obj i s s' ∧ (execOp a'.eval o).run P w' = .ok (.value (G i (sz w.heap.size (shape L) + s'.B i))) w'' ∧ ∃ m : Ext, w'' = wd w (m.e :: s'.E :: L) m.n := fun i a' o s w' hw' hrun => by
        obtain ⟨m, rfl⟩ := hw'
        obtain ⟨s', c1, c2, c3⟩ := s2_ne obj i s m.e
        refine ⟨s', _, c1, ?_, ⟨⟨#[], m.n⟩, rfl⟩⟩
        have e2 : wd w (#[] :: s'.E :: L) m.n = wd w (#[obj i] :: m.e :: s.E :: L) m.n := by rw [wd_empty, c2, wd_merge, wd_merge, Array.append_assoc]
        rw [hrun, wd_alloc, wd_size, shape_cons, shape_cons]
        show _ = Result.ok _ (wd w (#[] :: s'.E :: L) m.n)
        rw [e2, c3]
        simp [sz, Nat.add_assoc]
      refine ⟨_, by simpa using ho0, ⟨by simp [Region.wanted], fun s w' hw' => run i0 aE _ s w' hw' (by rw [g0, ob0]; exact hr0 _ ho0)⟩, fun s1 hs1 => ?_⟩
      refine ⟨_, by simpa using ho1, ⟨by simp [Region.wanted], fun s w' hw' => run i1 _ _ s w' hw' (by rw [g1, ob1]; exact hr1 _ ho1 _)⟩, fun s2 hs2 m => ?_⟩
      obtain ⟨b0, x1, x2, _, x4⟩ := hs1
      obtain ⟨b1, y1, y2, y3, y4⟩ := hs2
      have f0 : s1.F i0 b0 := by rw [x4]; exact .inr ⟨rfl, rfl⟩
      obtain ⟨z1, z2⟩ := y3 i0 b0 f0
      rw [ob0] at z1
      rw [ob1] at y1
      have e0 : s1.B i0 = b0 := by rw [x2]; simp [updB]
      have e1 : s2.B i1 = b1 := by rw [y2]; simp [updB]
      show wpList P l.toArray Q (pickl l ts) ((aE.put (some d0) (G i0 (sz w.heap.size (shape L) + s1.B i0))).put (some d1) (G i1 (sz w.heap.size (shape L) + s2.B i1))) (wd w (m.e :: s2.E :: L) m.n)
      rw [e0, e1, g0, g1]
      rcases Nat.lt_or_gt_of_ne z2 with hlt | hlt
      · obtain ⟨c0, c1, c2, rE, r0, r1⟩ := split_two s2.E b0 b1 _ _ z1 y1 hlt
        have := hA c0 c1 ⟨c2 ++ m.e, m.n⟩
        have ew : wd w ((c2 ++ m.e) :: #[obj1] :: c1 :: #[obj0] :: c0 :: L) m.n = wd w (m.e :: s2.E :: L) m.n := by
          rw [rE, wd_merge, wd_merge, wd_merge, wd_merge, wd_merge]; simp only [Array.append_assoc]
        rw [ew] at this
        rw [r0, r1]
        simpa [sz, Nat.add_assoc] using this
      · obtain ⟨c0, c1, c2, rE, r0, r1⟩ := split_two s2.E b1 b0 _ _ y1 z1 hlt
        have := hB' c0 c1 ⟨c2 ++ m.e, m.n⟩
        have ew : wd w ((c2 ++ m.e) :: #[obj0] :: c1 :: #[obj1] :: c0 :: L) m.n = wd w (m.e :: s2.E :: L) m.n := by
          rw [rE, wd_merge, wd_merge, wd_merge, wd_merge, wd_merge]; simp only [Array.append_assoc]
        rw [ew] at this
        rw [r0, r1]
        simpa [sz, Nat.add_assoc] using this) _ _ _ (pick_map l qs hlt) hdst (fun s => h1 s.E))
  have := wpAny_of_M _ _ _ _ (wd w L (k + 1)) ⟨⟨#[], k + 1⟩, by rw [wd_empty, wd_empty]⟩ H
  rw [show qs.length + ([i0, i1].length + ts.length) = l.toArray.size by simpa using hlen] at this
  exact this
end Go.Proofs.Ytlahfjnfidhleaa
