/- Appends to a row that lies beneath some pieces. -/
import Derived.Test.YtlanghikmccmbaaMC
import Derived.Test.YtlanghikmccmbaaME
import Derived.Test.YtlanghikmccmbaaMA
namespace Go.Proofs.Ytlanghikmccmbaa
open Go.RowKit
set_option linter.unusedVariables false
set_option linter.unusedSimpArgs false

/-- The piece m with the pieces D (newest first) behind it. -/
def mall (m : Array Obj) : List (Array Obj) → Array Obj
  | [] => m
  | d :: D => mall m D ++ d
theorem hp_mall (h m : Array Obj) (L : List (Array Obj)) : ∀ D, hp h (D ++ m :: L) = hp h (mall m D :: L)
  | [] => rfl
  | d :: D => by
    show hp h (D ++ m :: L) ++ d = hp h L ++ (mall m D ++ d)
    rw [hp_mall h m L D]
    exact Array.append_assoc ..
theorem wd_mall (w : World) (m : Array Obj) (L : List (Array Obj)) (n : Nat) (D : List (Array Obj)) : wd w (D ++ m :: L) n = wd w (mall m D :: L) n := world_ext (hp_mall _ _ _ _) rfl rfl rfl rfl
theorem sz_mall (B : Nat) (m : Array Obj) (L : List (Array Obj)) : ∀ D, sz B (shape (D ++ m :: L)) = sz B (shape (mall m D :: L))
  | [] => rfl
  | d :: D => by
    show sz B (shape (D ++ m :: L)) + d.size = sz B (shape L) + (mall m D ++ d).size
    rw [sz_mall B m L D, Array.size_append]
    show sz B (shape L) + (mall m D).size + d.size = _
    omega
theorem rowIn_mall {B : Nat} {S : List Nat} {m : Array Obj} {E : TypeId} {size : Nat} {v : Value} {n : Nat} {xs : List Value} (h : rowIn B S m E size v n xs) : ∀ D, rowIn B S (mall m D) E size v n xs
  | [] => h
  | d :: D => rowIn_more (rowIn_mall h D) d
theorem wd_mall1 (w : World) (c m : Array Obj) (L : List (Array Obj)) (n : Nat) (D : List (Array Obj)) : wd w (c :: (D ++ m :: L)) n = wd w (c :: mall m D :: L) n := by
  have h := hp_mall w.heap m L D
  exact world_ext (by show hp w.heap (D ++ m :: L) ++ c = hp w.heap (mall m D :: L) ++ c; rw [h]) rfl rfl rfl rfl
/-- 'append(s, x)', x one element, its row beneath the pieces D. -/
theorem wp_append_rowD (D : List (Array Obj)) {P : Program} {ops : Array Oper} {rest : List Oper} {o : Oper} {a : Act} {Q : Exit → Act → World → Prop} (hgd : o.guard = none) (s x : Operand) (t : TypeId)
    (ho : o.op = .call { callee := .builtin .append, args := #[s, x], argTypes := #[t, t] })
    (e : TypeId) (i : TypeInfo) (z : Value) (size bytes : Nat) (ht : P.underlying t = some (.slice e)) (hi : P.info? e = some i) (hz : i.zero = some z)
    (hsize : i.size = size) (hby : i.bytes = bytes) (hzs : z.cells.size = size) (hsz : 0 < size)
    {w : World} {L : List (Array Obj)} {n : Nat} {m : Array Obj} (v : Value) (k : Nat) (xs : List Value) (hs : a.eval s = v) (hrow : rowIn w.heap.size (shape L) m e size v k xs)
    (C : Array Value) (t' : TypeId) (q c : Nat) (hx : a.eval x = .slice (some ⟨sz w.heap.size (shape (D ++ m :: L)), 0, none⟩) q c) (hl : C.size = q * size) (h1 : ∀ u ∈ C.toList, u.oneCell' = true)
    (h63 : k + q ≤ maxLen) (hbytes : (k + q) * bytes ≤ 140737488355328)
    (h : ∀ (v' : Value) (m' : Ext), rowIn w.heap.size (shape L) m'.e e size v' (k + q) (xs ++ C.toList) → wpList P ops Q rest (a.put o.dst v') (wd w (m'.e :: L) m'.n)) :
    wpList P ops Q (o :: rest) a (wd w (#[.cells C t'] :: (D ++ m :: L)) n) := by
  rw [wd_mall1]
  exact wp_append_row hgd s x t ho e i z size bytes ht hi hz hsize hby hzs hsz v k xs hs (rowIn_mall hrow D) C t' q c (by rw [hx, sz_mall]; rfl) hl h1 h63 hbytes h
/-- 'append(v, u...)', bytes made just now, pieces D between. -/
theorem at_appendD (D : List (Array Obj)) {ops : Array Oper} {rest : List Oper} {o : Oper} {a : Act} {Q : Exit → Act → World → Prop} {w : World} {L : List (Array Obj)} {n : Nat} {m m1 : Array Obj} {v u : Value} {l l2 : List UInt8}
    (hgd : o.guard = none) (s x : Operand) (ho : o.op = .call { callee := .builtin .append, args := #[s, x], argTypes := #[48, 48] })
    (hs : a.eval s = v) (hrow : BRow w L m v l) (hx : a.eval x = u) (hsrc : BRow w (D ++ m :: L) m1 u l2) (hlen : l.length + l2.length ≤ 1099511627776)
    (h : ∀ (v' : Value) (m' : Ext), BRow w L m'.e v' (l ++ l2) → wpList Try.prog ops Q rest (a.put o.dst v') (wd w (m'.e :: L) m'.n)) :
    wpList Try.prog ops Q (o :: rest) a (wd w (m1 :: (D ++ m :: L)) n) := by
  rw [wd_mall1]
  exact at_append hgd s x ho hs (rowIn_mall hrow D) hx (rowIn_sz (sz_mall _ _ _ _) hsrc) hlen h
end Go.Proofs.Ytlanghikmccmbaa
/- batch: Get. -/
namespace Go.Proofs.Ytlanghikmccmbaa
open Go.ChangeShapes Go.WideShapes Go.ChangeAt Go.RowKit
set_option linter.unusedVariables false
set_option linter.unusedSimpArgs false

/-- A batch and an error, handed back. -/
structure BatRet (w w' : World) (x : Ending) (g : Bat × Int) : Prop where
  out : ∃ a cap, x = .returned (.tuple #[.agg #[.int .i64 g.1.base, .int .i64 g.1.count, .int .i64 g.1.producer, .int .i64 g.1.epoch, .int .i64 g.1.seq, .slice a g.1.recs.length cap], .int .i64 g.2]) ∧ RecsAt w' a g.1.recs ∧ More w w' ∧ From w.heap.size a g.1.recs
theorem batret_no {w : World} {L : List (Array Obj)} {n : Nat} {x : Ending} {l : List UInt8} (h : ∀ b, batPut b ≠ (l, 0)) (hx : x = .returned (.tuple #[.agg #[.int .i64 0, .int .i64 0, .int .i64 0, .int .i64 0, .int .i64 0, .slice none 0 0], .int .i64 4])) : BatRet w (wd w L n) x (batGet l) := by
  rw [batGet_no h, hx]
  exact ⟨none, 0, rfl, RowAt.nil _, more_wd _ _ _, From.nil _ _⟩
/-- An own reader's block. -/
abbrev rbk (v : Value) (e : Int) : Array Obj := #[.cells #[v, .int .i64 e] 123]
/-- An own reader upon its bytes' piece, with none to three pieces above. -/
structure OwnRd (w : World) (c : Array Obj) (L : List (Array Obj)) (p : Nat) (v0 : Value) (l : List UInt8) : Prop where
  r0 : ∀ n v e, Rdr (wd w (rbk v e :: c :: L) n) p v e
  r1 : ∀ x n v e, Rdr (wd w (x :: rbk v e :: c :: L) n) p v e
  r2 : ∀ x y n v e, Rdr (wd w (x :: y :: rbk v e :: c :: L) n) p v e
  r3 : ∀ x y z n v e, Rdr (wd w (x :: y :: z :: rbk v e :: c :: L) n) p v e
  r4 : ∀ x y z t n v e, Rdr (wd w (x :: y :: z :: t :: rbk v e :: c :: L) n) p v e
  b0 : ∀ n v e v' l', (∀ W0, RB W0 v0 l → RB W0 v' l') → RB (wd w (rbk v e :: c :: L) n) v' l'
  b1 : ∀ x n v e v' l', (∀ W0, RB W0 v0 l → RB W0 v' l') → RB (wd w (x :: rbk v e :: c :: L) n) v' l'
  b2 : ∀ x y n v e v' l', (∀ W0, RB W0 v0 l → RB W0 v' l') → RB (wd w (x :: y :: rbk v e :: c :: L) n) v' l'
  b3 : ∀ x y z n v e v' l', (∀ W0, RB W0 v0 l → RB W0 v' l') → RB (wd w (x :: y :: z :: rbk v e :: c :: L) n) v' l'
  b4 : ∀ x y z t n v e v' l', (∀ W0, RB W0 v0 l → RB W0 v' l') → RB (wd w (x :: y :: z :: t :: rbk v e :: c :: L) n) v' l'
theorem flat_snoc {α : Type} (f : α → List Value) (l : List α) (x : α) : (l ++ [x]).flatMap f = l.flatMap f ++ f x := by simp
theorem rdr_push {w : World} {d : Array Obj} {L : List (Array Obj)} {n p : Nat} {v : Value} {e : Int} (h : Rdr (wd w L n) p v e) : Rdr (wd w (d :: L) n) p v e := h.more ⟨_, _, rfl⟩
theorem rb_push {w : World} {d : Array Obj} {L : List (Array Obj)} {n : Nat} {v : Value} {l : List UInt8} (h : RB (wd w L n) v l) : RB (wd w (d :: L) n) v l := h.more ⟨_, _, rfl⟩
theorem ownRd {w : World} {c : Array Obj} {L : List (Array Obj)} {p : Nat} {v0 : Value} {l : List UInt8} (hp : p = sz w.heap.size (shape (c :: L))) (h : BRow w L c v0 l) : OwnRd w c L p v0 l := by
  subst hp
  have r : ∀ n v e, Rdr (wd w (rbk v e :: c :: L) n) (sz w.heap.size (shape (c :: L))) v e := fun n v e => Rdr.here w (c :: L) n _ rfl v e
  have b : ∀ n v e v' l', (∀ W0, RB W0 v0 l → RB W0 v' l') → RB (wd w (rbk v e :: c :: L) n) v' l' := fun n v e v' l' hk => hk _ (rb_push (RB.of_row (k := n) h l rfl))
  exact ⟨r, fun _ _ _ _ => rdr_push (r _ _ _), fun _ _ _ _ _ => rdr_push (rdr_push (r _ _ _)), fun _ _ _ _ _ _ => rdr_push (rdr_push (rdr_push (r _ _ _))), fun _ _ _ _ _ _ _ => rdr_push (rdr_push (rdr_push (rdr_push (r _ _ _)))),
    b, fun _ _ _ _ _ _ hk => rb_push (b _ _ _ _ _ hk), fun _ _ _ _ _ _ _ hk => rb_push (rb_push (b _ _ _ _ _ hk)), fun _ _ _ _ _ _ _ _ hk => rb_push (rb_push (rb_push (b _ _ _ _ _ hk))), fun _ _ _ _ _ _ _ _ _ hk => rb_push (rb_push (rb_push (rb_push (b _ _ _ _ _ hk))))⟩
theorem took_own0 {w w' : World} {L : List (Array Obj)} {n p : Nat} {v : Value} {l l' : List UInt8} {e e' : Int} (hp : p = sz w.heap.size (shape L)) (h : Took (wd w (rbk v e :: L) n) w' p v l l' e') :
    ∃ v' M, (∀ W0, RB W0 v l → RB W0 v' l') ∧ w' = wd w (Ext.e M :: rbk v' e' :: L) M.n := by
  obtain ⟨v', hk, m, rfl⟩ := h.out
  subst hp
  exact ⟨v', m, hk, by rw [rset_wd w L n _ _ _ _ _ _ _ rfl rfl, wd_plus]⟩
theorem took_own1 {w w' : World} {x : Array Obj} {L : List (Array Obj)} {n p : Nat} {v : Value} {l l' : List UInt8} {e e' : Int} (hp : p = sz w.heap.size (shape L)) (h : Took (wd w (x :: rbk v e :: L) n) w' p v l l' e') :
    ∃ v' M, (∀ W0, RB W0 v l → RB W0 v' l') ∧ w' = wd w (Ext.e M :: rbk v' e' :: L) M.n := by
  obtain ⟨v', hk, m, rfl⟩ := h.out
  subst hp
  refine ⟨v', ⟨x ++ m.e, m.n⟩, hk, ?_⟩
  rw [rset_wd_past _ _ _ _ _ _ _ _ rfl (by simp [shape, inn]), rset_wd w L n _ _ _ _ _ _ _ rfl rfl, onTop_wd, wd_plus, wd_merge]
end Go.Proofs.Ytlanghikmccmbaa
/- As XMix, but behind the LAST operation, which waits for all the others, the class is not asked. -/
namespace Go.Proofs.Ytlanghikmccmbaa
open Go.RowKit
set_option linter.unusedVariables false
set_option linter.unusedSimpArgs false

section
variable {P : Program} {ops : Array Oper} {md : Region.Mode} {σ : Type} {Cl : σ → World → Prop} {C : World → Prop} {vs : Nat → Value} {Q' : Exit → Act → World → Prop}
def wpAnyD (P : Program) (md : Region.Mode) (ops : Array Oper) (C : World → Prop) (t : Nat) (Q' : Exit → Act → World → Prop) : Nat → Array Bool → Act → World → Prop
  | 0, listed, a, w => Region.ready md ops listed = [] ∧ Q' .normal a w
  | f + 1, listed, a, w => (Region.ready md ops listed = [] → Q' .normal a w) ∧ ∀ i ∈ Region.ready md ops listed, wpOp P ops Q' i (fun a' w' => (i ≠ t → C w') ∧ wpAnyD P md ops C t Q' f (listed.setIfInBounds i true) a' w') a w
theorem wpAny_of_D {t : Nat} : ∀ (f : Nat) (listed : Array Bool) (a : Act) (w : World), wpAnyD P md ops C t Q' f listed a w → wpAny P md ops Q' f listed a w
  | 0, _, _, _, h => h
  | f + 1, _, _, _, h => ⟨h.1, fun i hi => wpOp_mono (fun a' w' h' => wpAny_of_D f _ a' w' h'.2) (h.2 i hi)⟩
theorem D_first {t i : Nat} (hit : i ≠ t) (hti : ∀ listed : Array Bool, listed.getD i true = false → t ∉ Region.ready md ops listed) {oi : Oper} (hi : ops[i]? = some oi) (hsel : ∀ (j : Nat) (o : Oper) cs b, ops[j]? = some o → o.op ≠ .select cs b) (hs : ∀ s w w', Cl s w → Cl s w' → w = w') (hC : ∀ w, C w → ∃ s, Cl s w)
    (hQ : ∀ c a d v w, Q' (.panic c) (a.put d v) w → Q' (.panic c) a w) :
    ∀ (f : Nat) (listed : Array Bool) (a : Act) (w : World), C w →
      (∀ j oj, ops[j]? = some oj → j ≠ i → listed.getD j true = false → (∀ e ∈ oj.after, Region.binds md e = true → e.on ≠ i) → oi.apart ops oj = true) →
      i ∈ Region.ready md ops listed → qop P ops Cl vs i oi a →
      wpAnyD P md ops C t Q' f (listed.setIfInBounds i true) (a.put oi.dst (vs i)) w → wpAnyD P md ops C t Q' (f + 1) listed a w := by
  intro f
  induction f with
  | zero =>
    intro listed a w hw _ hr hy H
    refine ⟨fun h => (by rw [h] at hr; cases hr), fun j hj => ?_⟩
    by_cases hji : j = i
    · subst hji; obtain ⟨s, hsw⟩ := hC w hw; exact qop_wpOp hi hsw hs hy ⟨fun _ => hw, H⟩
    · have := ready_mono hj hji
      rw [H.1] at this
      cases this
  | succ f ih =>
    intro listed a w hw hfree hr hy H
    have hun := (mem_ready.1 hr).1
    refine ⟨fun h => (by rw [h] at hr; cases hr), fun j hj => ?_⟩
    by_cases hji : j = i
    · subst hji; obtain ⟨s, hsw⟩ := hC w hw; exact qop_wpOp hi hsw hs hy ⟨fun _ => hw, H⟩
    · have h1 := H.2 j (ready_mono hj hji)
      obtain ⟨hjun, oj, hoj, hall⟩ := mem_ready.1 hj
      have hnot : ∀ e ∈ oj.after, Region.binds md e = true → e.on ≠ i := fun e he hb heq => by
        have h1 := hall e he hb
        rw [heq, getD_both hun] at h1
        cases h1
      have h2 := wpOp_putC hoj (hfree j oj hoj hji hjun hnot) (fun cs b => hsel i oi cs b hi) (fun cs b => hsel j oj cs b hoj) (fun c a w => hQ c a oi.dst (vs i) w) hy h1
      have hfree' : ∀ k ok, ops[k]? = some ok → k ≠ i → (listed.setIfInBounds j true).getD k true = false →
          (∀ e ∈ ok.after, Region.binds md e = true → e.on ≠ i) → oi.apart ops ok = true := fun k ok hk hki hun hno => by
        refine hfree k ok hk hki ?_ hno
        by_cases hjk : j = k
        · subst hjk; exact hjun
        · rw [getD_set_ne true hjk] at hun; exact hun
      have hjt : j ≠ t := fun h => hti listed hun (h ▸ hj)
      refine wpOp_mono (fun a' w' h3 => ⟨h3.2.1, ih (listed.setIfInBounds j true) a' w' (h3.2.1 hjt) hfree' (ready_mono hr (Ne.symm hji)) h3.1 ?_⟩) h2
      rw [Array.setIfInBounds_comm _ _ hji]
      exact h3.2.2

theorem D_all {t f : Nat} {E : Array Bool → Bool} {T : Act → World → Prop} (hsel : Region.noSelect ops = true) (hs : ∀ s w w', Cl s w → Cl s w' → w = w') (hC : ∀ w, C w → ∃ s, Cl s w)
    (hQ : ∀ c a d v w, Q' (.panic c) (a.put d v) w → Q' (.panic c) a w)
    (hT : ∀ listed a w, E listed = true → T a w → wpAnyD P md ops C t Q' f listed a w) (w : World) (hw : C w) :
    ∀ (qs : List Nat) (hq : ∀ i ∈ qs, i ≠ t ∧ ∀ listed : Array Bool, listed.getD i true = false → t ∉ Region.ready md ops listed) (listed : Array Bool) (a : Act), ordC md ops E qs listed = true → wpOrd P ops Cl vs (fun a => T a w) qs a → wpAnyD P md ops C t Q' (qs.length + f) listed a w
  | [], _, listed, a, hB, h => by
    rw [show [].length + f = f from Nat.zero_add f]
    exact hT listed a w hB h
  | i :: qs, hq, listed, a, hB, h => by
    simp only [ordC, Bool.and_eq_true] at hB
    obtain ⟨⟨hr, hf⟩, hB'⟩ := hB
    obtain ⟨o, ho, hqo, hK⟩ := h
    have hr' : i ∈ Region.ready md ops listed := by simpa using hr
    rw [show (i :: qs).length + f = (qs.length + f) + 1 by simp; omega]
    refine D_first (hq i (List.mem_cons_self ..)).1 (hq i (List.mem_cons_self ..)).2 ho (Region.noSelect_spec hsel) hs hC hQ _ listed a w hw (Region.free_spec ho hf) hr' hqo ?_
    exact D_all hsel hs hC hQ hT w hw qs (fun i hi => hq i (List.mem_cons_of_mem _ hi)) _ _ hB' hK
end
def loudR (P : Program) (ops : Array Oper) (C : World → Prop) (Q : Exit → Act → World → Prop) (R : Act → World → Prop) : List Oper → Act → World → Prop
  | [], a, w => R a w
  | o :: rest, a, w => wpList P ops (then' Q C (loudR P ops C Q R rest)) [o] a w
theorem loudR_nil (P : Program) (ops : Array Oper) (C : World → Prop) (Q : Exit → Act → World → Prop) (R : Act → World → Prop) (a : Act) (w : World) : loudR P ops C Q R [] a w = R a w := rfl
theorem loudR_cons (P : Program) (ops : Array Oper) (C : World → Prop) (Q : Exit → Act → World → Prop) (R : Act → World → Prop) (o : Oper) (rest : List Oper) (a : Act) (w : World) : loudR P ops C Q R (o :: rest) a w = wpList P ops (then' Q C (loudR P ops C Q R rest)) [o] a w := rfl
theorem wpAnyD_of_seqT {P : Program} {md : Region.Mode} {l : List Oper} {C : World → Prop} {Q' : Exit → Act → World → Prop} {t : Nat} {ot : Oper} (hot : l[t]? = some ot) : ∀ (ts : List Nat) (listed : Array Bool) (a : Act) (w : World),
    seqT md l.toArray (ts ++ [t]) listed = true → loudR P l.toArray C Q' (fun a w => wpList P l.toArray (then' Q' (fun _ => True) (fun a w => Q' .normal a w)) [ot] a w) (pickl l ts) a w → wpAnyD P md l.toArray C t Q' (ts.length + 1) listed a w
  | [], listed, a, w, hB, h => by
    simp only [List.nil_append, seqT, Bool.and_eq_true, decide_eq_true_eq] at hB
    have hend : Region.ready md l.toArray (listed.setIfInBounds t true) = [] := by simpa [seqT] using hB.2
    refine ⟨fun h1 => (by rw [hB.1] at h1; cases h1), fun i hi => ?_⟩
    rw [hB.1] at hi
    obtain rfl : i = t := by simpa using hi
    have ho : l.toArray[i]? = some ot := by simpa using hot
    have hw : wpOp P l.toArray Q' i (fun a' w' => True ∧ Q' .normal a' w') a w := by unfold wpOp; simp only [ho]; exact h
    exact wpOp_mono (fun a' w' h' => ⟨fun h => absurd rfl h, hend, h'.2⟩) hw
  | s :: ts, listed, a, w, hB, h => by
    simp only [List.cons_append, seqT, Bool.and_eq_true, decide_eq_true_eq] at hB
    have ht : s ∈ Region.ready md l.toArray listed := by rw [hB.1]; simp
    obtain ⟨_, o, ho, _⟩ := mem_ready.1 ht
    have ho' : l[s]? = some o := by simpa using ho
    refine ⟨fun h1 => (by rw [hB.1] at h1; cases h1), fun i hi => ?_⟩
    rw [hB.1] at hi
    obtain rfl : i = s := by simpa using hi
    unfold pickl at h
    rw [List.filterMap_cons, ho'] at h
    have hw : wpOp P l.toArray Q' i (fun a' w' => C w' ∧ loudR P l.toArray C Q' (fun a w => wpList P l.toArray (then' Q' (fun _ => True) (fun a w => Q' .normal a w)) [ot] a w) (pickl l ts) a' w') a w := by unfold wpOp; simp only [ho]; exact h
    exact wpOp_mono (fun a' w' h' => ⟨fun _ => h'.1, wpAnyD_of_seqT hot ts _ a' w' hB.2 h'.2⟩) hw
/-- The last one waits for each of these. -/
def lastB (l : List Oper) (t : Nat) (qs : List Nat) : Bool :=
  match l[t]? with
  | some o => qs.all (fun i => decide (i ≠ t) && o.after.any (fun e => Region.binds .any e && decide (e.on = i)))
  | none => false
theorem lastB_spec {l : List Oper} {t : Nat} {qs : List Nat} (h : lastB l t qs = true) : ∀ i ∈ qs, i ≠ t ∧ ∀ listed : Array Bool, listed.getD i true = false → t ∉ Region.ready .any l.toArray listed := by
  intro i hi
  unfold lastB at h
  cases ho : l[t]? with
  | none => rw [ho] at h; cases h
  | some o =>
    rw [ho] at h
    simp only [List.all_eq_true, Bool.and_eq_true, decide_eq_true_eq] at h
    obtain ⟨h1, h2⟩ := h i hi
    refine ⟨h1, fun listed hun hr => ?_⟩
    obtain ⟨e, he, hb⟩ := Array.any_eq_true'.1 h2
    simp only [Bool.and_eq_true, decide_eq_true_eq] at hb
    obtain ⟨_, o2, ho2, hall⟩ := mem_ready.1 hr
    have : o2 = o := by
      have h3 : l.toArray[t]? = some o := by simpa using ho
      rw [h3] at ho2; exact (Option.some.inj ho2).symm
    subst this
    have h4 := hall e he hb.1
    rw [hb.2, getD_both hun] at h4
    cases h4
/-- **As wp_region_mixf; behind the last operation t no class is asked.** -/
theorem wp_region_mixg {σ : Type} (F : σ → World) (s0 : σ) {P : Program} {id : Nat} {Q : Exit → Act → World → Prop} {a : Act} {W : World} {l : List Oper} (qs ts : List Nat) (t : Nat) (ot : Oper) (bq bt : List Bool) (h0 : W.drew = F s0) (hot : l[t]? = some ot) (hsel' : pickl l qs = sel bq l ∧ pickl l ts = sel bt l)
    (hm : P.follows .mixedOrders = true) (hB : (regC l qs (ts ++ [t]) a.tmps.size && lastB l t qs) = true) (hQ : ∀ c a d v w, Q (.panic c) (a.put d v) w → Q (.panic c) a w)
    (h : ∃ aE : Act, (∀ s : σ, wpQuiet P l.toArray (fun w' => w' = F s) (fun a' => a' = aE) (sel bq l) a) ∧
      loudR P l.toArray (fun w' => ∃ s, w' = F s) Q (fun a w => wpList P l.toArray (then' Q (fun _ => True) (fun a w => Q .normal a w)) [ot] a w) (sel bt l) aE (F s0)) :
    (Code.region id l.toArray true).wp P Q a W := by
  rw [← hsel'.1, ← hsel'.2] at h
  obtain ⟨aE, h1, h2⟩ := h
  rw [Bool.and_eq_true] at hB
  obtain ⟨hB, hL⟩ := hB
  simp only [regC, Bool.and_eq_true, decide_eq_true_eq] at hB
  obtain ⟨⟨⟨⟨hsel, hord⟩, hdst⟩, hlen⟩, hlt⟩ := hB
  refine wp_region_any hm ?_
  have H := D_all (P := P) (md := .any) (ops := l.toArray) (σ := σ) (Cl := fun s w' => w' = F s) (C := fun w' => ∃ s, w' = F s) (vs := slotOf l.toArray aE) (Q' := Q) (t := t) (f := ts.length + 1) (E := seqT .any l.toArray (ts ++ [t]))
    (T := fun a' w' => loudR P l.toArray (fun w' => ∃ s, w' = F s) Q (fun a w => wpList P l.toArray (then' Q (fun _ => True) (fun a w => Q .normal a w)) [ot] a w) (pickl l ts) a' w')
    hsel (fun s w1 w2 h1 h2 => h1.trans h2.symm) (fun w' h => h) hQ (fun listed a' w' hE hT => wpAnyD_of_seqT hot ts listed a' w' hE hT) (F s0) ⟨s0, rfl⟩
    qs (lastB_spec hL) _ a hord (ord_of_quiet s0 h2 _ _ _ (pick_map l qs hlt) hdst h1)
  have := wpAny_of_D _ _ _ _ H
  rw [show qs.length + (ts.length + 1) = l.toArray.size by simpa using hlen] at this
  rw [← h0] at this
  exact this
end Go.Proofs.Ytlanghikmccmbaa
/- A region that draws its order: readers, one loud operation (a call whose result is not known ahead), and readers of its result. -/
namespace Go.Proofs.Ytlanghikmccmbaa
open Go.RowKit
set_option linter.unusedVariables false
set_option linter.unusedSimpArgs false

theorem wpAnyC_mono {P : Program} {md : Region.Mode} {ops : Array Oper} {C C' : World → Prop} {Q' : Exit → Act → World → Prop} (hCC : ∀ w, C' w → C w) : ∀ (f : Nat) (listed : Array Bool) (a : Act) (w : World), wpAnyC P md ops C' Q' f listed a w → wpAnyC P md ops C Q' f listed a w
  | 0, _, _, _, h => h
  | f + 1, _, _, _, h => ⟨h.1, fun i hi => wpOp_mono (fun a' w' h' => ⟨hCC _ h'.1, wpAnyC_mono hCC f _ a' w' h'.2⟩) (h.2 i hi)⟩
/-- Behind the loud one: what is left reads. -/
def after (P : Program) (l : List Oper) (Q : Exit → Act → World → Prop) (b2 : List Bool) (m : Nat) (a : Act) (w : World) : Prop :=
  a.tmps.size = m ∧ ∃ aF : Act, wpQuiet P l.toArray (fun w'' => w'' = w) (fun a'' => a'' = aF) (sel b2 l) a ∧ Q .normal aF w
theorem after_of {P : Program} {l : List Oper} {Q : Exit → Act → World → Prop} {b2 : List Bool} {m : Nat} {a : Act} {w : World} (h1 : a.tmps.size = m) (h : ∃ aF : Act, wpQuiet P l.toArray (fun w'' => w'' = w) (fun a'' => a'' = aF) (sel b2 l) a ∧ Q .normal aF w) : after P l Q b2 m a w := ⟨h1, h⟩
def regA (l : List Oper) (qs1 : List Nat) (t : Nat) (qs2 : List Nat) (m0 m : Nat) : Bool :=
  Region.noSelect l.toArray && ordC .any l.toArray (fun listed => decide (Region.ready .any l.toArray listed = [t]) && ordC .any l.toArray (fun l2 => decide (Region.ready .any l.toArray l2 = [])) qs2 (listed.setIfInBounds t true)) qs1 (Array.replicate l.toArray.size false) &&
    dstB m0 (pickl l qs1) && dstB m (pickl l qs2) && decide (qs1.length + (qs2.length + 1) = l.length) && qs1.all (fun i => decide (i < l.length)) && qs2.all (fun i => decide (i < l.length))
theorem wp_region_call {σ : Type} (F : σ → World) (s0 : σ) {P : Program} {id : Nat} {Q : Exit → Act → World → Prop} {a : Act} {W : World} {l : List Oper} (qs1 : List Nat) (t : Nat) (qs2 : List Nat) (bq bt b2 : List Bool) (h0 : W.drew = F s0)
    (hsel' : pickl l qs1 = sel bq l ∧ pickl l [t] = sel bt l ∧ pickl l qs2 = sel b2 l)
    (hm : P.follows .mixedOrders = true) (hB : regA l qs1 t qs2 a.tmps.size a.tmps.size = true) (hQ : ∀ c a d v w, Q (.panic c) (a.put d v) w → Q (.panic c) a w)
    (h : ∃ aE : Act, (∀ s : σ, wpQuiet P l.toArray (fun w' => w' = F s) (fun a' => a' = aE) (sel bq l) a) ∧
      wpList P l.toArray (then' Q (fun w' => ∃ s, w' = F s) (after P l Q b2 a.tmps.size)) (sel bt l) aE (F s0)) :
    (Code.region id l.toArray true).wp P Q a W := by
  rw [← hsel'.1, ← hsel'.2.1] at h
  obtain ⟨aE, h1, h2⟩ := h
  simp only [regA, Bool.and_eq_true, decide_eq_true_eq] at hB
  obtain ⟨⟨⟨⟨⟨⟨hsel, hord⟩, hdst⟩, hdst2⟩, hlen⟩, hlt⟩, hlt2⟩ := hB
  refine wp_region_any hm ?_
  have H := C_all (P := P) (md := .any) (ops := l.toArray) (σ := σ) (Cl := fun s w' => w' = F s) (C := fun w' => ∃ s, w' = F s) (vs := slotOf l.toArray aE) (Q' := Q) (f := qs2.length + 1)
    (E := fun listed => decide (Region.ready .any l.toArray listed = [t]) && ordC .any l.toArray (fun l2 => decide (Region.ready .any l.toArray l2 = [])) qs2 (listed.setIfInBounds t true))
    (T := fun a' w' => wpList P l.toArray (then' Q (fun w' => ∃ s, w' = F s) (after P l Q b2 a.tmps.size)) (pickl l [t]) a' w')
    hsel (fun s w1 w2 h1 h2 => h1.trans h2.symm) (fun w' h => h) hQ ?_ (F s0) ⟨s0, rfl⟩
    qs1 _ a hord (ord_of_quiet s0 h2 _ _ _ (pick_map l qs1 hlt) hdst h1)
  · have := wpAny_of_C _ _ _ _ H
    rw [show qs1.length + (qs2.length + 1) = l.toArray.size by simpa using hlen] at this
    rw [← h0] at this
    exact this
  · intro listed a' w' hE hT
    simp only [Bool.and_eq_true, decide_eq_true_eq] at hE
    obtain ⟨hr, ho2⟩ := hE
    have ht : t ∈ Region.ready .any l.toArray listed := by rw [hr]; simp
    obtain ⟨_, o, ho, _⟩ := mem_ready.1 ht
    have ho' : l[t]? = some o := by simpa using ho
    refine ⟨fun h1 => (by rw [hr] at h1; cases h1), fun i hi => ?_⟩
    rw [hr] at hi
    obtain rfl : i = t := by simpa using hi
    refine wpOp_mono (fun a2 w2 h' => ⟨h'.1, ?_⟩) (wpOp_pick ho' hT)
    obtain ⟨hC, hsz, aF, hq, hQn⟩ := h'
    refine wpAnyC_mono (C' := fun w3 => w3 = w2) (fun w3 h => by rw [h]; exact hC) _ _ _ _ ?_
    have H2 := C_all (P := P) (md := .any) (ops := l.toArray) (σ := Unit) (Cl := fun _ w3 => w3 = w2) (C := fun w3 => w3 = w2) (vs := slotOf l.toArray aF) (Q' := Q) (f := 0)
      (E := fun l2 => decide (Region.ready .any l.toArray l2 = [])) (T := fun a3 w3 => Q .normal a3 w3)
      hsel (fun s w1 w2 h1 h2 => h1.trans h2.symm) (fun w3 h => ⟨(), h⟩) hQ (fun l2 a3 w3 hE hT => ⟨by simpa using hE, hT⟩) w2 rfl
      qs2 _ a2 ho2 (ord_of_quiet () hQn _ _ _ (pick_map l qs2 hlt2) (by rw [hsz]; exact hdst2) (fun _ => by rw [hsel'.2.2]; exact hq))
    exact H2
/-! ### the same, what is left calls, too -/
theorem wpAnyC_of_quiet {P : Program} {md : Region.Mode} {ops : Array Oper} {C C' : World → Prop} {Q : Act → Prop} {Q' : Exit → Act → World → Prop} (hCC : ∀ w, C' w → C w) (hQ : ∀ a w, C' w → Q a → Q' .normal a w) : ∀ (fuel : Nat) (listed : Array Bool) (a : Act) (w : World), C' w →
    wpAnyQ P md ops C' Q fuel listed a → wpAnyC P md ops C Q' fuel listed a w
  | 0, _, _, _, hw, h => ⟨h.1, hQ _ _ hw h.2⟩
  | fuel + 1, _, _, _, hw, h => ⟨fun h0 => hQ _ _ hw (h.1 h0), fun i hi => wpOp_of_qOp hw (fun a' w' hw' h' => ⟨hCC _ hw', wpAnyC_of_quiet hCC hQ fuel _ a' w' hw' h'⟩) (h.2 i hi)⟩
theorem wpAnyQ_ord {P : Program} {md : Region.Mode} {ops : Array Oper} {C : World → Prop} {Q : Act → Prop} (hs : Region.noSelect ops = true) : ∀ (qs : List Nat) (L : List Oper) (listed : Array Bool) (a : Act), qs.map (fun i => ops[i]?) = L.map some →
    ordC md ops (fun l2 => decide (Region.ready md ops l2 = [])) qs listed = true → wpQuiet P ops C Q L a → wpAnyQ P md ops C Q qs.length listed a
  | [], [], _, _, _, hB, h => ⟨by simpa [ordC] using hB, h⟩
  | [], _ :: _, _, _, hm, _, _ => by simp at hm
  | _ :: _, [], _, _, hm, _, _ => by simp at hm
  | i :: qs, o :: L, listed, a, hm, hB, h => by
    simp only [List.map_cons, List.cons.injEq] at hm
    simp only [ordC, Bool.and_eq_true] at hB
    obtain ⟨⟨hr, hf⟩, hB'⟩ := hB
    have hst : qOp P ops C i (wpQuiet P ops C Q L) a := by unfold qOp; simp only [hm.1]; exact h
    obtain ⟨v, hy, hK⟩ := yieldsIn_of_qOp hm.1 hst
    exact wpAnyQ_first hm.1 (Region.noSelect_spec hs) qs.length listed a (Region.free_spec hm.1 hf) (by simpa using hr) hy
      (wpAnyQ_ord hs qs L _ _ hm.2 hB' hK)
def afterm (P : Program) (l : List Oper) (Q : Exit → Act → World → Prop) (C : World → Prop) (b2 : List Bool) (a : Act) (w : World) : Prop :=
  ∃ C' : World → Prop, C' w ∧ (∀ w', C' w' → C w') ∧ wpQuiet P l.toArray C' (fun a'' => ∀ w'', C' w'' → Q .normal a'' w'') (sel b2 l) a
theorem afterm_of {P : Program} {l : List Oper} {Q : Exit → Act → World → Prop} {C : World → Prop} {b2 : List Bool} {a : Act} {w : World} {L : List (Array Obj)} {n : Nat} (hC : ∀ m : Ext, C (wd w (m.e :: L) m.n))
    (h : wpQuiet P l.toArray (fun w' => ∃ m : Ext, w' = wd w (m.e :: L) m.n) (fun a' => ∀ w', (∃ m : Ext, w' = wd w (m.e :: L) m.n) → Q .normal a' w') (sel b2 l) a) : afterm P l Q C b2 a (wd w L n) :=
  ⟨_, ⟨⟨#[], n⟩, by rw [wd_empty]⟩, fun w' ⟨m, hm⟩ => hm ▸ hC m, h⟩
def regM (l : List Oper) (qs1 : List Nat) (t : Nat) (qs2 : List Nat) (m0 : Nat) : Bool :=
  Region.noSelect l.toArray && ordC .any l.toArray (fun listed => decide (Region.ready .any l.toArray listed = [t]) && ordC .any l.toArray (fun l2 => decide (Region.ready .any l.toArray l2 = [])) qs2 (listed.setIfInBounds t true)) qs1 (Array.replicate l.toArray.size false) &&
    dstB m0 (pickl l qs1) && decide (qs1.length + (qs2.length + 1) = l.length) && qs1.all (fun i => decide (i < l.length)) && qs2.all (fun i => decide (i < l.length))
theorem wp_region_callm {σ : Type} (F : σ → World) (s0 : σ) {P : Program} {id : Nat} {Q : Exit → Act → World → Prop} {a : Act} {W : World} {l : List Oper} (qs1 : List Nat) (t : Nat) (qs2 : List Nat) (bq bt b2 : List Bool) (h0 : W.drew = F s0)
    (hsel' : pickl l qs1 = sel bq l ∧ pickl l [t] = sel bt l ∧ pickl l qs2 = sel b2 l)
    (hm : P.follows .mixedOrders = true) (hB : regM l qs1 t qs2 a.tmps.size = true) (hQ : ∀ c a d v w, Q (.panic c) (a.put d v) w → Q (.panic c) a w)
    (h : ∃ aE : Act, (∀ s : σ, wpQuiet P l.toArray (fun w' => w' = F s) (fun a' => a' = aE) (sel bq l) a) ∧
      wpList P l.toArray (then' Q (fun w' => ∃ s, w' = F s) (afterm P l Q (fun w' => ∃ s, w' = F s) b2)) (sel bt l) aE (F s0)) :
    (Code.region id l.toArray true).wp P Q a W := by
  rw [← hsel'.1, ← hsel'.2.1] at h
  obtain ⟨aE, h1, h2⟩ := h
  simp only [regM, Bool.and_eq_true, decide_eq_true_eq] at hB
  obtain ⟨⟨⟨⟨⟨hsel, hord⟩, hdst⟩, hlen⟩, hlt⟩, hlt2⟩ := hB
  refine wp_region_any hm ?_
  have H := C_all (P := P) (md := .any) (ops := l.toArray) (σ := σ) (Cl := fun s w' => w' = F s) (C := fun w' => ∃ s, w' = F s) (vs := slotOf l.toArray aE) (Q' := Q) (f := qs2.length + 1)
    (E := fun listed => decide (Region.ready .any l.toArray listed = [t]) && ordC .any l.toArray (fun l2 => decide (Region.ready .any l.toArray l2 = [])) qs2 (listed.setIfInBounds t true))
    (T := fun a' w' => wpList P l.toArray (then' Q (fun w' => ∃ s, w' = F s) (afterm P l Q (fun w' => ∃ s, w' = F s) b2)) (pickl l [t]) a' w')
    hsel (fun s w1 w2 h1 h2 => h1.trans h2.symm) (fun w' h => h) hQ ?_ (F s0) ⟨s0, rfl⟩
    qs1 _ a hord (ord_of_quiet s0 h2 _ _ _ (pick_map l qs1 hlt) hdst h1)
  · have := wpAny_of_C _ _ _ _ H
    rw [show qs1.length + (qs2.length + 1) = l.toArray.size by simpa using hlen] at this
    rw [← h0] at this
    exact this
  · intro listed a' w' hE hT
    simp only [Bool.and_eq_true, decide_eq_true_eq] at hE
    obtain ⟨hr, ho2⟩ := hE
    have ht : t ∈ Region.ready .any l.toArray listed := by rw [hr]; simp
    obtain ⟨_, o, ho, _⟩ := mem_ready.1 ht
    have ho' : l[t]? = some o := by simpa using ho
    refine ⟨fun h1 => (by rw [hr] at h1; cases h1), fun i hi => ?_⟩
    rw [hr] at hi
    obtain rfl : i = t := by simpa using hi
    refine wpOp_mono (fun a2 w2 h' => ⟨h'.1, ?_⟩) (wpOp_pick ho' hT)
    obtain ⟨hC, C', hw, hCC, hq⟩ := h'
    refine wpAnyC_of_quiet hCC (Q := fun a'' => ∀ w'', C' w'' → Q .normal a'' w'') (fun a3 w3 hw3 h3 => h3 w3 hw3) _ _ _ _ hw ?_
    exact wpAnyQ_ord hsel qs2 (pickl l qs2) _ _ (pick_map l qs2 hlt2) ho2 (by rw [hsel'.2.2]; exact hq)
end Go.Proofs.Ytlanghikmccmbaa
/- A region that draws its order: readers, a loud call, readers of its result, a loud call, .. : each loud one is the only one that may come up when it does (once the readers of its part are done); readers float. -/
namespace Go.Proofs.Ytlanghikmccmbaa
open Go.RowKit
set_option linter.unusedVariables false
set_option linter.unusedSimpArgs false
def chainC {σ : Type} (P : Program) (l : List Oper) (Q : Exit → Act → World → Prop) (F : σ → World) (m : Nat) (bE : List Bool) : List (List Bool × List Bool) → Act → World → Prop
  | [], a, w => a.tmps.size = m ∧ ∃ aE : Act, (∀ s : σ, wpQuiet P l.toArray (fun w' => w' = F s) (fun a' => a' = aE) (sel bE l) a) ∧ Q .normal aE w
  | (bq, bt) :: rest, a, w => a.tmps.size = m ∧ ∃ aE : Act, (∀ s : σ, wpQuiet P l.toArray (fun w' => w' = F s) (fun a' => a' = aE) (sel bq l) a) ∧ wpList P l.toArray (then' Q (fun w' => ∃ s, w' = F s) (chainC P l Q F m bE rest)) (sel bt l) aE w
def chainB (l : List Oper) (m : Nat) (qE : List Nat) : List (List Nat × Nat) → Array Bool → Bool
  | [], listed => ordC .any l.toArray (fun l2 => decide (Region.ready .any l.toArray l2 = [])) qE listed && dstB m (pickl l qE) && qE.all (fun i => decide (i < l.length))
  | (qs, t) :: rest, listed => ordC .any l.toArray (fun l2 => decide (Region.ready .any l.toArray l2 = [t]) && chainB l m qE rest (l2.setIfInBounds t true)) qs listed && dstB m (pickl l qs) && qs.all (fun i => decide (i < l.length))
def selOK (l : List Oper) : List (List Nat × Nat) → List (List Bool × List Bool) → Prop
  | [], [] => True
  | (qs, t) :: r, (bq, bt) :: r' => pickl l qs = sel bq l ∧ pickl l [t] = sel bt l ∧ selOK l r r'
  | _, _ => False
def chainN (qE : List Nat) : List (List Nat × Nat) → Nat
  | [] => qE.length
  | (qs, _) :: r => qs.length + (chainN qE r + 1)
theorem chain_any {σ : Type} {P : Program} {l : List Oper} {Q : Exit → Act → World → Prop} {F : σ → World} (s1 : σ) {m : Nat} {qE : List Nat} {bE : List Bool} (hsel : Region.noSelect l.toArray = true) (hQ : ∀ c a d v w, Q (.panic c) (a.put d v) w → Q (.panic c) a w) (hbE : pickl l qE = sel bE l) :
    ∀ (segs : List (List Nat × Nat)) (bs : List (List Bool × List Bool)) (listed : Array Bool) (a : Act) (w : World), selOK l segs bs → chainB l m qE segs listed = true → (∃ s, w = F s) → chainC P l Q F m bE bs a w → wpAnyC P .any l.toArray (fun w' => ∃ s, w' = F s) Q (chainN qE segs) listed a w
  | [], [], listed, a, w, _, hB, hw, h => by
    obtain ⟨hm, aE, h1, h2⟩ := h
    simp only [chainB, Bool.and_eq_true] at hB
    obtain ⟨⟨ho, hd⟩, hlt⟩ := hB
    have H := C_all (P := P) (md := .any) (ops := l.toArray) (σ := σ) (Cl := fun s w' => w' = F s) (C := fun w' => ∃ s, w' = F s) (vs := slotOf l.toArray aE) (Q' := Q) (f := 0)
      (E := fun l2 => decide (Region.ready .any l.toArray l2 = [])) (T := fun a3 w3 => Q .normal a3 w3)
      hsel (fun s w1 w2 h1 h2 => h1.trans h2.symm) (fun w3 h => h) hQ (fun l2 a3 w3 hE hT => ⟨by simpa using hE, hT⟩) w hw
      qE listed a ho (ord_of_quiet s1 h2 _ _ _ (pick_map l qE hlt) (by rw [hm]; exact hd) (by rw [hbE]; exact h1))
    exact H
  | (qs, t) :: rest, (bq, bt) :: rest', listed, a, w, hs, hB, hw, h => by
    obtain ⟨hs1, hs2, hs3⟩ := hs
    obtain ⟨hm, aE, h1, h2⟩ := h
    simp only [chainB, Bool.and_eq_true] at hB
    obtain ⟨⟨ho, hd⟩, hlt⟩ := hB
    have H := C_all (P := P) (md := .any) (ops := l.toArray) (σ := σ) (Cl := fun s w' => w' = F s) (C := fun w' => ∃ s, w' = F s) (vs := slotOf l.toArray aE) (Q' := Q) (f := chainN qE rest + 1)
      (E := fun l2 => decide (Region.ready .any l.toArray l2 = [t]) && chainB l m qE rest (l2.setIfInBounds t true))
      (T := fun a' w' => wpList P l.toArray (then' Q (fun w' => ∃ s, w' = F s) (chainC P l Q F m bE rest')) (pickl l [t]) a' w')
      hsel (fun s w1 w2 h1 h2 => h1.trans h2.symm) (fun w3 h => h) hQ ?_ w hw
      qs listed a ho (ord_of_quiet s1 (by rw [hs2]; exact h2) _ _ _ (pick_map l qs hlt) (by rw [hm]; exact hd) (by rw [hs1]; exact h1))
    · exact H
    · intro listed2 a' w' hE hT
      simp only [Bool.and_eq_true, decide_eq_true_eq] at hE
      obtain ⟨hr, hrest⟩ := hE
      have ht : t ∈ Region.ready .any l.toArray listed2 := by rw [hr]; simp
      obtain ⟨_, o, ho, _⟩ := mem_ready.1 ht
      have ho' : l[t]? = some o := by simpa using ho
      refine ⟨fun h1 => (by rw [hr] at h1; cases h1), fun i hi => ?_⟩
      rw [hr] at hi
      obtain rfl : i = t := by simpa using hi
      exact wpOp_mono (fun a2 w2 h' => ⟨h'.1, chain_any s1 hsel hQ hbE rest rest' _ a2 w2 hs3 hrest h'.1 h'.2⟩) (wpOp_pick ho' hT)
  | [], _ :: _, _, _, _, hs, _, _, _ => hs.elim
  | _ :: _, [], _, _, _, hs, _, _, _ => hs.elim
theorem wp_region_chain {σ : Type} (F : σ → World) (s0 : σ) {P : Program} {id : Nat} {Q : Exit → Act → World → Prop} {a : Act} {W : World} {l : List Oper} (segs : List (List Nat × Nat)) (qE : List Nat) (bs : List (List Bool × List Bool)) (bE : List Bool) (h0 : W.drew = F s0)
    (hbE : pickl l qE = sel bE l) (hs : selOK l segs bs) (hm : P.follows .mixedOrders = true) (hB : (Region.noSelect l.toArray && decide (chainN qE segs = l.length) && chainB l a.tmps.size qE segs (Array.replicate l.toArray.size false)) = true) (hQ : ∀ c a d v w, Q (.panic c) (a.put d v) w → Q (.panic c) a w)
    (h : chainC P l Q F a.tmps.size bE bs a (F s0)) : (Code.region id l.toArray true).wp P Q a W := by
  simp only [Bool.and_eq_true, decide_eq_true_eq] at hB
  obtain ⟨⟨hsel, hlen⟩, hB⟩ := hB
  refine wp_region_any hm ?_
  have := wpAny_of_C _ _ _ _ (chain_any s0 hsel hQ hbE segs bs _ a (F s0) hs hB ⟨s0, rfl⟩ h)
  rw [show chainN qE segs = l.toArray.size by simpa using hlen] at this
  rw [← h0] at this
  exact this
end Go.Proofs.Ytlanghikmccmbaa
