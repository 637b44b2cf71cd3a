/- Appends to a row that lies beneath some pieces. -/
import Derived.Test.YtlanghikmccmbaaMC
import Derived.Test.YtlanghikmccmbaaME
import Derived.Test.YtlanghikmccmbaaMA
namespace Go.Proofs.Ytlanghikmccmbaa
open Go.RowKit
set_option linter.unusedVariables false
set_option linter.unusedSimpArgs false

/-- The piece m with the pieces D (newest first) behind it. -/
def mall (m : Array Obj) : List (Array Obj) → Array Obj
  | [] => m
  | d :: D => mall m D ++ d
end Go.Proofs.Ytlanghikmccmbaa
/- batch: Get. -/
namespace Go.Proofs.Ytlanghikmccmbaa
open Go.ChangeShapes Go.WideShapes Go.ChangeAt Go.RowKit
set_option linter.unusedVariables false
set_option linter.unusedSimpArgs false

/-- A batch and an error, handed back. -/
structure BatRet (w w' : World) (x : Ending) (g : Bat × Int) : Prop where
  out : ∃ a cap, x = .returned (.tuple #[.agg #[.int .i64 g.1.base, .int .i64 g.1.count, .int .i64 g.1.producer, .int .i64 g.1.epoch, .int .i64 g.1.seq, .slice a g.1.recs.length cap], .int .i64 g.2]) ∧ RecsAt w' a g.1.recs ∧ More w w' ∧ From w.heap.size a g.1.recs
/-- An own reader's block. -/
abbrev rbk (v : Value) (e : Int) : Array Obj := #[.cells #[v, .int .i64 e] 123]
/-- An own reader upon its bytes' piece, with none to three pieces above. -/
structure OwnRd (w : World) (c : Array Obj) (L : List (Array Obj)) (p : Nat) (v0 : Value) (l : List UInt8) : Prop where
  r0 : ∀ n v e, Rdr (wd w (rbk v e :: c :: L) n) p v e
  r1 : ∀ x n v e, Rdr (wd w (x :: rbk v e :: c :: L) n) p v e
  r2 : ∀ x y n v e, Rdr (wd w (x :: y :: rbk v e :: c :: L) n) p v e
  r3 : ∀ x y z n v e, Rdr (wd w (x :: y :: z :: rbk v e :: c :: L) n) p v e
  r4 : ∀ x y z t n v e, Rdr (wd w (x :: y :: z :: t :: rbk v e :: c :: L) n) p v e
  b0 : ∀ n v e v' l', (∀ W0, RB W0 v0 l → RB W0 v' l') → RB (wd w (rbk v e :: c :: L) n) v' l'
  b1 : ∀ x n v e v' l', (∀ W0, RB W0 v0 l → RB W0 v' l') → RB (wd w (x :: rbk v e :: c :: L) n) v' l'
  b2 : ∀ x y n v e v' l', (∀ W0, RB W0 v0 l → RB W0 v' l') → RB (wd w (x :: y :: rbk v e :: c :: L) n) v' l'
  b3 : ∀ x y z n v e v' l', (∀ W0, RB W0 v0 l → RB W0 v' l') → RB (wd w (x :: y :: z :: rbk v e :: c :: L) n) v' l'
  b4 : ∀ x y z t n v e v' l', (∀ W0, RB W0 v0 l → RB W0 v' l') → RB (wd w (x :: y :: z :: t :: rbk v e :: c :: L) n) v' l'
theorem flat_snoc {α : Type} (f : α → List Value) (l : List α) (x : α) : (l ++ [x]).flatMap f = l.flatMap f ++ f x := by simp
theorem rdr_push {w : World} {d : Array Obj} {L : List (Array Obj)} {n p : Nat} {v : Value} {e : Int} (h : Rdr (wd w L n) p v e) : Rdr (wd w (d :: L) n) p v e := h.more ⟨_, _, rfl⟩
theorem rb_push {w : World} {d : Array Obj} {L : List (Array Obj)} {n : Nat} {v : Value} {l : List UInt8} (h : RB (wd w L n) v l) : RB (wd w (d :: L) n) v l := h.more ⟨_, _, rfl⟩
theorem ownRd {w : World} {c : Array Obj} {L : List (Array Obj)} {p : Nat} {v0 : Value} {l : List UInt8} (hp : p = sz w.heap.size (shape (c :: L))) (h : BRow w L c v0 l) : OwnRd w c L p v0 l := by
  subst hp
  have r : ∀ n v e, Rdr (wd w (rbk v e :: c :: L) n) (sz w.heap.size (shape (c :: L))) v e := fun n v e => Rdr.here w (c :: L) n _ rfl v e
  have b : ∀ n v e v' l', (∀ W0, RB W0 v0 l → RB W0 v' l') → RB (wd w (rbk v e :: c :: L) n) v' l' := fun n v e v' l' hk => hk _ (rb_push (RB.of_row (k := n) h l rfl))
  exact ⟨r, fun _ _ _ _ => rdr_push (r _ _ _), fun _ _ _ _ _ => rdr_push (rdr_push (r _ _ _)), fun _ _ _ _ _ _ => rdr_push (rdr_push (rdr_push (r _ _ _))), fun _ _ _ _ _ _ _ => rdr_push (rdr_push (rdr_push (rdr_push (r _ _ _)))),
    b, fun _ _ _ _ _ _ hk => rb_push (b _ _ _ _ _ hk), fun _ _ _ _ _ _ _ hk => rb_push (rb_push (b _ _ _ _ _ hk)), fun _ _ _ _ _ _ _ _ hk => rb_push (rb_push (rb_push (b _ _ _ _ _ hk))), fun _ _ _ _ _ _ _ _ _ hk => rb_push (rb_push (rb_push (rb_push (b _ _ _ _ _ hk))))⟩
theorem took_own0 {w w' : World} {L : List (Array Obj)} {n p : Nat} {v : Value} {l l' : List UInt8} {e e' : Int} (hp : p = sz w.heap.size (shape L)) (h : Took (wd w (rbk v e :: L) n) w' p v l l' e') :
    ∃ v' M, (∀ W0, RB W0 v l → RB W0 v' l') ∧ w' = wd w (Ext.e M :: rbk v' e' :: L) M.n := by
  obtain ⟨v', hk, m, rfl⟩ := h.out
  subst hp
  exact ⟨v', m, hk, by rw [rset_wd w L n _ _ _ _ _ _ _ rfl rfl, wd_plus]⟩
end Go.Proofs.Ytlanghikmccmbaa
/- As XMix, but behind the LAST operation, which waits for all the others, the class is not asked. -/
namespace Go.Proofs.Ytlanghikmccmbaa
open Go.RowKit
set_option linter.unusedVariables false
set_option linter.unusedSimpArgs false

section
variable {P : Program} {ops : Array Oper} {md : Region.Mode} {σ : Type} {Cl : σ → World → Prop} {C : World → Prop} {vs : Nat → Value} {Q' : Exit → Act → World → Prop}
def wpAnyD (P : Program) (md : Region.Mode) (ops : Array Oper) (C : World → Prop) (t : Nat) (Q' : Exit → Act → World → Prop) : Nat → Array Bool → Act → World → Prop
  | 0, listed, a, w => Region.ready md ops listed = [] ∧ Q' .normal a w
  | f + 1, listed, a, w => (Region.ready md ops listed = [] → Q' .normal a w) ∧ ∀ i ∈ Region.ready md ops listed, wpOp P ops Q' i (fun a' w' => (i ≠ t → C w') ∧ wpAnyD P md ops C t Q' f (listed.setIfInBounds i true) a' w') a w
theorem wpAny_of_D {t : Nat} : ∀ (f : Nat) (listed : Array Bool) (a : Act) (w : World), wpAnyD P md ops C t Q' f listed a w → wpAny P md ops Q' f listed a w
  | 0, _, _, _, h => h
  | f + 1, _, _, _, h => ⟨h.1, fun i hi => wpOp_mono (fun a' w' h' => wpAny_of_D f _ a' w' h'.2) (h.2 i hi)⟩
theorem D_first {t i : Nat} (hit : i ≠ t) (hti : ∀ listed : Array Bool, listed.getD i true = false → t ∉ Region.ready md ops listed) {oi : Oper} (hi : ops[i]? = some oi) (hsel : ∀ (j : Nat) (o : Oper) cs b, ops[j]? = some o → o.op ≠ .select cs b) (hs : ∀ s w w', Cl s w → Cl s w' → w = w') (hC : ∀ w, C w → ∃ s, Cl s w)
    (hQ : ∀ c a d v w, Q' (.panic c) (a.put d v) w → Q' (.panic c) a w) :
    ∀ (f : Nat) (listed : Array Bool) (a : Act) (w : World), C w →
      (∀ j oj, ops[j]? = some oj → j ≠ i → listed.getD j true = false → (∀ e ∈ oj.after, Region.binds md e = true → e.on ≠ i) → oi.apart ops oj = true) →
      i ∈ Region.ready md ops listed → qop P ops Cl vs i oi a →
      wpAnyD P md ops C t Q' f (listed.setIfInBounds i true) (a.put oi.dst (vs i)) w → wpAnyD P md ops C t Q' (f + 1) listed a w := by
  intro f
  induction f with
  | zero =>
    intro listed a w hw _ hr hy H
    refine ⟨fun h => (by rw [h] at hr; cases hr), fun j hj => ?_⟩
    by_cases hji : j = i
    · subst hji; obtain ⟨s, hsw⟩ := hC w hw; exact qop_wpOp hi hsw hs hy ⟨fun _ => hw, H⟩
    · have := ready_mono hj hji
      rw [H.1] at this
      cases this
  | succ f ih =>
    intro listed a w hw hfree hr hy H
    have hun := (mem_ready.1 hr).1
    refine ⟨fun h => (by rw [h] at hr; cases hr), fun j hj => ?_⟩
    by_cases hji : j = i
    · subst hji; obtain ⟨s, hsw⟩ := hC w hw; exact qop_wpOp hi hsw hs hy ⟨fun _ => hw, H⟩
    · have h1 := H.2 j (ready_mono hj hji)
      obtain ⟨hjun, oj, hoj, hall⟩ := mem_ready.1 hj
      have hnot : ∀ e ∈ oj.after, Region.binds md e = true → e.on ≠ i := fun e he hb heq => by
        have h1 := hall e he hb
        rw [heq, getD_both hun] at h1
        cases h1
      have h2 := wpOp_putC hoj (hfree j oj hoj hji hjun hnot) (fun cs b => hsel i oi cs b hi) (fun cs b => hsel j oj cs b hoj) (fun c a w => hQ c a oi.dst (vs i) w) hy h1
      have hfree' : ∀ k ok, ops[k]? = some ok → k ≠ i → (listed.setIfInBounds j true).getD k true = false →
          (∀ e ∈ ok.after, Region.binds md e = true → e.on ≠ i) → oi.apart ops ok = true := fun k ok hk hki hun hno => by
        refine hfree k ok hk hki ?_ hno
        by_cases hjk : j = k
        · subst hjk; exact hjun
        · rw [getD_set_ne true hjk] at hun; exact hun
      have hjt : j ≠ t := fun h => hti listed hun (h ▸ hj)
      refine wpOp_mono (fun a' w' h3 => ⟨h3.2.1, ih (listed.setIfInBounds j true) a' w' (h3.2.1 hjt) hfree' (ready_mono hr (Ne.symm hji)) h3.1 ?_⟩) h2
      rw [Array.setIfInBounds_comm _ _ hji]
      exact h3.2.2

theorem D_all {t f : Nat} {E : Array Bool → Bool} {T : Act → World → Prop} (hsel : Region.noSelect ops = true) (hs : ∀ s w w', Cl s w → Cl s w' → w = w') (hC : ∀ w, C w → ∃ s, Cl s w)
    (hQ : ∀ c a d v w, Q' (.panic c) (a.put d v) w → Q' (.panic c) a w)
    (hT : ∀ listed a w, E listed = true → T a w → wpAnyD P md ops C t Q' f listed a w) (w : World) (hw : C w) :
    ∀ (qs : List Nat) (hq : ∀ i ∈ qs, i ≠ t ∧ ∀ listed : Array Bool, listed.getD i true = false → t ∉ Region.ready md ops listed) (listed : Array Bool) (a : Act), ordC md ops E qs listed = true → wpOrd P ops Cl vs (fun a => T a w) qs a → wpAnyD P md ops C t Q' (qs.length + f) listed a w
  | [], _, listed, a, hB, h => by
    rw [show [].length + f = f from Nat.zero_add f]
    exact hT listed a w hB h
  | i :: qs, hq, listed, a, hB, h => by
    simp only [ordC, Bool.and_eq_true] at hB
    obtain ⟨⟨hr, hf⟩, hB'⟩ := hB
    obtain ⟨o, ho, hqo, hK⟩ := h
    have hr' : i ∈ Region.ready md ops listed := by simpa using hr
    rw [show (i :: qs).length + f = (qs.length + f) + 1 by simp; omega]
    refine D_first (hq i (List.mem_cons_self ..)).1 (hq i (List.mem_cons_self ..)).2 ho (Region.noSelect_spec hsel) hs hC hQ _ listed a w hw (Region.free_spec ho hf) hr' hqo ?_
    exact D_all hsel hs hC hQ hT w hw qs (fun i hi => hq i (List.mem_cons_of_mem _ hi)) _ _ hB' hK
end
def loudR (P : Program) (ops : Array Oper) (C : World → Prop) (Q : Exit → Act → World → Prop) (R : Act → World → Prop) : List Oper → Act → World → Prop
  | [], a, w => R a w
  | o :: rest, a, w => wpList P ops (then' Q C (loudR P ops C Q R rest)) [o] a w
theorem loudR_nil (P : Program) (ops : Array Oper) (C : World → Prop) (Q : Exit → Act → World → Prop) (R : Act → World → Prop) (a : Act) (w : World) : loudR P ops C Q R [] a w = R a w := rfl
theorem loudR_cons (P : Program) (ops : Array Oper) (C : World → Prop) (Q : Exit → Act → World → Prop) (R : Act → World → Prop) (o : Oper) (rest : List Oper) (a : Act) (w : World) : loudR P ops C Q R (o :: rest) a w = wpList P ops (then' Q C (loudR P ops C Q R rest)) [o] a w := rfl
theorem wpAnyD_of_seqT {P : Program} {md : Region.Mode} {l : List Oper} {C : World → Prop} {Q' : Exit → Act → World → Prop} {t : Nat} {ot : Oper} (hot : l[t]? = some ot) : ∀ (ts : List Nat) (listed : Array Bool) (a : Act) (w : World),
    seqT md l.toArray (ts ++ [t]) listed = true → loudR P l.toArray C Q' (fun a w => wpList P l.toArray (then' Q' (fun _ => True) (fun a w => Q' .normal a w)) [ot] a w) (pickl l ts) a w → wpAnyD P md l.toArray C t Q' (ts.length + 1) listed a w
  | [], listed, a, w, hB, h => by
    simp only [List.nil_append, seqT, Bool.and_eq_true, decide_eq_true_eq] at hB
    have hend : Region.ready md l.toArray (listed.setIfInBounds t true) = [] := by simpa [seqT] using hB.2
    refine ⟨fun h1 => (by rw [hB.1] at h1; cases h1), fun i hi => ?_⟩
    rw [hB.1] at hi
    obtain rfl : i = t := by simpa using hi
    have ho : l.toArray[i]? = some ot := by simpa using hot
    have hw : wpOp P l.toArray Q' i (fun a' w' => True ∧ Q' .normal a' w') a w := by unfold wpOp; simp only [ho]; exact h
    exact wpOp_mono (fun a' w' h' => ⟨fun h => absurd rfl h, hend, h'.2⟩) hw
  | s :: ts, listed, a, w, hB, h => by
    simp only [List.cons_append, seqT, Bool.and_eq_true, decide_eq_true_eq] at hB
    have ht : s ∈ Region.ready md l.toArray listed := by rw [hB.1]; simp
    obtain ⟨_, o, ho, _⟩ := mem_ready.1 ht
    have ho' : l[s]? = some o := by simpa using ho
    refine ⟨fun h1 => (by rw [hB.1] at h1; cases h1), fun i hi => ?_⟩
    rw [hB.1] at hi
    obtain rfl : i = s := by simpa using hi
    unfold pickl at h
    rw [List.filterMap_cons, ho'] at h
    have hw : wpOp P l.toArray Q' i (fun a' w' => C w' ∧ loudR P l.toArray C Q' (fun a w => wpList P l.toArray (then' Q' (fun _ => True) (fun a w => Q' .normal a w)) [ot] a w) (pickl l ts) a' w') a w := by unfold wpOp; simp only [ho]; exact h
    exact wpOp_mono (fun a' w' h' => ⟨fun _ => h'.1, wpAnyD_of_seqT hot ts _ a' w' hB.2 h'.2⟩) hw
/-- The last one waits for each of these. -/
def lastB (l : List Oper) (t : Nat) (qs : List Nat) : Bool :=
  match l[t]? with
  | some o => qs.all (fun i => decide (i ≠ t) && o.after.any (fun e => Region.binds .any e && decide (e.on = i)))
  | none => false
theorem lastB_spec {l : List Oper} {t : Nat} {qs : List Nat} (h : lastB l t qs = true) : ∀ i ∈ qs, i ≠ t ∧ ∀ listed : Array Bool, listed.getD i true = false → t ∉ Region.ready .any l.toArray listed := by
  intro i hi
  unfold lastB at h
  cases ho : l[t]? with
  | none => rw [ho] at h; cases h
  | some o =>
    rw [ho] at h
    simp only [List.all_eq_true, Bool.and_eq_true, decide_eq_true_eq] at h
    obtain ⟨h1, h2⟩ := h i hi
    refine ⟨h1, fun listed hun hr => ?_⟩
    obtain ⟨e, he, hb⟩ := Array.any_eq_true'.1 h2
    simp only [Bool.and_eq_true, decide_eq_true_eq] at hb
    obtain ⟨_, o2, ho2, hall⟩ := mem_ready.1 hr
    have : o2 = o := by
      have h3 : l.toArray[t]? = some o := by simpa using ho
      rw [h3] at ho2; exact (Option.some.inj ho2).symm
    subst this
    have h4 := hall e he hb.1
    rw [hb.2, getD_both hun] at h4
    cases h4
/-- **As wp_region_mixf; behind the last operation t no class is asked.** -/
theorem wp_region_mixg {σ : Type} (F : σ → World) (s0 : σ) {P : Program} {id : Nat} {Q : Exit → Act → World → Prop} {a : Act} {W : World} {l : List Oper} (qs ts : List Nat) (t : Nat) (ot : Oper) (bq bt : List Bool) (h0 : W.drew = F s0) (hot : l[t]? = some ot) (hsel' : pickl l qs = sel bq l ∧ pickl l ts = sel bt l)
    (hm : P.follows .mixedOrders = true) (hB : (regC l qs (ts ++ [t]) a.tmps.size && lastB l t qs) = true) (hQ : ∀ c a d v w, Q (.panic c) (a.put d v) w → Q (.panic c) a w)
    (h : ∃ aE : Act, (∀ s : σ, wpQuiet P l.toArray (fun w' => w' = F s) (fun a' => a' = aE) (sel bq l) a) ∧
      loudR P l.toArray (fun w' => ∃ s, w' = F s) Q (fun a w => wpList P l.toArray (then' Q (fun _ => True) (fun a w => Q .normal a w)) [ot] a w) (sel bt l) aE (F s0)) :
    (Code.region id l.toArray true).wp P Q a W := by
  rw [← hsel'.1, ← hsel'.2] at h
  obtain ⟨aE, h1, h2⟩ := h
  rw [Bool.and_eq_true] at hB
  obtain ⟨hB, hL⟩ := hB
  simp only [regC, Bool.and_eq_true, decide_eq_true_eq] at hB
  obtain ⟨⟨⟨⟨hsel, hord⟩, hdst⟩, hlen⟩, hlt⟩ := hB
  refine wp_region_any hm ?_
  have H := D_all (P := P) (md := .any) (ops := l.toArray) (σ := σ) (Cl := fun s w' => w' = F s) (C := fun w' => ∃ s, w' = F s) (vs := slotOf l.toArray aE) (Q' := Q) (t := t) (f := ts.length + 1) (E := seqT .any l.toArray (ts ++ [t]))
    (T := fun a' w' => loudR P l.toArray (fun w' => ∃ s, w' = F s) Q (fun a w => wpList P l.toArray (then' Q (fun _ => True) (fun a w => Q .normal a w)) [ot] a w) (pickl l ts) a' w')
    hsel (fun s w1 w2 h1 h2 => h1.trans h2.symm) (fun w' h => h) hQ (fun listed a' w' hE hT => wpAnyD_of_seqT hot ts listed a' w' hE hT) (F s0) ⟨s0, rfl⟩
    qs (lastB_spec hL) _ a hord (ord_of_quiet s0 h2 _ _ _ (pick_map l qs hlt) hdst h1)
  have := wpAny_of_D _ _ _ _ H
  rw [show qs.length + (ts.length + 1) = l.toArray.size by simpa using hlen] at this
  rw [← h0] at this
  exact this
end Go.Proofs.Ytlanghikmccmbaa
/- A region that draws its order: readers, one loud operation (a call whose result is not known ahead), and readers of its result. -/
namespace Go.Proofs.Ytlanghikmccmbaa
open Go.RowKit
set_option linter.unusedVariables false
set_option linter.unusedSimpArgs false

/-- Behind the loud one: what is left reads. -/
def after (P : Program) (l : List Oper) (Q : Exit → Act → World → Prop) (b2 : List Bool) (m : Nat) (a : Act) (w : World) : Prop :=
  a.tmps.size = m ∧ ∃ aF : Act, wpQuiet P l.toArray (fun w'' => w'' = w) (fun a'' => a'' = aF) (sel b2 l) a ∧ Q .normal aF w
def regA (l : List Oper) (qs1 : List Nat) (t : Nat) (qs2 : List Nat) (m0 m : Nat) : Bool :=
  Region.noSelect l.toArray && ordC .any l.toArray (fun listed => decide (Region.ready .any l.toArray listed = [t]) && ordC .any l.toArray (fun l2 => decide (Region.ready .any l.toArray l2 = [])) qs2 (listed.setIfInBounds t true)) qs1 (Array.replicate l.toArray.size false) &&
    dstB m0 (pickl l qs1) && dstB m (pickl l qs2) && decide (qs1.length + (qs2.length + 1) = l.length) && qs1.all (fun i => decide (i < l.length)) && qs2.all (fun i => decide (i < l.length))
def afterm (P : Program) (l : List Oper) (Q : Exit → Act → World → Prop) (C : World → Prop) (b2 : List Bool) (a : Act) (w : World) : Prop :=
  ∃ C' : World → Prop, C' w ∧ (∀ w', C' w' → C w') ∧ wpQuiet P l.toArray C' (fun a'' => ∀ w'', C' w'' → Q .normal a'' w'') (sel b2 l) a
def regM (l : List Oper) (qs1 : List Nat) (t : Nat) (qs2 : List Nat) (m0 : Nat) : Bool :=
  Region.noSelect l.toArray && ordC .any l.toArray (fun listed => decide (Region.ready .any l.toArray listed = [t]) && ordC .any l.toArray (fun l2 => decide (Region.ready .any l.toArray l2 = [])) qs2 (listed.setIfInBounds t true)) qs1 (Array.replicate l.toArray.size false) &&
    dstB m0 (pickl l qs1) && decide (qs1.length + (qs2.length + 1) = l.length) && qs1.all (fun i => decide (i < l.length)) && qs2.all (fun i => decide (i < l.length))
end Go.Proofs.Ytlanghikmccmbaa
/- A region that draws its order, as XMix2, but with any number of branches: the orders are a tree of 'one' and 'alt'. -/
namespace Go.Proofs.Ytlanghikmccmbaa
open Go.RowKit
set_option linter.unusedVariables false
set_option linter.unusedSimpArgs false

/-- The orders in which the loud ones may come. -/
inductive LU where
  | done : LU
  | one (i : Nat) (t : LU) : LU
  | alt (t u : LU) : LU
def LU.len : LU → Nat
  | .done => 0
  | .one _ t => t.len + 1
  | .alt t u => max t.len u.len
def LU.heads : LU → List Nat
  | .done => []
  | .one i _ => [i]
  | .alt t u => t.heads ++ u.heads
def okU (md : Region.Mode) (ops : Array Oper) : LU → Array Bool → Bool
  | .done, listed => true
  | .one i t, listed => decide (Region.ready md ops (listed.setIfInBounds i true) = t.heads) && okU md ops t (listed.setIfInBounds i true)
  | .alt t u, listed => !t.heads.isEmpty && !u.heads.isEmpty && okU md ops t listed && okU md ops u listed
def loudU (P : Program) (l : List Oper) (C : World → Prop) (Q : Exit → Act → World → Prop) : LU → Act → World → Prop
  | .done, a, w => Q .normal a w
  | .one i t, a, w => wpList P l.toArray (then' Q C (loudU P l C Q t)) (pickl l [i]) a w
  | .alt t u, a, w => loudU P l C Q t a w ∧ loudU P l C Q u a w
section
variable {P : Program} {l : List Oper} {C : World → Prop} {Q : Exit → Act → World → Prop} {a : Act} {w : World}
theorem loudU_done (h : Q .normal a w) : loudU P l C Q .done a w := h
theorem loudU_one {i : Nat} {t : LU} (b : List Bool) (hb : pickl l [i] = sel b l) (h : wpList P l.toArray (then' Q C (loudU P l C Q t)) (sel b l) a w) : loudU P l C Q (.one i t) a w := by
  unfold loudU; rw [hb]; exact h
theorem loudU_alt {t u : LU} (h : loudU P l C Q t a w) (k : loudU P l C Q u a w) : loudU P l C Q (.alt t u) a w := ⟨h, k⟩
end
/-- What the head i of the tree asks. -/
theorem wpU_head {P : Program} {md : Region.Mode} {l : List Oper} {C : World → Prop} {Q' : Exit → Act → World → Prop} {f : Nat} {listed : Array Bool}
    (ih : ∀ (t : LU) (listed : Array Bool) (a : Act) (w : World), t.len ≤ f → Region.ready md l.toArray listed = t.heads → okU md l.toArray t listed = true → loudU P l C Q' t a w → wpAnyC P md l.toArray C Q' f listed a w) :
    ∀ (t : LU) (a : Act) (w : World), t.len ≤ f + 1 → okU md l.toArray t listed = true → loudU P l C Q' t a w → (∀ i ∈ t.heads, i ∈ Region.ready md l.toArray listed) →
      ∀ i ∈ t.heads, wpOp P l.toArray Q' i (fun a' w' => C w' ∧ wpAnyC P md l.toArray C Q' f (listed.setIfInBounds i true) a' w') a w
  | .done, a, w, hf, hB, h, hr, i, hi => by cases hi
  | .one j t, a, w, hf, hB, h, hr, i, hi => by
    obtain rfl : i = j := by simpa [LU.heads] using hi
    simp only [okU, Bool.and_eq_true, decide_eq_true_eq] at hB
    obtain ⟨_, o, ho, _⟩ := mem_ready.1 (hr i (by simp [LU.heads]))
    have ho' : l[i]? = some o := by simpa using ho
    exact wpOp_mono (fun a' w' h' => ⟨h'.1, ih t _ a' w' (by simp [LU.len] at hf; omega) hB.1 hB.2 h'.2⟩) (wpOp_pick ho' h)
  | .alt t u, a, w, hf, hB, h, hr, i, hi => by
    simp only [okU, Bool.and_eq_true] at hB
    simp only [LU.len] at hf
    rcases List.mem_append.1 hi with hi | hi
    · exact wpU_head ih t a w (by omega) hB.1.2 h.1 (fun k hk => hr k (List.mem_append_left _ hk)) i hi
    · exact wpU_head ih u a w (by omega) hB.2 h.2 (fun k hk => hr k (List.mem_append_right _ hk)) i hi
theorem loudU_end {P : Program} {md : Region.Mode} {l : List Oper} {C : World → Prop} {Q' : Exit → Act → World → Prop} : ∀ (t : LU) (listed : Array Bool) (a : Act) (w : World), t.heads = [] → okU md l.toArray t listed = true → loudU P l C Q' t a w → Q' .normal a w
  | .done, listed, a, w, _, _, h => h
  | .one i t, listed, a, w, hh, _, _ => by cases hh
  | .alt t u, listed, a, w, hh, hB, _ => by
    simp only [okU, Bool.and_eq_true] at hB
    simp only [LU.heads, List.append_eq_nil_iff] at hh
    rw [hh.1] at hB
    simp at hB
theorem wpAnyC_of_U {P : Program} {md : Region.Mode} {l : List Oper} {C : World → Prop} {Q' : Exit → Act → World → Prop} : ∀ (f : Nat) (t : LU) (listed : Array Bool) (a : Act) (w : World), t.len ≤ f →
    Region.ready md l.toArray listed = t.heads → okU md l.toArray t listed = true → loudU P l C Q' t a w → wpAnyC P md l.toArray C Q' f listed a w
  | 0, t, listed, a, w, hf, hr, hB, h => by
    have hh : t.heads = [] := by
      clear h hB hr
      induction t with
      | done => rfl
      | one i t ih => simp [LU.len] at hf
      | alt t u h1 h2 => simp only [LU.len] at hf; simp only [LU.heads]; rw [h1 (by omega), h2 (by omega)]; rfl
    exact ⟨by rw [hr, hh], loudU_end t listed a w hh hB h⟩
  | f + 1, t, listed, a, w, hf, hr, hB, h =>
    ⟨fun h0 => loudU_end t listed a w (by rw [← hr]; exact h0) hB h, fun i hi => by
      rw [hr] at hi
      exact wpU_head (fun t listed a w h1 h2 h3 h4 => wpAnyC_of_U f t listed a w h1 h2 h3 h4) t a w hf hB h (fun k hk => by rw [hr]; exact hk) i hi⟩
def okU0 (md : Region.Mode) (ops : Array Oper) (t : LU) (listed : Array Bool) : Bool := decide (Region.ready md ops listed = t.heads) && okU md ops t listed
def regU (l : List Oper) (qs : List Nat) (t : LU) (m : Nat) : Bool :=
  Region.noSelect l.toArray && ordC .any l.toArray (okU0 .any l.toArray t) qs (Array.replicate l.toArray.size false) &&
    dstB m (pickl l qs) && decide (qs.length + t.len = l.length) && qs.all (fun i => decide (i < l.length))
/-- **A region that draws its order: the operations qs read in every world of the family F, the others come as the tree t says.** -/
theorem wp_region_U {σ : Type} (F : σ → World) (s0 : σ) {P : Program} {id : Nat} {Q : Exit → Act → World → Prop} {a : Act} {W : World} {l : List Oper} (qs : List Nat) (t : LU) (bq : List Bool) (h0 : W.drew = F s0) (hsel' : pickl l qs = sel bq l)
    (hm : P.follows .mixedOrders = true) (hB : regU l qs t a.tmps.size = true) (hQ : ∀ c a d v w, Q (.panic c) (a.put d v) w → Q (.panic c) a w)
    (h : ∃ aE : Act, (∀ s : σ, wpQuiet P l.toArray (fun w' => w' = F s) (fun a' => a' = aE) (sel bq l) a) ∧
      loudU P l (fun w' => ∃ s, w' = F s) Q t aE W.drew) :
    (Code.region id l.toArray true).wp P Q a W := by
  rw [← hsel', h0] at h
  obtain ⟨aE, h1, h2⟩ := h
  simp only [regU, Bool.and_eq_true, decide_eq_true_eq] at hB
  obtain ⟨⟨⟨⟨hsel, hord⟩, hdst⟩, hlen⟩, hlt⟩ := hB
  refine wp_region_any hm ?_
  have H := C_all (P := P) (md := .any) (ops := l.toArray) (σ := σ) (Cl := fun s w' => w' = F s) (C := fun w' => ∃ s, w' = F s) (vs := slotOf l.toArray aE) (Q' := Q) (f := t.len) (E := okU0 .any l.toArray t)
    (T := fun a' w' => loudU P l (fun w' => ∃ s, w' = F s) Q t a' w')
    hsel (fun s w1 w2 h1 h2 => h1.trans h2.symm) (fun w' h => h) hQ (fun listed a' w' hE hT => by
      simp only [okU0, Bool.and_eq_true, decide_eq_true_eq] at hE
      exact wpAnyC_of_U _ t listed a' w' (Nat.le_refl _) hE.1 hE.2 hT) (F s0) ⟨s0, rfl⟩
    qs _ a hord (ord_of_quiet s0 h2 _ _ _ (pick_map l qs hlt) hdst h1)
  have := wpAny_of_C _ _ _ _ H
  rw [show qs.length + t.len = l.toArray.size by simpa using hlen] at this
  rw [← h0] at this
  exact this
end Go.Proofs.Ytlanghikmccmbaa
/- A region that draws its order: readers, a loud call, readers of its result, a loud call, .. : each loud one is the only one that may come up when it does (once the readers of its part are done); readers float. -/
namespace Go.Proofs.Ytlanghikmccmbaa
open Go.RowKit
set_option linter.unusedVariables false
set_option linter.unusedSimpArgs false
def chainC {σ : Type} (P : Program) (l : List Oper) (Q : Exit → Act → World → Prop) (F : σ → World) (m : Nat) (bE : List Bool) : List (List Bool × List Bool) → Act → World → Prop
  | [], a, w => a.tmps.size = m ∧ ∃ aE : Act, (∀ s : σ, wpQuiet P l.toArray (fun w' => w' = F s) (fun a' => a' = aE) (sel bE l) a) ∧ Q .normal aE w
  | (bq, bt) :: rest, a, w => a.tmps.size = m ∧ ∃ aE : Act, (∀ s : σ, wpQuiet P l.toArray (fun w' => w' = F s) (fun a' => a' = aE) (sel bq l) a) ∧ wpList P l.toArray (then' Q (fun w' => ∃ s, w' = F s) (chainC P l Q F m bE rest)) (sel bt l) aE w
def chainB (l : List Oper) (m : Nat) (qE : List Nat) : List (List Nat × Nat) → Array Bool → Bool
  | [], listed => ordC .any l.toArray (fun l2 => decide (Region.ready .any l.toArray l2 = [])) qE listed && dstB m (pickl l qE) && qE.all (fun i => decide (i < l.length))
  | (qs, t) :: rest, listed => ordC .any l.toArray (fun l2 => decide (Region.ready .any l.toArray l2 = [t]) && chainB l m qE rest (l2.setIfInBounds t true)) qs listed && dstB m (pickl l qs) && qs.all (fun i => decide (i < l.length))
def selOK (l : List Oper) : List (List Nat × Nat) → List (List Bool × List Bool) → Prop
  | [], [] => True
  | (qs, t) :: r, (bq, bt) :: r' => pickl l qs = sel bq l ∧ pickl l [t] = sel bt l ∧ selOK l r r'
  | _, _ => False
def chainN (qE : List Nat) : List (List Nat × Nat) → Nat
  | [] => qE.length
  | (qs, _) :: r => qs.length + (chainN qE r + 1)
end Go.Proofs.Ytlanghikmccmbaa
