/- Appends to a row that lies beneath some pieces. -/
import Derived.Test.YtlanghikmccmbaaMC
import Derived.Test.YtlanghikmccmbaaME
import Derived.Test.YtlanghikmccmbaaMA
namespace Go.Proofs.Ytlanghikmccmbaa
open Go.RowKit
set_option linter.unusedVariables false
set_option linter.unusedSimpArgs false

/-- The piece m with the pieces D (newest first) behind it. -/
def mall (m : Array Obj) : List (Array Obj) → Array Obj
  | [] => m
  | d :: D => mall m D ++ d
theorem hp_mall (h m : Array Obj) (L : List (Array Obj)) : ∀ D, hp h (D ++ m :: L) = hp h (mall m D :: L)
  | [] => rfl
  | d :: D => by
    show hp h (D ++ m :: L) ++ d = hp h L ++ (mall m D ++ d)
    rw [hp_mall h m L D]
    exact Array.append_assoc ..
theorem wd_mall (w : World) (m : Array Obj) (L : List (Array Obj)) (n : Nat) (D : List (Array Obj)) : wd w (D ++ m :: L) n = wd w (mall m D :: L) n := world_ext (hp_mall _ _ _ _) rfl rfl rfl rfl
theorem sz_mall (B : Nat) (m : Array Obj) (L : List (Array Obj)) : ∀ D, sz B (shape (D ++ m :: L)) = sz B (shape (mall m D :: L))
  | [] => rfl
  | d :: D => by
    show sz B (shape (D ++ m :: L)) + d.size = sz B (shape L) + (mall m D ++ d).size
    rw [sz_mall B m L D, Array.size_append]
    show sz B (shape L) + (mall m D).size + d.size = _
    omega
theorem rowIn_mall {B : Nat} {S : List Nat} {m : Array Obj} {E : TypeId} {size : Nat} {v : Value} {n : Nat} {xs : List Value} (h : rowIn B S m E size v n xs) : ∀ D, rowIn B S (mall m D) E size v n xs
  | [] => h
  | d :: D => rowIn_more (rowIn_mall h D) d
theorem wd_mall1 (w : World) (c m : Array Obj) (L : List (Array Obj)) (n : Nat) (D : List (Array Obj)) : wd w (c :: (D ++ m :: L)) n = wd w (c :: mall m D :: L) n := by
  have h := hp_mall w.heap m L D
  exact world_ext (by show hp w.heap (D ++ m :: L) ++ c = hp w.heap (mall m D :: L) ++ c; rw [h]) rfl rfl rfl rfl
end Go.Proofs.Ytlanghikmccmbaa
/- batch: Get. -/
namespace Go.Proofs.Ytlanghikmccmbaa
open Go.ChangeShapes Go.WideShapes Go.ChangeAt Go.RowKit
set_option linter.unusedVariables false
set_option linter.unusedSimpArgs false

/-- A batch and an error, handed back. -/
structure BatRet (w w' : World) (x : Ending) (g : Bat × Int) : Prop where
  out : ∃ a cap, x = .returned (.tuple #[.agg #[.int .i64 g.1.base, .int .i64 g.1.count, .int .i64 g.1.producer, .int .i64 g.1.epoch, .int .i64 g.1.seq, .slice a g.1.recs.length cap], .int .i64 g.2]) ∧ RecsAt w' a g.1.recs ∧ More w w' ∧ From w.heap.size a g.1.recs
/-- An own reader's block. -/
abbrev rbk (v : Value) (e : Int) : Array Obj := #[.cells #[v, .int .i64 e] 123]
/-- An own reader upon its bytes' piece, with none to three pieces above. -/
structure OwnRd (w : World) (c : Array Obj) (L : List (Array Obj)) (p : Nat) (v0 : Value) (l : List UInt8) : Prop where
  r0 : ∀ n v e, Rdr (wd w (rbk v e :: c :: L) n) p v e
  r1 : ∀ x n v e, Rdr (wd w (x :: rbk v e :: c :: L) n) p v e
  r2 : ∀ x y n v e, Rdr (wd w (x :: y :: rbk v e :: c :: L) n) p v e
  r3 : ∀ x y z n v e, Rdr (wd w (x :: y :: z :: rbk v e :: c :: L) n) p v e
  r4 : ∀ x y z t n v e, Rdr (wd w (x :: y :: z :: t :: rbk v e :: c :: L) n) p v e
  b0 : ∀ n v e v' l', (∀ W0, RB W0 v0 l → RB W0 v' l') → RB (wd w (rbk v e :: c :: L) n) v' l'
  b1 : ∀ x n v e v' l', (∀ W0, RB W0 v0 l → RB W0 v' l') → RB (wd w (x :: rbk v e :: c :: L) n) v' l'
  b2 : ∀ x y n v e v' l', (∀ W0, RB W0 v0 l → RB W0 v' l') → RB (wd w (x :: y :: rbk v e :: c :: L) n) v' l'
  b3 : ∀ x y z n v e v' l', (∀ W0, RB W0 v0 l → RB W0 v' l') → RB (wd w (x :: y :: z :: rbk v e :: c :: L) n) v' l'
  b4 : ∀ x y z t n v e v' l', (∀ W0, RB W0 v0 l → RB W0 v' l') → RB (wd w (x :: y :: z :: t :: rbk v e :: c :: L) n) v' l'
end Go.Proofs.Ytlanghikmccmbaa
/- As XMix, but behind the LAST operation, which waits for all the others, the class is not asked. -/
namespace Go.Proofs.Ytlanghikmccmbaa
open Go.RowKit
set_option linter.unusedVariables false
set_option linter.unusedSimpArgs false

section
variable {P : Program} {ops : Array Oper} {md : Region.Mode} {σ : Type} {Cl : σ → World → Prop} {C : World → Prop} {vs : Nat → Value} {Q' : Exit → Act → World → Prop}
def wpAnyD (P : Program) (md : Region.Mode) (ops : Array Oper) (C : World → Prop) (t : Nat) (Q' : Exit → Act → World → Prop) : Nat → Array Bool → Act → World → Prop
  | 0, listed, a, w => Region.ready md ops listed = [] ∧ Q' .normal a w
  | f + 1, listed, a, w => (Region.ready md ops listed = [] → Q' .normal a w) ∧ ∀ i ∈ Region.ready md ops listed, wpOp P ops Q' i (fun a' w' => (i ≠ t → C w') ∧ wpAnyD P md ops C t Q' f (listed.setIfInBounds i true) a' w') a w
end
def loudR (P : Program) (ops : Array Oper) (C : World → Prop) (Q : Exit → Act → World → Prop) (R : Act → World → Prop) : List Oper → Act → World → Prop
  | [], a, w => R a w
  | o :: rest, a, w => wpList P ops (then' Q C (loudR P ops C Q R rest)) [o] a w
/-- The last one waits for each of these. -/
def lastB (l : List Oper) (t : Nat) (qs : List Nat) : Bool :=
  match l[t]? with
  | some o => qs.all (fun i => decide (i ≠ t) && o.after.any (fun e => Region.binds .any e && decide (e.on = i)))
  | none => false
end Go.Proofs.Ytlanghikmccmbaa
/- A region that draws its order: readers, one loud operation (a call whose result is not known ahead), and readers of its result. -/
namespace Go.Proofs.Ytlanghikmccmbaa
open Go.RowKit
set_option linter.unusedVariables false
set_option linter.unusedSimpArgs false

theorem wpAnyC_mono {P : Program} {md : Region.Mode} {ops : Array Oper} {C C' : World → Prop} {Q' : Exit → Act → World → Prop} (hCC : ∀ w, C' w → C w) : ∀ (f : Nat) (listed : Array Bool) (a : Act) (w : World), wpAnyC P md ops C' Q' f listed a w → wpAnyC P md ops C Q' f listed a w
  | 0, _, _, _, h => h
  | f + 1, _, _, _, h => ⟨h.1, fun i hi => wpOp_mono (fun a' w' h' => ⟨hCC _ h'.1, wpAnyC_mono hCC f _ a' w' h'.2⟩) (h.2 i hi)⟩
/-- Behind the loud one: what is left reads. -/
def after (P : Program) (l : List Oper) (Q : Exit → Act → World → Prop) (b2 : List Bool) (m : Nat) (a : Act) (w : World) : Prop :=
  a.tmps.size = m ∧ ∃ aF : Act, wpQuiet P l.toArray (fun w'' => w'' = w) (fun a'' => a'' = aF) (sel b2 l) a ∧ Q .normal aF w
theorem after_of {P : Program} {l : List Oper} {Q : Exit → Act → World → Prop} {b2 : List Bool} {m : Nat} {a : Act} {w : World} (h1 : a.tmps.size = m) (h : ∃ aF : Act, wpQuiet P l.toArray (fun w'' => w'' = w) (fun a'' => a'' = aF) (sel b2 l) a ∧ Q .normal aF w) : after P l Q b2 m a w := ⟨h1, h⟩
def regA (l : List Oper) (qs1 : List Nat) (t : Nat) (qs2 : List Nat) (m0 m : Nat) : Bool :=
  Region.noSelect l.toArray && ordC .any l.toArray (fun listed => decide (Region.ready .any l.toArray listed = [t]) && ordC .any l.toArray (fun l2 => decide (Region.ready .any l.toArray l2 = [])) qs2 (listed.setIfInBounds t true)) qs1 (Array.replicate l.toArray.size false) &&
    dstB m0 (pickl l qs1) && dstB m (pickl l qs2) && decide (qs1.length + (qs2.length + 1) = l.length) && qs1.all (fun i => decide (i < l.length)) && qs2.all (fun i => decide (i < l.length))
theorem wp_region_call {σ : Type} (F : σ → World) (s0 : σ) {P : Program} {id : Nat} {Q : Exit → Act → World → Prop} {a : Act} {W : World} {l : List Oper} (qs1 : List Nat) (t : Nat) (qs2 : List Nat) (bq bt b2 : List Bool) (h0 : W.drew = F s0)
    (hsel' : pickl l qs1 = sel bq l ∧ pickl l [t] = sel bt l ∧ pickl l qs2 = sel b2 l)
    (hm : P.follows .mixedOrders = true) (hB : regA l qs1 t qs2 a.tmps.size a.tmps.size = true) (hQ : ∀ c a d v w, Q (.panic c) (a.put d v) w → Q (.panic c) a w)
    (h : ∃ aE : Act, (∀ s : σ, wpQuiet P l.toArray (fun w' => w' = F s) (fun a' => a' = aE) (sel bq l) a) ∧
      wpList P l.toArray (then' Q (fun w' => ∃ s, w' = F s) (after P l Q b2 a.tmps.size)) (sel bt l) aE (F s0)) :
    (Code.region id l.toArray true).wp P Q a W := by
  rw [← hsel'.1, ← hsel'.2.1] at h
  obtain ⟨aE, h1, h2⟩ := h
  simp only [regA, Bool.and_eq_true, decide_eq_true_eq] at hB
  obtain ⟨⟨⟨⟨⟨⟨hsel, hord⟩, hdst⟩, hdst2⟩, hlen⟩, hlt⟩, hlt2⟩ := hB
  refine wp_region_any hm ?_
  have H := C_all (P := P) (md := .any) (ops := l.toArray) (σ := σ) (Cl := fun s w' => w' = F s) (C := fun w' => ∃ s, w' = F s) (vs := slotOf l.toArray aE) (Q' := Q) (f := qs2.length + 1)
    (E := fun listed => decide (Region.ready .any l.toArray listed = [t]) && ordC .any l.toArray (fun l2 => decide (Region.ready .any l.toArray l2 = [])) qs2 (listed.setIfInBounds t true))
    (T := fun a' w' => wpList P l.toArray (then' Q (fun w' => ∃ s, w' = F s) (after P l Q b2 a.tmps.size)) (pickl l [t]) a' w')
    hsel (fun s w1 w2 h1 h2 => h1.trans h2.symm) (fun w' h => h) hQ ?_ (F s0) ⟨s0, rfl⟩
    qs1 _ a hord (ord_of_quiet s0 h2 _ _ _ (pick_map l qs1 hlt) hdst h1)
  · have := wpAny_of_C _ _ _ _ H
    rw [show qs1.length + (qs2.length + 1) = l.toArray.size by simpa using hlen] at this
    rw [← h0] at this
    exact this
  · intro listed a' w' hE hT
    simp only [Bool.and_eq_true, decide_eq_true_eq] at hE
    obtain ⟨hr, ho2⟩ := hE
    have ht : t ∈ Region.ready .any l.toArray listed := by rw [hr]; simp
    obtain ⟨_, o, ho, _⟩ := mem_ready.1 ht
    have ho' : l[t]? = some o := by simpa using ho
    refine ⟨fun h1 => (by rw [hr] at h1; cases h1), fun i hi => ?_⟩
    rw [hr] at hi
    obtain rfl : i = t := by simpa using hi
    refine wpOp_mono (fun a2 w2 h' => ⟨h'.1, ?_⟩) (wpOp_pick ho' hT)
    obtain ⟨hC, hsz, aF, hq, hQn⟩ := h'
    refine wpAnyC_mono (C' := fun w3 => w3 = w2) (fun w3 h => by rw [h]; exact hC) _ _ _ _ ?_
    have H2 := C_all (P := P) (md := .any) (ops := l.toArray) (σ := Unit) (Cl := fun _ w3 => w3 = w2) (C := fun w3 => w3 = w2) (vs := slotOf l.toArray aF) (Q' := Q) (f := 0)
      (E := fun l2 => decide (Region.ready .any l.toArray l2 = [])) (T := fun a3 w3 => Q .normal a3 w3)
      hsel (fun s w1 w2 h1 h2 => h1.trans h2.symm) (fun w3 h => ⟨(), h⟩) hQ (fun l2 a3 w3 hE hT => ⟨by simpa using hE, hT⟩) w2 rfl
      qs2 _ a2 ho2 (ord_of_quiet () hQn _ _ _ (pick_map l qs2 hlt2) (by rw [hsz]; exact hdst2) (fun _ => by rw [hsel'.2.2]; exact hq))
    exact H2
def afterm (P : Program) (l : List Oper) (Q : Exit → Act → World → Prop) (C : World → Prop) (b2 : List Bool) (a : Act) (w : World) : Prop :=
  ∃ C' : World → Prop, C' w ∧ (∀ w', C' w' → C w') ∧ wpQuiet P l.toArray C' (fun a'' => ∀ w'', C' w'' → Q .normal a'' w'') (sel b2 l) a
def regM (l : List Oper) (qs1 : List Nat) (t : Nat) (qs2 : List Nat) (m0 : Nat) : Bool :=
  Region.noSelect l.toArray && ordC .any l.toArray (fun listed => decide (Region.ready .any l.toArray listed = [t]) && ordC .any l.toArray (fun l2 => decide (Region.ready .any l.toArray l2 = [])) qs2 (listed.setIfInBounds t true)) qs1 (Array.replicate l.toArray.size false) &&
    dstB m0 (pickl l qs1) && decide (qs1.length + (qs2.length + 1) = l.length) && qs1.all (fun i => decide (i < l.length)) && qs2.all (fun i => decide (i < l.length))
end Go.Proofs.Ytlanghikmccmbaa
/- A region that draws its order, as XMix2, but with any number of branches: the orders are a tree of 'one' and 'alt'. -/
namespace Go.Proofs.Ytlanghikmccmbaa
open Go.RowKit
set_option linter.unusedVariables false
set_option linter.unusedSimpArgs false

/-- The orders in which the loud ones may come. -/
inductive LU where
  | done : LU
  | one (i : Nat) (t : LU) : LU
  | alt (t u : LU) : LU
def LU.len : LU → Nat
  | .done => 0
  | .one _ t => t.len + 1
  | .alt t u => max t.len u.len
def LU.heads : LU → List Nat
  | .done => []
  | .one i _ => [i]
  | .alt t u => t.heads ++ u.heads
def okU (md : Region.Mode) (ops : Array Oper) : LU → Array Bool → Bool
  | .done, listed => true
  | .one i t, listed => decide (Region.ready md ops (listed.setIfInBounds i true) = t.heads) && okU md ops t (listed.setIfInBounds i true)
  | .alt t u, listed => !t.heads.isEmpty && !u.heads.isEmpty && okU md ops t listed && okU md ops u listed
def loudU (P : Program) (l : List Oper) (C : World → Prop) (Q : Exit → Act → World → Prop) : LU → Act → World → Prop
  | .done, a, w => Q .normal a w
  | .one i t, a, w => wpList P l.toArray (then' Q C (loudU P l C Q t)) (pickl l [i]) a w
  | .alt t u, a, w => loudU P l C Q t a w ∧ loudU P l C Q u a w
section
variable {P : Program} {l : List Oper} {C : World → Prop} {Q : Exit → Act → World → Prop} {a : Act} {w : World}
end
def okU0 (md : Region.Mode) (ops : Array Oper) (t : LU) (listed : Array Bool) : Bool := decide (Region.ready md ops listed = t.heads) && okU md ops t listed
def regU (l : List Oper) (qs : List Nat) (t : LU) (m : Nat) : Bool :=
  Region.noSelect l.toArray && ordC .any l.toArray (okU0 .any l.toArray t) qs (Array.replicate l.toArray.size false) &&
    dstB m (pickl l qs) && decide (qs.length + t.len = l.length) && qs.all (fun i => decide (i < l.length))
end Go.Proofs.Ytlanghikmccmbaa
/- A region that draws its order: readers, a loud call, readers of its result, a loud call, .. : each loud one is the only one that may come up when it does (once the readers of its part are done); readers float. -/
namespace Go.Proofs.Ytlanghikmccmbaa
open Go.RowKit
set_option linter.unusedVariables false
set_option linter.unusedSimpArgs false
def chainC {σ : Type} (P : Program) (l : List Oper) (Q : Exit → Act → World → Prop) (F : σ → World) (m : Nat) (bE : List Bool) : List (List Bool × List Bool) → Act → World → Prop
  | [], a, w => a.tmps.size = m ∧ ∃ aE : Act, (∀ s : σ, wpQuiet P l.toArray (fun w' => w' = F s) (fun a' => a' = aE) (sel bE l) a) ∧ Q .normal aE w
  | (bq, bt) :: rest, a, w => a.tmps.size = m ∧ ∃ aE : Act, (∀ s : σ, wpQuiet P l.toArray (fun w' => w' = F s) (fun a' => a' = aE) (sel bq l) a) ∧ wpList P l.toArray (then' Q (fun w' => ∃ s, w' = F s) (chainC P l Q F m bE rest)) (sel bt l) aE w
def chainB (l : List Oper) (m : Nat) (qE : List Nat) : List (List Nat × Nat) → Array Bool → Bool
  | [], listed => ordC .any l.toArray (fun l2 => decide (Region.ready .any l.toArray l2 = [])) qE listed && dstB m (pickl l qE) && qE.all (fun i => decide (i < l.length))
  | (qs, t) :: rest, listed => ordC .any l.toArray (fun l2 => decide (Region.ready .any l.toArray l2 = [t]) && chainB l m qE rest (l2.setIfInBounds t true)) qs listed && dstB m (pickl l qs) && qs.all (fun i => decide (i < l.length))
def selOK (l : List Oper) : List (List Nat × Nat) → List (List Bool × List Bool) → Prop
  | [], [] => True
  | (qs, t) :: r, (bq, bt) :: r' => pickl l qs = sel bq l ∧ pickl l [t] = sel bt l ∧ selOK l r r'
  | _, _ => False
def chainN (qE : List Nat) : List (List Nat × Nat) → Nat
  | [] => qE.length
  | (qs, _) :: r => qs.length + (chainN qE r + 1)
end Go.Proofs.Ytlanghikmccmbaa
