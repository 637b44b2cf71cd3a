/- THE ENGINE, 20: regions that draw their order: by levels. -/
import Derived.Test.YtepdkcikkemieaaGreatEvS
import Derived.Test.YtepdkcikkemieaaGreatSemi
noncomputable section
namespace Go.Proofs.YtepdkcikkemieaaGreat
open Go.RowKit
set_option linter.unusedVariables false
set_option linter.unusedSimpArgs false
namespace Ev

/-! ### Equality of values, as a Bool -/
mutual
def beqV : Value → Value → Bool
  | .pointer a, .pointer b => a == b
  | .slice a n c, .slice b m d => a == b && n == m && c == d
  | .map a, .map b => a == b
  | .chan a, .chan b => a == b
  | .iface t v, .iface u w => t == u && beqV v w
  | .agg ⟨a⟩, .agg ⟨b⟩ => beqL a b
  | .tuple ⟨a⟩, .tuple ⟨b⟩ => beqL a b
  | .float k n, .float j m => k == j && n == m
  | .bool a, .bool b => a == b
  | .int k n, .int j m => k == j && n == m
  | .string a, .string b => a.data.toList == b.data.toList
  | .nilFunc, .nilFunc => true
  | .nilIface, .nilIface => true
  | _, _ => false
def beqL : List Value → List Value → Bool
  | [], [] => true
  | a :: l, b :: m => beqV a b && beqL l m
  | _, _ => false
end
mutual
theorem beqV_eq : ∀ (a b : Value), beqV a b = true → a = b
  | .pointer a, b, h => by cases b <;> simp [beqV] at h; rw [h]
  | .slice a n c, b, h => by cases b <;> simp [beqV] at h; obtain ⟨⟨rfl, rfl⟩, rfl⟩ := h; rfl
  | .map a, b, h => by cases b <;> simp [beqV] at h; rw [h]
  | .chan a, b, h => by cases b <;> simp [beqV] at h; rw [h]
  | .func fn p q, b, h => by cases b <;> simp [beqV] at h
  | .iface t v, b, h => by
    cases b <;> simp only [beqV] at h <;> try cases h
    simp only [Bool.and_eq_true, beq_iff_eq] at h
    rw [h.1, beqV_eq v _ h.2]
  | .agg ⟨p⟩, b, h => by
    cases b <;> simp only [beqV] at h <;> try cases h
    next c => obtain ⟨c⟩ := c; simp only [beqV] at h; rw [beqL_eq p c h]
  | .tuple ⟨p⟩, b, h => by
    cases b <;> simp only [beqV] at h <;> try cases h
    next c => obtain ⟨c⟩ := c; simp only [beqV] at h; rw [beqL_eq p c h]
  | .float k n, b, h => by cases b <;> simp [beqV] at h; rw [h.1, h.2]
  | .complex k n m, b, h => by cases b <;> simp [beqV] at h
  | .bool a, b, h => by cases b <;> simp [beqV] at h; rw [h]
  | .int k n, b, h => by cases b <;> simp [beqV] at h; rw [h.1, h.2]
  | .string a, b, h => by
    cases b <;> simp only [beqV] at h <;> try cases h
    next b =>
    obtain ⟨a⟩ := a; obtain ⟨b⟩ := b
    simp only [beq_iff_eq] at h
    have : a = b := Array.toList_inj.1 h
    rw [this]
  | .nilFunc, b, h => by cases b <;> simp [beqV] at h; rfl
  | .nilIface, b, h => by cases b <;> simp [beqV] at h; rfl
theorem beqL_eq : ∀ (a b : List Value), beqL a b = true → a = b
  | [], [], _ => rfl
  | [], _ :: _, h => by simp [beqL] at h
  | _ :: _, [], h => by simp [beqL] at h
  | x :: l, y :: m, h => by
    simp only [beqL, Bool.and_eq_true] at h
    rw [beqV_eq x y h.1, beqL_eq l m h.2]
end
def beqC : List (Option Value) → List (Option Value) → Bool
  | [], [] => true
  | none :: l, none :: m => beqC l m
  | some a :: l, some b :: m => beqV a b && beqC l m
  | _, _ => false
theorem beqC_eq : ∀ (a b : List (Option Value)), beqC a b = true → a = b
  | [], [], _ => rfl
  | none :: l, none :: m, h => by rw [beqC_eq l m (by simpa [beqC] using h)]
  | some a :: l, some b :: m, h => by simp only [beqC, Bool.and_eq_true] at h; rw [beqV_eq a b h.1, beqC_eq l m h.2]
  | [], _ :: _, h => by simp [beqC] at h
  | none :: _, [], h => by simp [beqC] at h
  | some _ :: _, [], h => by simp [beqC] at h
  | none :: _, some _ :: _, h => by simp [beqC] at h
  | some _ :: _, none :: _, h => by simp [beqC] at h
/-- Only what making operations make: cells, and empty maps. -/
def beqO : AObj → AObj → Bool
  | .cells l o m, .cells l' o' m' => beqC l l' && o == o' && m == m'
  | .map [] c, .map [] d => c == d
  | _, _ => false
theorem beqO_eq : ∀ (a b : AObj), beqO a b = true → a = b
  | .cells l o m, b, h => by
    cases b <;> simp only [beqO] at h <;> try cases h
    simp only [Bool.and_eq_true, beq_iff_eq] at h
    rw [beqC_eq _ _ h.1.1, h.1.2, h.2]
  | .map es c, b, h => by
    cases es <;> cases b <;> simp only [beqO] at h <;> try cases h
    next es d => cases es <;> simp [beqO] at h; rw [h]
  | .siter _ _, b, h => by cases b <;> simp [beqO] at h
  | .miter _ _ _ _, b, h => by cases b <;> simp [beqO] at h

/-! ### Plans -/
structure Lvl where
  ns : List Nat
  cs : List Nat
  e : Option Nat
def Lvl.ord (l : Lvl) : List Nat := l.ns ++ l.e.toList
abbrev Plan := List Lvl
def Plan.ord (p : Plan) : List Nat := p.flatMap Lvl.ord
/-- Bits of the operations that each one waits for. -/
def waits1 (m : List Nat) (o : Oper) : Nat := o.after.toList.foldl (fun s e => if Region.binds .any e && decide (e.on < m.length) then s ||| 2 ^ e.on ||| m.getD e.on 0 else s) 0
def waits : List Nat → List Oper → List Nat
  | m, [] => m
  | m, o :: l => waits (m ++ [waits1 m o]) l
def dep' (M : List Nat) (j i : Nat) : Bool := (M.getD j 0).testBit i
/-- What op j looks at or lays into is told apart from what op i lays into, or they wait for one another. -/
def hazB (ops : Array Oper) (M : List Nat) (i j : Nat) : Bool :=
  match ops.toList[i]?, ops.toList[j]? with
  | some oi, some oj => match oi.dst with
    | some d => i == j || (oj.dst != some d && (!(oj.looksAt ops).contains d || dep' M j i || dep' M i j))
    | none => true
  | _, _ => true
/-- Each level's checks: all of its own, and of those before that need not be done ahead of what opened the level. -/
def chkB (M : List Nat) : Plan → (before : List Nat) → (opened : Option Nat) → Bool
  | [], _, _ => true
  | l :: p, before, opened =>
    (l.ns.all fun i => l.cs.contains i) &&
    (match opened with
     | some e => (before.all fun i => dep' M e i || l.cs.contains i) && (l.ns.all fun i => dep' M i e) && (match l.e with | some e' => dep' M e' e | none => true)
     | none => before.isEmpty) &&
    (match l.e, p with
     | some _, _ :: _ => true
     | none, [] => true
     | _, _ => false) &&
    chkB M p (before ++ l.ns) l.e
/-- Each one stands behind those that it waits for. -/
def behindB (ops : Array Oper) : List Nat → List Nat → Bool
  | _, [] => true
  | done, i :: l => !done.contains i && decide (i < ops.size) && (match ops.toList[i]? with | some o => o.after.all fun e => !Region.binds .any e || done.contains e.on | none => false) && behindB ops (i :: done) l
def planOk (ops : Array Oper) (p : Plan) : Bool :=
  let M := waits [] ops.toList
  Region.noSelect ops && (List.range ops.size).all (fun i => p.ord.contains i) && behindB ops [] p.ord && chkB M p [] none && (List.range ops.size).all fun i => (List.range ops.size).all fun j => hazB ops M i j

/-! The same check, in fewer steps. -/
def memK (d : Nat) (l : List Nat) : Bool := @List.rec Nat (fun _ => Bool) false (fun x _ ih => @Bool.rec (fun _ => Bool) ih true (Nat.beq x d)) l
theorem memK_eq (d : Nat) : ∀ l, memK d l = true ↔ d ∈ l
  | [] => by simp [memK]
  | x :: l => by
    show (@Bool.rec (fun _ => Bool) (memK d l) true (Nat.beq x d)) = true ↔ _
    cases h : Nat.beq x d with
    | true => simp [Nat.eq_of_beq_eq_true h]
    | false =>
      have := Nat.ne_of_beq_eq_false h
      show memK d l = true ↔ _
      rw [memK_eq d l, List.mem_cons]
      constructor
      · exact .inr
      · rintro (rfl | h2)
        · exact absurd rfl this
        · exact h2
abbrev Dat := List (Option Nat × List Nat)
def depAny (M : List Nat) (i j : Nat) : Bool := @Bool.rec (fun _ => Bool) (dep' M i j) true (dep' M j i)
def pairK (M : List Nat) (i d j : Nat) (x : Option Nat × List Nat) : Bool :=
  @Bool.rec (fun _ => Bool) (@Bool.rec (fun _ => Bool) true (depAny M i j) (memK d x.2)) false (@Option.rec Nat (fun _ => Bool) false (fun e => Nat.beq e d) x.1)
def innerK (M : List Nat) (i d : Nat) (L : Dat) : Nat → Bool :=
  @List.rec (Option Nat × List Nat) (fun _ => Nat → Bool) (fun _ => true) (fun x _ ih j => @Bool.rec (fun _ => Bool) (@Bool.rec (fun _ => Bool) false (ih (Nat.succ j)) (pairK M i d j x)) (ih (Nat.succ j)) (Nat.beq i j)) L
def outerK (M : List Nat) (D : Dat) (L : Dat) : Nat → Bool :=
  @List.rec (Option Nat × List Nat) (fun _ => Nat → Bool) (fun _ => true) (fun x _ ih i => @Option.rec Nat (fun _ => Bool) (ih (Nat.succ i)) (fun d => @Bool.rec (fun _ => Bool) false (ih (Nat.succ i)) (innerK M i d D 0)) x.1) L
theorem pairK_ok {M : List Nat} {i d j : Nat} {x : Option Nat × List Nat} (h : pairK M i d j x = true) : x.1 ≠ some d ∧ (d ∈ x.2 → dep' M j i = true ∨ dep' M i j = true) := by
  unfold pairK at h
  obtain ⟨a, l⟩ := x
  cases ha : (@Option.rec Nat (fun _ => Bool) false (fun e => Nat.beq e d) a) with
  | true => simp only [ha] at h; cases h
  | false =>
    simp only [ha] at h
    refine ⟨fun e => ?_, fun hm => ?_⟩
    · have e : a = some d := e
      subst e
      have ha : Nat.beq d d = false := ha
      simp at ha
    · rw [(memK_eq d l).2 hm] at h
      have h : depAny M i j = true := h
      unfold depAny at h
      cases hd : dep' M j i with
      | true => exact .inl rfl
      | false => rw [hd] at h; exact .inr h
theorem innerK_ok {M : List Nat} {i d : Nat} : ∀ (L : Dat) (k : Nat), innerK M i d L k = true → ∀ m x, L[m]? = some x → i = k + m ∨ pairK M i d (k + m) x = true
  | [], k, _, m, x, hx => by simp at hx
  | y :: L, k, h, m, x, hx => by
    have h : (@Bool.rec (fun _ => Bool) (@Bool.rec (fun _ => Bool) false (innerK M i d L (k + 1)) (pairK M i d k y)) (innerK M i d L (k + 1)) (Nat.beq i k)) = true := h
    cases hb : Nat.beq i k with
    | true =>
      rw [hb] at h
      cases m with
      | zero => exact .inl (by simpa using Nat.eq_of_beq_eq_true hb)
      | succ m => have := innerK_ok L (k + 1) h m x (by simpa using hx); rw [Nat.add_right_comm] at this; exact this
    | false =>
      rw [hb] at h
      cases hp : pairK M i d k y with
      | false => rw [hp] at h; cases h
      | true =>
        rw [hp] at h
        cases m with
        | zero => simp at hx; subst hx; exact .inr hp
        | succ m => have := innerK_ok L (k + 1) h m x (by simpa using hx); rw [Nat.add_right_comm] at this; exact this
theorem outerK_ok {M : List Nat} {D : Dat} : ∀ (L : Dat) (k : Nat), outerK M D L k = true → ∀ m x d, L[m]? = some x → x.1 = some d → innerK M (k + m) d D 0 = true
  | [], k, _, m, x, d, hx, _ => by simp at hx
  | y :: L, k, h, m, x, d, hx, hd => by
    have h : (@Option.rec Nat (fun _ => Bool) (outerK M D L (k + 1)) (fun d => @Bool.rec (fun _ => Bool) false (outerK M D L (k + 1)) (innerK M k d D 0)) y.1) = true := h
    have rest : outerK M D L (k + 1) = true := by
      cases hy : y.1 with
      | none => rw [hy] at h; exact h
      | some e =>
        rw [hy] at h
        cases hi : innerK M k e D 0 with
        | false => simp only [hi] at h; cases h
        | true => simp only [hi] at h; exact h
    cases m with
    | zero =>
      simp at hx; subst hx
      rw [hd] at h
      cases hi : innerK M k d D 0 with
      | false => simp only [hi] at h; cases h
      | true => rfl
    | succ m => have := outerK_ok L (k + 1) rest m x d (by simpa using hx) hd; rw [Nat.add_right_comm] at this; exact this
def datOf (ops : Array Oper) : Dat := ops.toList.map fun o => (o.dst, (o.looksAt ops))
def planOkF (ops : Array Oper) (p : Plan) : Bool :=
  Region.noSelect ops && (List.range ops.size).all (fun i => p.ord.contains i) && behindB ops [] p.ord && chkB (waits [] ops.toList) p [] none && outerK (waits [] ops.toList) (datOf ops) (datOf ops) 0
theorem planOkF_ok {ops : Array Oper} {p : Plan} (h : planOkF ops p = true) : planOk ops p = true := by
  unfold planOkF at h
  unfold planOk
  simp only [Bool.and_eq_true] at h ⊢
  refine ⟨h.1, ?_⟩
  rw [List.all_eq_true]
  intro i hi
  rw [List.all_eq_true]
  intro j hj
  unfold hazB
  split
  · next oi oj h1 h2 =>
    cases hd : oi.dst with
    | none => rfl
    | some d =>
      have e1 : (datOf ops)[i]? = some (oi.dst, oi.looksAt ops) := by unfold datOf; rw [List.getElem?_map, h1]; rfl
      have e2 : (datOf ops)[j]? = some (oj.dst, oj.looksAt ops) := by unfold datOf; rw [List.getElem?_map, h2]; rfl
      have := outerK_ok _ 0 h.2 i _ d e1 hd
      rw [Nat.zero_add] at this
      rcases innerK_ok _ 0 this j _ e2 with h3 | h3
      · rw [Nat.zero_add] at h3; subst h3; simp
      · rw [Nat.zero_add] at h3
        obtain ⟨h4, h5⟩ := pairK_ok h3
        simp only [Bool.or_eq_true, Bool.and_eq_true, bne_iff_ne, Bool.not_eq_true', beq_iff_eq]
        refine .inr ⟨h4, ?_⟩
        by_cases hm : d ∈ oj.looksAt ops
        · rcases h5 hm with h6 | h6
          · exact .inl (.inr h6)
          · exact .inr h6
        · refine .inl (.inl ?_)
          simpa using hm
  · rfl
/-! ### A run by a plan: what each operation did is kept, the newest first -/
inductive Res where
  | still
  | read
  | made (id : Nat) (o : AObj)
  | eff
structure Ent where
  i : Nat
  T : Tr Value
  v : Value
  r : Res
  l : Nat
  H : Heap
  H' : Heap
structure PS where
  T : Tr Value
  H : Heap
  hist : List Ent
  l : Nat
def PS.did (nt : Nat) (s : PS) (o : Oper) (i : Nat) (v : Value) (r : Res) (l : Nat) (H' : Heap) : Option PS :=
  match putT nt s.T o.dst v with
  | some T' => some ⟨T', H', ⟨i, s.T, v, r, l, s.H, H'⟩ :: s.hist, l⟩
  | none => none
def stepN (P : Program) (nt : Nat) (ops : Array Oper) (s : PS) (i : Nat) : Option PS :=
  match ops.toList[i]? with
  | some o => match wantedV ops s.T o.guard with
    | some false => s.did nt o i undef .still s.l s.H
    | some true => match evP P (opV s.T) o.op with
      | some v => s.did nt o i v .still s.l s.H
      | none => match evRd P (opV s.T) s.H o.op with
        | some v => s.did nt o i v .read s.l s.H
        | none => match evN P (opV s.T) o.op with
          | some (ob, m) => match s.H.add ob with
            | some H' => s.did nt o i (m.val s.H.next) (.made s.H.next ob) s.l H'
            | none => none
          | none => none
    | none => none
  | none => none
def recheck (P : Program) (ops : Array Oper) (s : PS) (i : Nat) : Bool :=
  match s.hist.find? (fun e => e.i == i), ops.toList[i]? with
  | some e, some o => match e.r with
    | .read => match evRd P (opV e.T) s.H o.op with
      | some u => beqV u e.v
      | none => false
    | .made id ob => match s.H.get id with
      | some ob' => beqO ob' ob
      | none => false
    | _ => true
  | _, _ => false
def stepE (P : Program) (callF : Caller) (nt : Nat) (ops : Array Oper) (s : PS) (i : Nat) : Option PS :=
  match ops.toList[i]? with
  | some o => match wantedV ops s.T o.guard with
    | some false => s.did nt o i undef .eff (s.l + 1) s.H
    | some true => match runOp P callF (opV s.T) s.H o.op with
      | some (v, H') => s.did nt o i v .eff (s.l + 1) H'
      | none => none
    | none => none
  | none => none
def stepsN (P : Program) (nt : Nat) (ops : Array Oper) : List Nat → PS → Option PS
  | [], s => some s
  | i :: l, s => match stepN P nt ops s i with
    | some s' => stepsN P nt ops l s'
    | none => none
def runPlan (P : Program) (callF : Caller) (nt : Nat) (ops : Array Oper) : Plan → PS → Option PS
  | [], s => some s
  | l :: p, s => match stepsN P nt ops l.ns s with
    | some s1 => if l.cs.all (recheck P ops s1) then
        match l.e with
        | some e => match stepE P callF nt ops s1 e with
          | some s2 => runPlan P callF nt ops p s2
          | none => none
        | none => runPlan P callF nt ops p s1
      else none
    | none => none
end Ev
end Go.Proofs.YtepdkcikkemieaaGreat
