/- THE ENGINE, 18 a: operations, in few steps for the kernel. (Printed by gen/ewa.py.) -/
import Derived.Test.YtifoekadjnlhcaaGreatDoorEE
import Derived.OrdersIn
import Derived.RangeFuncNested
import Derived.Test.YtifoekadjnlhcaaGreatDoorMA
noncomputable section
namespace Go.Proofs.YtifoekadjnlhcaaGreatDoor
open Go.RowKit
set_option linter.unusedVariables false
set_option linter.unusedSimpArgs false
namespace Ev
abbrev OV := Option Value
abbrev OH := Option (Value × Heap)
def bindV (o : OV) (k : Value → OV) : OV := @Option.rec Value (fun _ => OV) none k o
def ptrO : Value → Option Addr := @Value.rec (fun _ => Option Addr) (fun _ => Unit) (fun _ => Unit) (fun _ => none) (fun _ _ => none) (fun _ _ => none) (fun _ _ _ => none) (fun _ => none) (fun a => a) (fun _ _ _ => none) (fun _ => none) (fun _ => none) (fun _ _ _ _ _ => none) (none) (fun _ _ _ => none) (none) (fun _ _ => none) (fun _ _ => none) (fun _ _ => ()) () (fun _ _ _ _ => ())
theorem ptrO_some {v : Value} {a : Addr} (h : ptrO v = some a) : v = .pointer (some a) := by
  cases v <;> try (exact absurd h (by show ¬ none = some a; simp))
  next p => exact congrArg Value.pointer h
def addK (a : Addr) (n : Nat) : Addr := @Nat.rec (fun _ => Addr) a (fun m _ => ⟨a.block, Nat.add a.off (Nat.succ m), none⟩) n
theorem addK_eq (a : Addr) (n : Nat) : addK a n = a.add n := by
  cases n with
  | zero => rfl
  | succ m => unfold Addr.add; rw [if_neg (by omega)]; rfl
def fieldOff (P : Program) (s : TypeId) (f : Nat) : Option Nat :=
  match P.underlying s with
  | some (.struct fs) => match fs.toList[f]? with
    | some fd => match tSize P fd.type with
      | some (_ + 1) => some fd.offset
      | _ => none
    | none => none
  | _ => none
def fieldF (P : Program) (s : TypeId) (x : Value) (f : Nat) : OV :=
  @Option.rec Nat (fun _ => OV) none (fun off => @Option.rec Addr (fun _ => OV) none (fun a => some (.pointer (some (addK a off)))) (ptrO x)) (fieldOff P s f)
theorem fieldF_eq (P : Program) (s : TypeId) (x : Value) (f : Nat) : fieldF P s x f = fieldAddrV P s x f := by
  unfold fieldF fieldAddrV fieldOff
  cases hu : P.underlying s with
  | none => rfl
  | some d =>
    cases d <;> try rfl
    next fs =>
    simp only []
    cases hp : ptrO x with
    | none =>
      have h1 : ∀ off : Option Nat, (@Option.rec Nat (fun _ => OV) none (fun off => @Option.rec Addr (fun _ => OV) none (fun a => some (.pointer (some (addK a off)))) (none : Option Addr)) off) = none := fun o => by cases o <;> rfl
      rw [h1]
      cases x <;> try rfl
      next p => cases p with
        | none => rfl
        | some a => exact absurd hp (by show ¬ some a = none; simp)
    | some a =>
      rw [ptrO_some hp]
      simp only []
      cases fs.toList[f]? with
      | none => rfl
      | some fd =>
        simp only []
        cases tSize P fd.type with
        | none => rfl
        | some n => cases n with
          | zero => rfl
          | succ n => show some (Value.pointer (some (addK a fd.offset))) = _; rw [addK_eq]
def ixN : Value → Option Nat := @Value.rec (fun _ => Option Nat) (fun _ => Unit) (fun _ => Unit) (fun _ => none) (fun _ n => @Int.rec (fun _ => Option Nat) (fun m => some m) (fun _ => none) n) (fun _ _ => none) (fun _ _ _ => none) (fun _ => none) (fun _ => none) (fun _ _ _ => none) (fun _ => none) (fun _ => none) (fun _ _ _ _ _ => none) (none) (fun _ _ _ => none) (none) (fun _ _ => none) (fun _ _ => none) (fun _ _ => ()) () (fun _ _ _ _ => ())
theorem ixN_some {v : Value} {m : Nat} (h : ixN v = some m) : ∃ k, v = .int k (.ofNat m) := by
  cases v <;> try (exact absurd h (by show ¬ none = some m; simp))
  next k n => cases n with
    | ofNat j => exact ⟨k, congrArg (fun x => Value.int k (.ofNat x)) (Option.some.inj h)⟩
    | negSucc j => exact absurd h (by show ¬ none = some m; simp)
def slcO : Value → Option (Option Addr × Nat) := @Value.rec (fun _ => Option (Option Addr × Nat)) (fun _ => Unit) (fun _ => Unit) (fun _ => none) (fun _ _ => none) (fun _ _ => none) (fun _ _ _ => none) (fun _ => none) (fun _ => none) (fun a n _ => some (a, n)) (fun _ => none) (fun _ => none) (fun _ _ _ _ _ => none) (none) (fun _ _ _ => none) (none) (fun _ _ => none) (fun _ _ => none) (fun _ _ => ()) () (fun _ _ _ _ => ())
theorem slcO_some {v : Value} {a : Option Addr} {n : Nat} (h : slcO v = some (a, n)) : ∃ c, v = .slice a n c := by
  cases v <;> try (exact absurd h (by show ¬ none = some (a, n); simp))
  next a' n' c =>
    have h : some (a', n') = some (a, n) := h
    cases h; exact ⟨c, rfl⟩
def idxOf (P : Program) (t : TypeId) : Option (Option Nat × Nat) :=
  match P.underlying t with
  | some (.array n e) => match tSize P e with | some sz => some (some n, sz) | none => none
  | some (.slice e) => match tSize P e with | some sz => some (none, sz) | none => none
  | _ => none
def inB (b : Bool) (o : OV) : OV := @Bool.rec (fun _ => OV) none o b
def arrAt (x : Value) (i sz n : Nat) : OV := @Option.rec Addr (fun _ => OV) none (fun a => inB (Nat.ble (Nat.succ i) n) (some (.pointer (some (addK a (Nat.mul i sz)))))) (ptrO x)
def slcAt (x : Value) (i sz : Nat) : OV := @Option.rec (Option Addr × Nat) (fun _ => OV) none (fun p => @Option.rec Addr (fun _ => OV) none (fun a => @Option.rec Nat (fun _ => OV) (inB (Nat.ble (Nat.succ i) p.2) (some (.pointer (some (addK a (Nat.mul i sz)))))) (fun _ => none) a.spot) p.1) (slcO x)
def indexF (P : Program) (t : TypeId) (x ix : Value) : OV :=
  @Option.rec (Option Nat × Nat) (fun _ => OV) none (fun p => @Option.rec Nat (fun _ => OV) none (fun i => @Option.rec Nat (fun _ => OV) (slcAt x i p.2) (fun n => arrAt x i p.2 n) p.1) (ixN ix)) (idxOf P t)
theorem inB_some {b : Bool} {o : OV} {v : Value} (h : inB b o = some v) : b = true ∧ o = some v := by
  cases b with
  | false => cases h
  | true => exact ⟨rfl, h⟩
theorem indexF_ok {P : Program} {t : TypeId} {x ix v : Value} (h : indexF P t x ix = some v) : indexAddrV P t x ix = some v := by
  unfold indexF at h
  cases hi : idxOf P t with
  | none => rw [hi] at h; cases h
  | some p =>
    obtain ⟨q, sz⟩ := p
    rw [hi] at h
    cases hx : ixN ix with
    | none => rw [hx] at h; cases h
    | some i =>
      rw [hx] at h
      obtain ⟨k, rfl⟩ := ixN_some hx
      unfold indexAddrV
      unfold idxOf at hi
      cases hu : P.underlying t with
      | none => rw [hu] at hi; cases hi
      | some d =>
        rw [hu] at hi
        cases d <;> try (cases hi; done)
        next e =>
          simp only [] at hi
          cases hs : tSize P e with
          | none => rw [hs] at hi; cases hi
          | some z =>
            rw [hs] at hi; cases hi
            have h : slcAt x i sz = some v := h
            unfold slcAt at h
            cases hc : slcO x with
            | none => rw [hc] at h; cases h
            | some p =>
              obtain ⟨a, n⟩ := p
              rw [hc] at h
              obtain ⟨c, rfl⟩ := slcO_some hc
              cases a with
              | none => cases h
              | some a =>
                have h : (@Option.rec Nat (fun _ => OV) (inB (Nat.ble (Nat.succ i) n) (some (.pointer (some (addK a (Nat.mul i sz)))))) (fun _ => none) a.spot) = some v := h
                cases hsp : a.spot with
                | some s => rw [hsp] at h; cases h
                | none =>
                  rw [hsp] at h
                  obtain ⟨h1, h2⟩ := inB_some h
                  have h1 := Nat.le_of_ble_eq_true h1
                  simp only [hs, hsp]
                  rw [if_pos ⟨rfl, Int.natCast_nonneg i, Int.ofNat_lt.2 h1⟩, ← h2, addK_eq]; rfl
        next n e =>
          simp only [] at hi
          cases hs : tSize P e with
          | none => rw [hs] at hi; cases hi
          | some z =>
            rw [hs] at hi; cases hi
            have h : arrAt x i sz n = some v := h
            unfold arrAt at h
            cases hc : ptrO x with
            | none => rw [hc] at h; cases h
            | some a =>
              rw [hc] at h
              rw [ptrO_some hc]
              obtain ⟨h1, h2⟩ := inB_some h
              have h1 := Nat.le_of_ble_eq_true h1
              simp only [hs]
              rw [if_pos ⟨Int.natCast_nonneg i, Int.ofNat_lt.2 h1⟩, ← h2, addK_eq]; rfl
def indexK (P : Program) (t : TypeId) (x ix : Value) : OV := @Option.rec Value (fun _ => OV) (indexAddrV P t x ix) (fun v => some v) (indexF P t x ix)
theorem indexK_eq (P : Program) (t : TypeId) (x ix : Value) : indexK P t x ix = indexAddrV P t x ix := by
  unfold indexK
  cases h : indexF P t x ix with
  | none => rfl
  | some v => exact (indexF_ok h).symm
def oneF (o : Option (List Value)) : OV := @Option.rec (List Value) (fun _ => OV) none (fun l => @List.rec Value (fun _ => OV) none (fun v r _ => @List.rec Value (fun _ => OV) (some v) (fun _ _ _ => none) r) l) o
def aggF (P : Program) (H : Heap) (t : TypeId) (a : Addr) : OV := @Option.rec Nat (fun _ => OV) none (fun n => @Option.rec (List Value) (fun _ => OV) none (fun l => some (.agg ⟨l⟩)) (H.load a.block a.off n)) (tSize P t)
def loadF (P : Program) (H : Heap) (t : TypeId) (v : Value) : OV :=
  @Option.rec Addr (fun _ => OV) none (fun a => @Option.rec Bool (fun _ => OV) none (fun g => @Bool.rec (fun _ => OV) (oneF (H.load a.block a.off 1)) (aggF P H t a) g) (tAgg P t)) (ptrO v)
theorem loadF_eq (P : Program) (H : Heap) (t : TypeId) (v : Value) : loadF P H t v = loadV P H t v := by
  unfold loadF
  cases hp : ptrO v with
  | none =>
    unfold loadV
    cases v <;> try rfl
    next p => cases p with
      | none => rfl
      | some a => exact absurd hp (by show ¬ some a = none; simp)
  | some a =>
    rw [ptrO_some hp]
    unfold loadV
    simp only []
    cases tAgg P t with
    | none => rfl
    | some g => cases g with
      | true =>
        show aggF P H t a = _
        unfold aggF
        cases tSize P t with
        | none => rfl
        | some n =>
          show (@Option.rec (List Value) (fun _ => OV) none (fun l => some (.agg ⟨l⟩)) (H.load a.block a.off n)) = (H.load a.block a.off n).map _
          cases H.load a.block a.off n <;> rfl
      | false =>
        show oneF (H.load a.block a.off 1) = _
        simp only []
        cases H.load a.block a.off 1 with
        | none => rfl
        | some l => cases l with
          | nil => rfl
          | cons u r => cases r <;> rfl
def cellsD : Value → Value → List Value := @Value.rec (fun _ => Value → List Value) (fun _ => Unit) (fun _ => Unit) (fun _ => fun w => [w]) (fun _ _ => fun w => [w]) (fun _ _ => fun w => [w]) (fun _ _ _ => fun w => [w]) (fun _ => fun w => [w]) (fun _ => fun w => [w]) (fun _ _ _ => fun w => [w]) (fun _ => fun w => [w]) (fun _ => fun w => [w]) (fun _ _ _ _ _ => fun w => [w]) (fun w => [w]) (fun _ _ _ => fun w => [w]) (fun w => [w]) (fun c _ _ => c.toList) (fun _ _ => fun w => [w]) (fun _ _ => ()) () (fun _ _ _ _ => ())
def cellsF (v : Value) : List Value := cellsD v v
theorem cellsF_eq (v : Value) : cellsF v = cellsL v := by cases v <;> first | rfl
def oneD : Value → Bool := @Value.rec (fun _ => Bool) (fun _ => Unit) (fun _ => Unit) (fun _ => true) (fun _ _ => true) (fun _ _ => true) (fun _ _ _ => true) (fun _ => true) (fun _ => true) (fun _ _ _ => true) (fun _ => true) (fun _ => true) (fun _ _ _ _ _ => true) (true) (fun _ _ _ => true) (true) (fun _ _ => false) (fun _ _ => false) (fun _ _ => ()) () (fun _ _ _ _ => ())
theorem oneD_eq (v : Value) : oneD v = oneCell v := by cases v <;> rfl
def sizedF (n : Nat) : List Value → Bool :=
  @Nat.rec (fun _ => List Value → Bool) (fun l => @List.rec Value (fun _ => Bool) true (fun _ _ _ => false) l) (fun _ ih l => @List.rec Value (fun _ => Bool) false (fun v r _ => @Bool.rec (fun _ => Bool) false (ih r) (oneD v)) l) n
theorem sizedF_eq : ∀ (n : Nat) (l : List Value), sizedF n l = sizedK n l
  | 0, [] => rfl
  | 0, _ :: _ => rfl
  | n + 1, [] => rfl
  | n + 1, v :: r => by
    show (@Bool.rec (fun _ => Bool) false (sizedF n r) (oneD v)) = (@Bool.rec (fun _ => Bool) false (sizedK n r) (oneCell v))
    rw [sizedF_eq n r, oneD_eq]
def putF (H : Heap) (ad : Addr) (cs : List Value) : OH := @Option.rec Heap (fun _ => OH) none (fun H' => some (undef, H')) (H.store ad.block ad.off cs)
def storeF (P : Program) (H : Heap) (t : TypeId) (a v : Value) : OH :=
  @Option.rec Addr (fun _ => OH) none (fun ad => @Option.rec Nat (fun _ => OH) none (fun n => @Bool.rec (fun _ => OH) none (putF H ad (cellsF v)) (sizedF n (cellsF v))) (tSize P t)) (ptrO a)
theorem storeF_eq (P : Program) (H : Heap) (t : TypeId) (a v : Value) : storeF P H t a v = storeV P H t a v := by
  unfold storeF
  rw [cellsF_eq]
  cases hp : ptrO a with
  | none =>
    unfold storeV
    cases a <;> try rfl
    next p => cases p with
      | none => rfl
      | some a => exact absurd hp (by show ¬ some a = none; simp)
  | some ad =>
    rw [ptrO_some hp]
    unfold storeV
    simp only []
    cases tSize P t with
    | none => rfl
    | some n =>
      show (@Bool.rec (fun _ => OH) none (putF H ad (cellsL v)) (sizedF n (cellsL v))) = _
      rw [sizedF_eq]
      simp only []
      cases sizedK n (cellsL v) with
      | false => rfl
      | true =>
        show putF H ad (cellsL v) = _
        unfold putF
        simp only []
        cases H.store ad.block ad.off (cellsL v) <;> rfl
def szO : Value → Option Nat := @Value.rec (fun _ => Option Nat) (fun _ => Unit) (fun _ => Unit) (fun _ => none) (fun _ _ => none) (fun _ _ => none) (fun _ _ _ => none) (fun _ => none) (fun _ => none) (fun _ n _ => some n) (fun _ => none) (fun _ => none) (fun _ _ _ _ _ => none) (none) (fun _ _ _ => none) (none) (fun _ _ => none) (fun _ _ => none) (fun _ _ => ()) () (fun _ _ _ _ => ())
def isSl (P : Program) (t : TypeId) : Bool := match P.underlying t with
  | some (.slice _) => true
  | _ => false
def lenF (P : Program) (t : TypeId) (x : Value) : OV := @Bool.rec (fun _ => OV) (lenV P t x) (@Option.rec Nat (fun _ => OV) (lenV P t x) (fun n => some (.int .i64 (.ofNat n))) (szO x)) (isSl P t)
theorem lenF_eq (P : Program) (t : TypeId) (x : Value) : lenF P t x = lenV P t x := by
  unfold lenF
  cases hs : isSl P t with
  | false => rfl
  | true =>
    cases x <;> try rfl
    next a n c =>
    show some (Value.int .i64 (.ofNat n)) = _
    unfold isSl at hs
    unfold lenV
    split at hs
    · next e hu => rw [hu]; rfl
    · cases hs
def apK (a b : List Value) : List Value := @List.rec Value (fun _ => List Value) b (fun v _ ih => v :: ih) a
theorem apK_eq : ∀ (a b : List Value), apK a b = a ++ b
  | [], b => rfl
  | v :: a, b => by show v :: apK a b = _; rw [apK_eq a b]; rfl
def endK (a c : List Value) : List Value := @List.rec Value (fun _ => List Value) a (fun v r _ => apK a (v :: r)) c
theorem endK_eq (a c : List Value) : endK a c = a ++ c := by
  cases c with
  | nil => show a = _; simp
  | cons v r => exact apK_eq a (v :: r)
end Ev
end Go.Proofs.YtifoekadjnlhcaaGreatDoor
noncomputable section
namespace Go.Proofs.YtifoekadjnlhcaaGreatDoor
open Go.RowKit
set_option linter.unusedVariables false
set_option linter.unusedSimpArgs false
namespace Ev
variable {D : List Deferred} {rd : Option Nat}
def evOp (P : Program) (ρ : Operand → Option Value) (H : Heap) (op : Op) : Option (Value × Heap) :=
  match evP P ρ op with
  | some v => some (v, H)
  | none => match evRd P ρ H op with
    | some v => some (v, H)
    | none => match evN P ρ op with
      | some (ob, m) => (H.add ob).map fun H' => (m.val H.next, H')
      | none => evE P ρ H op
def calleeV (ρ : Operand → Option Value) (c : Call) : Option (FuncId × List Value) :=
  match c.callee with
  | .value f => match ρ f, valsV ρ c.args.toList with
    | some (.func (.func fid) ⟨first⟩ ⟨captured⟩), some vs => some (fid, first ++ vs ++ captured)
    | _, _ => none
  | _ => none
def yieldV (ρ : Operand → Option Value) (c : Call) : Option (Nat × List Value) :=
  match c.callee with
  | .value f => match ρ f, valsV ρ c.args.toList with
    | some (.float .f32 id), some vs => some (id, vs)
    | _, _ => none
  | _ => none
structure Caller where
  call : FuncId → List Value → Heap → Option (Value × Heap)
  yield : Nat → List Value → Heap → Option (Value × Heap)
def runOp (P : Program) (callF : Caller) (ρ : Operand → Option Value) (H : Heap) (op : Op) : Option (Value × Heap) :=
  match op with
  | .call c => match calleeV ρ c with
    | some (f, args) => callF.call f args H
    | none => match yieldV ρ c with
      | some (id, args) => callF.yield id args H
      | none => evOp P ρ H (.call c)
  | op => evOp P ρ H op
def wantedV (ops : Array Oper) (T : Tr Value) (g : Option (Nat × Bool)) : Option Bool :=
  match g with
  | none => some true
  | some (j, want) => match ops.toList[j]? with
    | some o => match o.dst with
      | some d => match (T.get d).getD undef with
        | .bool b => some (b == want)
        | .tuple ⟨[]⟩ => some false
        | _ => none
      | none => none
    | none => none
section
variable {P : Program} {φ : Phi} {H H' : Heap} {w : World} {nt : Nat} {T T' : Tr Value} {a : Act}
def Gives (P : Program) (φ : Phi) (H : Heap) (w : World) (f : FuncId) (args : List Value) (v : Value) (H' : Heap) : Prop :=
  ∀ A, concL φ args = some A → Calls P f A.toArray w fun e w' => ∃ V φ', e = .returned V ∧ conc φ' v = some V ∧ Rel φ' H' w' ∧ Step φ H w φ' H' w'
def Yields (P : Program) (φ : Phi) (H : Heap) (w : World) (id : Nat) (args : List Value) (v : Value) (H' : Heap) : Prop :=
  ∀ A, concL φ args = some A → ∃ B fn tmps assign body, φ.at_ id = some B ∧ (Instr.yield B.blk A.toArray).run P w = .ok (.round B.blk fn tmps assign body) w ∧
    RoundIn Fence.wide 0 P B.blk fn tmps assign body w fun e w' => ∃ V φ', e = .returned V ∧ conc φ' v = some V ∧ Rel φ' H' w' ∧ Step φ H w φ' H' w'
structure CallOk (P : Program) (callF : Caller) (φ0 : Phi) (H0 : Heap) (w0 : World) : Prop where
  call : ∀ f args H v H', callF.call f args H = some (v, H') → (∀ φ w, Step φ0 H0 w0 φ H w → Rel φ H w → Gives P φ H w f args v H') ∧ ∃ fn, P.funcs[f]? = some fn ∧ (fn.name == "runtime.NumGoroutine") = false ∧ fn.body.isSome = true
  yield : ∀ id args H v H', callF.yield id args H = some (v, H') → ∀ φ w, Step φ0 H0 w0 φ H w → Rel φ H w → Yields P φ H w id args v H'
def wideR (r : Option Nat) : Fence := { Fence.wide with round := r }
theorem callsIn_wideR {r : Option Nat} {n : Nat} {f : FuncId} {args : Array Value} {w : World} {R : Ending → World → Prop} (h : Calls P f args w R) : CallsIn (wideR r) n P f args w R := callsIn_wide.2 h
theorem wpIn_of_wp {r : Option Nat} {n : Nat} {o : Oper} {a : Act} {w : World} {next : Act → World → Prop} {Q : Exit → Act → World → Prop} (hd : ∀ c, o.op ≠ .defer c) (h : o.wp P a w next Q) : o.wpIn (wideR r) n P a w next Q := by
  refine ⟨fun _ _ => trivial, ?_⟩
  rw [Oper.semAt_eq _ _ _ hd]
  unfold Oper.wp at h
  generalize (execOp a.eval o).run P w = R at h ⊢
  cases R with
  | ok x w' =>
    cases x with
    | enter f args => exact ⟨fun h => by simp [wideR, Fence.wide] at h, callsIn_wideR h⟩
    | row row args =>
      refine ⟨fun h => by simp [wideR, Fence.wide] at h, fun c cs _ => ?_⟩
      obtain ⟨v, w'', k1, k2⟩ := h c cs
      exact ⟨v, w'', k1, stepsIn_wide.2 k2⟩
    | _ => first | exact h | exact h.elim
  | halt x w' => cases x <;> first | exact h | exact h.elim
theorem evP_nd {ρ : Operand → Option Value} {op : Op} {v : Value} (h : evP P ρ op = some v) : ∀ c, op ≠ .defer c := by
  intro c hc; subst hc; simp [evP] at h
theorem evRd_nd {ρ : Operand → Option Value} {op : Op} {v : Value} (h : evRd P ρ H op = some v) : ∀ c, op ≠ .defer c := by
  intro c hc; subst hc; revert h; simp [evRd, evR]
theorem evN_nd {ρ : Operand → Option Value} {op : Op} {v : AObj × Mk} (h : evN P ρ op = some v) : ∀ c, op ≠ .defer c := by
  intro c hc; subst hc; simp [evN] at h
theorem evOp_nd {ρ : Operand → Option Value} {op : Op} {v : Value} (h : evOp P ρ H op = some (v, H')) : ∀ c, op ≠ .defer c := by
  intro c hc
  subst hc
  simp only [evOp] at h
  revert h
  simp [evP, evRd, evN, evE, evR]
theorem evOp_ok {ρ : Operand → Option Value} (hR : Rel φ H w) (hρ : ∀ x u, ρ x = some u → conc φ u = some (a.eval x)) {o : Oper} {v : Value} (h : evOp P ρ H o.op = some (v, H')) {next : Act → World → Prop} {Q : Exit → Act → World → Prop}
    (hn : ∀ φ' x w', Rel φ' H' w' → Step φ H w φ' H' w' → conc φ' v = some x → next (a.put o.dst x) w') : o.wp P a w next Q := by
  unfold evOp at h
  unfold Oper.wp
  split at h
  · next u hu =>
    cases h
    obtain ⟨V, g1, g2⟩ := evP_ok (P := P) hρ hu
    rw [g2 w]
    exact hn φ V w hR (Step.refl _ _ _) g1
  · split at h
    · next u hu =>
      cases h
      obtain ⟨V, g1, g2⟩ := evRd_ok (P := P) hR hρ hu
      rw [g2]
      exact hn φ V w hR (Step.refl _ _ _) g1
    · split at h
      · next ob m hu =>
        cases ha : H.add ob with
        | none => rw [ha] at h; cases h
        | some H1 =>
          rw [ha] at h; cases h
          obtain ⟨c, e, n, V, g1, g2, g3⟩ := evN_ok (P := P) hρ hu w
          obtain ⟨φ', k1, k2, k3⟩ := new_block (n := n) hR ha g2
          rw [g1]
          exact hn φ' V _ k2 k3 (g3 φ' _ k1)
      · obtain ⟨V, w', φ', g1, g2, g3, g4⟩ := evE_ok (P := P) hR hρ h
        rcases g1 with g1 | ⟨g1, rfl⟩
        · rw [g1]; exact hn φ' V w' g3 g4 g2
        · rw [g1]; exact hn φ' undef w' g3 g4 g2
theorem runOp_ok {ρ : Operand → Option Value} {callF : Caller} {φ0 : Phi} {H0 : Heap} {w0 : World} (hc : CallOk P callF φ0 H0 w0) (hS0 : Step φ0 H0 w0 φ H w) (hR : Rel φ H w) (hρ : ∀ x u, ρ x = some u → conc φ u = some (a.eval x)) {o : Oper} {v : Value} (h : runOp P callF ρ H o.op = some (v, H'))
    {next : Act → World → Prop} {Q : Exit → Act → World → Prop} (hn : ∀ φ' x w', Rel φ' H' w' → Step φ H w φ' H' w' → conc φ' v = some x → next (a.put o.dst x) w') : o.wpIn (wideR rd) 0 P a w next Q := by
  unfold runOp at h
  split at h
  · next c hop =>
    split at h
    · next f args hcal =>
      unfold calleeV at hcal
      split at hcal
      · next fo hfo =>
        split at hcal
        · next fid first captured vs h1 h2 =>
          simp only [Option.some.injEq, Prod.mk.injEq] at hcal
          obtain ⟨rfl, rfl⟩ := hcal
          obtain ⟨hg, fn, hfn, hnm, hbd⟩ := hc.call _ _ _ _ _ h
          have c1 := hρ _ _ h1
          obtain ⟨f', A, B, hf', hA, hB, he⟩ := conc_func c1
          cases hf'
          have c2 := valsV_ok hρ _ _ h2
          have hargs : concL φ (first ++ vs ++ captured) = some (A ++ c.args.toList.map a.eval ++ B) := by
            have app : ∀ (l m L M : List Value), concL φ l = some L → concL φ m = some M → concL φ (l ++ m) = some (L ++ M) := by
              intro l
              induction l with
              | nil => intro m L M hl hm; simp [concL] at hl; subst hl; simpa using hm
              | cons v l ih =>
                intro m L M hl hm
                simp only [concL] at hl
                split at hl
                · next x y k1 k2 => cases hl; simp only [List.cons_append, concL, k1, ih m y M k2 hm]
                · cases hl
            exact app _ _ _ _ (app _ _ _ _ hA c2) hB
          have hcall := hg φ w hS0 hR _ hargs
          refine wpIn_of_wp (by rw [hop]; simp) ?_
          unfold Oper.wp
          have run : (execOp a.eval o).run P w = .ok (.enter fid (A ++ c.args.toList.map a.eval ++ B).toArray) w := by
            obtain ⟨dst, op, ty, pos, after, guard⟩ := o
            simp only at hop; subst hop
            unfold execOp
            simp only
            unfold resolve
            rw [hfo]
            simp only [he, Deferred.ofValue]
            rw [bind_ok (run_pure P _ w)]
            simp only [invoke]
            unfold callFunc
            show (Sem.bind (Sem.program .pure) _).run P w = _
            simp only [Sem.bind, Sem.run, hfn, hnm, Bool.false_eq_true, if_false]
            have : fn.body.isNone = false := by cases hb : fn.body <;> simp [hb] at hbd ⊢
            rw [if_neg (by simp [this])]
            show Result.ok (Next.enter fid _) w = _
            congr 2
            apply Array.toList_inj.1; simp
          rw [run]
          refine hcall.mono fun e w' he' => ?_
          obtain ⟨V, φ', rfl, k1, k2, k3⟩ := he'
          exact hn φ' V w' k2 k3 k1
        · cases hcal
      · cases hcal
    · split at h
      · next id args hy =>
        unfold yieldV at hy
        split at hy
        · next fo hfo =>
          split at hy
          · next id' vs h1 h2 =>
            cases hy
            have c1 := hρ _ _ h1
            have c2 := valsV_ok hρ _ _ h2
            obtain ⟨B, fn, tmps, assign, body, hB, hrun, hround⟩ := hc.yield _ _ _ _ _ h φ w hS0 hR _ c2
            simp only [conc, hB, Option.map_some, Option.some.injEq] at c1
            refine ⟨fun _ _ => trivial, ?_⟩
            rw [Oper.semAt_eq _ _ _ (by rw [hop]; simp)]
            have run : (execOp a.eval o).run P w = .ok (.round B.blk fn tmps assign body) w := by
              obtain ⟨dst, op, ty, pos, after, guard⟩ := o
              simp only at hop; subst hop
              unfold execOp
              simp only
              unfold resolve
              rw [hfo]
              simp only [← c1, Deferred.ofValue]
              rw [bind_ok (run_pure P _ w)]
              simp only [invoke]
              have e : (List.map a.eval c.args.toList).toArray = c.args.map a.eval := by apply Array.toList_inj.1; simp
              rw [e] at hrun
              simpa using hrun
            rw [run]
            refine ⟨fun h => by simp [wideR, Fence.wide] at h, hround.mono fun e w' he' => ?_⟩
            obtain ⟨V, φ', rfl, k1, k2, k3⟩ := he'
            exact hn φ' V w' k2 k3 k1
          · cases hy
        · cases hy
      · rw [← hop] at h
        exact wpIn_of_wp (evOp_nd h) (evOp_ok hR hρ h hn)
  · exact wpIn_of_wp (evOp_nd h) (evOp_ok hR hρ h hn)
theorem wantedV_ok {ops : Array Oper} {o : Oper} (hF : ∀ t, t ∈ o.looksAt ops → conc φ ((T.get t).getD undef) = some (a.tmps.getD t undef)) {b : Bool} (h : wantedV ops T o.guard = some b) : Region.wanted o (yielded ops a.tmps) = b := by
  unfold wantedV at h
  unfold Region.wanted
  split at h
  · next hg => cases h; rw [hg]
  · next j want hg =>
    rw [hg]
    simp only []
    split at h
    · next o' ho =>
      split at h
      · next d hd =>
        have ho' : ops[j]? = some o' := by simpa using ho
        have hv := hF d (by unfold Oper.looksAt; rw [hg]; simp [ho', hd])
        have hy : yielded ops a.tmps j = match a.tmps[d]? with | some (.bool b) => some b | _ => none := by
          unfold yielded
          rw [ho']
          simp only [Option.bind_some, hd]
          rfl
        split at h
        · next bb hT =>
          cases h
          rw [hT] at hv
          simp only [conc, Option.some.injEq] at hv
          have : a.tmps[d]? = some (.bool bb) := by
            cases ht : a.tmps[d]? with
            | none =>
              rw [Array.getD_eq_getD_getElem?, ht] at hv; simp [undef] at hv
            | some x => rw [Array.getD_eq_getD_getElem?, ht] at hv; simp at hv; rw [hv]
          rw [hy, this]
          simp
        · next hT =>
          cases h
          rw [hT] at hv
          simp only [conc, concL, Option.map_some, Option.some.injEq] at hv
          have : (match a.tmps[d]? with | some (.bool b) => some b | _ => none) = none := by
            cases ht : a.tmps[d]? with
            | none => rfl
            | some x =>
              rw [Array.getD_eq_getD_getElem?, ht] at hv; simp at hv; subst hv; rfl
          rw [hy, this]; simp
        · cases h
      · cases h
    · cases h
def maxK (k : IntKind) : Nat := @IntKind.rec (fun _ => Nat) 127 32767 2147483647 9223372036854775807 255 65535 4294967295 18446744073709551615 k
def numK (k : IntKind) : Nat := @IntKind.rec (fun _ => Nat) 0 1 2 3 4 5 6 7 k
theorem numK_inj {a b : IntKind} (h : Nat.beq (numK a) (numK b) = true) : a = b := by
  revert h; cases a <;> cases b <;> decide
def expK (k : IntKind) : Nat := match k with | .i8 => 7 | .i16 => 15 | .i32 => 31 | .i64 => 63 | .u8 => 8 | .u16 => 16 | .u32 => 32 | .u64 => 64
theorem maxK_exp (k : IntKind) : maxK k + 1 = 2 ^ expK k := by cases k <;> rfl
theorem expK_le (k : IntKind) : expK k ≤ k.bits := by cases k <;> decide
theorem wrap_small {k : IntKind} {n : Nat} (h : Nat.ble n (maxK k) = true) : k.wrap (Int.ofNat n) = Int.ofNat n := by
  have h := Nat.le_of_ble_eq_true h
  unfold IntKind.wrap
  cases k <;> simp [maxK, IntKind.bits, IntKind.signed] at h ⊢ <;> omega
theorem ofInt_small {k : IntKind} {n : Nat} (h : Nat.ble n (maxK k) = true) : (BitVec.ofInt k.bits (Int.ofNat n)).toNat = n := by
  have h := Nat.le_of_ble_eq_true h
  have h1 := maxK_exp k
  have h2 : 2 ^ expK k ≤ 2 ^ k.bits := Nat.pow_le_pow_right (by decide) (expK_le k)
  rw [BitVec.toNat_ofInt]
  have : (Int.ofNat n % ((2 ^ k.bits : Nat) : Int)) = Int.ofNat n := Int.emod_eq_of_lt (by simp) (by show (n : Int) < _; omega)
  rw [this]; rfl
def okN (k : IntKind) (n : Nat) : Option Value := @Bool.rec (fun _ => Option Value) none (some (.int k (.ofNat n))) (Nat.ble n (maxK k))
def ifB (b : Bool) (o : Option Value) : Option Value := @Bool.rec (fun _ => Option Value) none o b
def okB (b : Bool) : Option Value := some (.bool b)
def fastNat (op : BinOp) (k : IntKind) (x y : Nat) : Option Value :=
  match op with
  | .add => okN k (Nat.add x y)
  | .sub => ifB (Nat.ble y x) (okN k (Nat.sub x y))
  | .mul => okN k (Nat.mul x y)
  | .and => ifB (Nat.ble x (maxK k)) (ifB (Nat.ble y (maxK k)) (okN k (Nat.land x y)))
  | .or => ifB (Nat.ble x (maxK k)) (ifB (Nat.ble y (maxK k)) (okN k (Nat.lor x y)))
  | .xor => ifB (Nat.ble x (maxK k)) (ifB (Nat.ble y (maxK k)) (okN k (Nat.xor x y)))
  | .eql => okB (Nat.beq x y)
  | .neq => okB (not (Nat.beq x y))
  | .lss => okB (Nat.ble (Nat.succ x) y)
  | .leq => okB (Nat.ble x y)
  | .gtr => okB (Nat.ble (Nat.succ y) x)
  | .geq => okB (Nat.ble y x)
  | _ => none
theorem okN_some {k : IntKind} {n : Nat} {v : Value} (h : okN k n = some v) : Nat.ble n (maxK k) = true ∧ v = .int k (.ofNat n) := by
  unfold okN at h
  cases hb : Nat.ble n (maxK k) with
  | false => rw [hb] at h; cases h
  | true => rw [hb] at h; cases h; exact ⟨rfl, rfl⟩
theorem ifB_some {b : Bool} {o : Option Value} {v : Value} (h : ifB b o = some v) : b = true ∧ o = some v := by
  cases b with
  | false => cases h
  | true => exact ⟨rfl, h⟩
section
variable (t : TypeId) (k : IntKind) (a b : Int)
theorem bin_add : Go.binOp .add t (.int k a) (.int k b) = .pure (.int k (k.wrap (a + b))) := by simp [Go.binOp, Op.intArith]; rfl
theorem bin_sub : Go.binOp .sub t (.int k a) (.int k b) = .pure (.int k (k.wrap (a - b))) := by simp [Go.binOp, Op.intArith]; rfl
theorem bin_mul : Go.binOp .mul t (.int k a) (.int k b) = .pure (.int k (k.wrap (a * b))) := by simp [Go.binOp, Op.intArith]; rfl
theorem bin_and : Go.binOp .and t (.int k a) (.int k b) = .pure (.int k (k.wrap (Int.ofNat (BitVec.ofInt k.bits a &&& BitVec.ofInt k.bits b).toNat))) := by simp [Go.binOp, Op.intBits]; rfl
theorem bin_or : Go.binOp .or t (.int k a) (.int k b) = .pure (.int k (k.wrap (Int.ofNat (BitVec.ofInt k.bits a ||| BitVec.ofInt k.bits b).toNat))) := by simp [Go.binOp, Op.intBits]; rfl
theorem bin_xor : Go.binOp .xor t (.int k a) (.int k b) = .pure (.int k (k.wrap (Int.ofNat (BitVec.ofInt k.bits a ^^^ BitVec.ofInt k.bits b).toNat))) := by simp [Go.binOp, Op.intBits]; rfl
theorem bin_eql : Go.binOp .eql t (.int k a) (.int k b) = .pure (.bool (a == b)) := by simp [Go.binOp, Op.intCmp]; rfl
theorem bin_neq : Go.binOp .neq t (.int k a) (.int k b) = .pure (.bool (a != b)) := by simp [Go.binOp, Op.intCmp]; rfl
theorem bin_lss : Go.binOp .lss t (.int k a) (.int k b) = .pure (.bool (decide (a < b))) := by simp [Go.binOp, Op.intCmp]; rfl
theorem bin_leq : Go.binOp .leq t (.int k a) (.int k b) = .pure (.bool (decide (a ≤ b))) := by simp [Go.binOp, Op.intCmp]; rfl
theorem bin_gtr : Go.binOp .gtr t (.int k a) (.int k b) = .pure (.bool (decide (a > b))) := by simp [Go.binOp, Op.intCmp]; rfl
theorem bin_geq : Go.binOp .geq t (.int k a) (.int k b) = .pure (.bool (decide (a ≥ b))) := by simp [Go.binOp, Op.intCmp]; rfl
end
theorem beq_ofNat (x y : Nat) : (Int.ofNat x == Int.ofNat y) = Nat.beq x y := by
  rw [Bool.eq_iff_iff, Nat.beq_eq, beq_iff_eq]; constructor
  · intro h; exact Int.ofNat.inj h
  · intro h; rw [h]
theorem lt_ofNat (x y : Nat) : decide (Int.ofNat x < Int.ofNat y) = Nat.ble (Nat.succ x) y := by
  rw [Bool.eq_iff_iff, Nat.ble_eq, decide_eq_true_iff]; exact Int.ofNat_lt
theorem le_ofNat (x y : Nat) : decide (Int.ofNat x ≤ Int.ofNat y) = Nat.ble x y := by
  rw [Bool.eq_iff_iff, Nat.ble_eq, decide_eq_true_iff]; exact Int.ofNat_le
theorem fastNat_ok {op : BinOp} {k : IntKind} {x y : Nat} {v : Value} (h : fastNat op k x y = some v) (t : TypeId) : asPure (Go.binOp op t (.int k (.ofNat x)) (.int k (.ofNat y))) = some v := by
  cases op <;> simp only [fastNat] at h
  case add =>
    obtain ⟨h1, rfl⟩ := okN_some h
    rw [bin_add, show Int.ofNat x + Int.ofNat y = Int.ofNat (Nat.add x y) from rfl, wrap_small h1]; rfl
  case sub =>
    obtain ⟨h0, h⟩ := ifB_some h
    obtain ⟨h1, rfl⟩ := okN_some h
    have h0 := Nat.le_of_ble_eq_true h0
    rw [bin_sub, show Int.ofNat x - Int.ofNat y = Int.ofNat (Nat.sub x y) from (Int.ofNat_sub h0).symm, wrap_small h1]; rfl
  case mul =>
    obtain ⟨h1, rfl⟩ := okN_some h
    rw [bin_mul, show Int.ofNat x * Int.ofNat y = Int.ofNat (Nat.mul x y) from rfl, wrap_small h1]; rfl
  case and =>
    obtain ⟨hx, h⟩ := ifB_some h
    obtain ⟨hy, h⟩ := ifB_some h
    obtain ⟨h1, rfl⟩ := okN_some h
    rw [bin_and, BitVec.toNat_and, ofInt_small hx, ofInt_small hy, show x &&& y = Nat.land x y from rfl, wrap_small h1]; rfl
  case or =>
    obtain ⟨hx, h⟩ := ifB_some h
    obtain ⟨hy, h⟩ := ifB_some h
    obtain ⟨h1, rfl⟩ := okN_some h
    rw [bin_or, BitVec.toNat_or, ofInt_small hx, ofInt_small hy, show x ||| y = Nat.lor x y from rfl, wrap_small h1]; rfl
  case xor =>
    obtain ⟨hx, h⟩ := ifB_some h
    obtain ⟨hy, h⟩ := ifB_some h
    obtain ⟨h1, rfl⟩ := okN_some h
    rw [bin_xor, BitVec.toNat_xor, ofInt_small hx, ofInt_small hy, show x ^^^ y = Nat.xor x y from rfl, wrap_small h1]; rfl
  case eql => cases h; rw [bin_eql, beq_ofNat]; rfl
  case neq => cases h; rw [bin_neq, show (Int.ofNat x != Int.ofNat y) = !(Int.ofNat x == Int.ofNat y) from rfl, beq_ofNat]; rfl
  case lss => cases h; rw [bin_lss, lt_ofNat]; rfl
  case leq => cases h; rw [bin_leq, le_ofNat]; rfl
  case gtr => cases h; rw [bin_gtr]; show some (Value.bool (decide (Int.ofNat y < Int.ofNat x))) = _; rw [lt_ofNat]
  case geq => cases h; rw [bin_geq]; show some (Value.bool (decide (Int.ofNat y ≤ Int.ofNat x))) = _; rw [le_ofNat]
  all_goals cases h
def bitK (k : IntKind) : Nat := @IntKind.rec (fun _ => Nat) 8 16 32 64 8 16 32 64 k
theorem bitK_eq (k : IntKind) : bitK k = k.bits := by cases k <;> rfl
def isUns (k : IntKind) : Bool := @IntKind.rec (fun _ => Bool) false false false false true true true true k
def fastShift (op : BinOp) (k : IntKind) (x y : Nat) : Option Value :=
  match op with
  | .shr => ifB (Nat.ble y (bitK k)) (some (.int k (.ofNat (Nat.div x (Nat.pow 2 y)))))
  | .shl => ifB (Nat.ble y (bitK k)) (okN k (Nat.mul x (Nat.pow 2 y)))
  | _ => none
theorem bin_shr (t : TypeId) (k j : IntKind) (x y : Nat) : Go.binOp .shr t (.int k (.ofNat x)) (.int j (.ofNat y)) = .pure (.int k ((Int.ofNat x).fdiv (2 ^ min y k.bits))) := by
  show Op.shift .shr k (.ofNat x) j (.ofNat y) = _
  unfold Op.shift
  rw [if_neg (by simp)]; rfl
theorem bin_shl (t : TypeId) (k j : IntKind) (x y : Nat) : Go.binOp .shl t (.int k (.ofNat x)) (.int j (.ofNat y)) = .pure (.int k (k.wrap (Int.ofNat x * 2 ^ min y k.bits))) := by
  show Op.shift .shl k (.ofNat x) j (.ofNat y) = _
  unfold Op.shift
  rw [if_neg (by simp)]; rfl
theorem fastShift_ok {op : BinOp} {k j : IntKind} {x y : Nat} {v : Value} (h : fastShift op k x y = some v) (t : TypeId) : asPure (Go.binOp op t (.int k (.ofNat x)) (.int j (.ofNat y))) = some v := by
  cases op <;> simp only [fastShift] at h
  case shr =>
    obtain ⟨h0, h⟩ := ifB_some h
    cases h
    have h0 := Nat.le_of_ble_eq_true h0
    rw [bitK_eq] at h0
    rw [bin_shr, Nat.min_eq_left h0]
    have : (Int.ofNat x).fdiv (2 ^ y) = Int.ofNat (Nat.div x (Nat.pow 2 y)) := by
      rw [show ((2 : Int) ^ y) = Int.ofNat (Nat.pow 2 y) from by simp]
      exact (Int.fdiv_eq_ediv_of_nonneg (Int.ofNat x) (show (0 : Int) ≤ Int.ofNat (Nat.pow 2 y) from Int.natCast_nonneg _)).trans rfl
    rw [this]; rfl
  case shl =>
    obtain ⟨h0, h⟩ := ifB_some h
    obtain ⟨h1, rfl⟩ := okN_some h
    have h0 := Nat.le_of_ble_eq_true h0
    rw [bitK_eq] at h0
    rw [bin_shl, Nat.min_eq_left h0]
    have : Int.ofNat x * 2 ^ y = Int.ofNat (Nat.mul x (Nat.pow 2 y)) := by
      rw [show ((2 : Int) ^ y) = Int.ofNat (Nat.pow 2 y) from by simp]; rfl
    rw [this, wrap_small h1]; rfl
  all_goals cases h
def fast2 (op : BinOp) (k : IntKind) (x : Nat) (j : IntKind) (y : Nat) : Option Value := @Option.rec Value (fun _ => Option Value) (ifB (Nat.beq (numK k) (numK j)) (fastNat op k x y)) (fun v => some v) (fastShift op k x y)
theorem fast2_ok {op : BinOp} {k j : IntKind} {x y : Nat} {v : Value} (h : fast2 op k x j y = some v) (P : Program) (t : TypeId) (c : Bool) : binV P op t c (.int k (.ofNat x)) (.int j (.ofNat y)) = some v := by
  unfold fast2 at h
  show asPure (Go.binOp op t (.int k (.ofNat x)) (.int j (.ofNat y))) = some v
  cases hs : fastShift op k x y with
  | some u => rw [hs] at h; cases h; exact fastShift_ok hs t
  | none =>
    rw [hs] at h
    obtain ⟨h1, h2⟩ := ifB_some h
    have e := numK_inj h1
    subst e
    exact fastNat_ok h2 t
abbrev BinR := IntKind → Nat → IntKind → Nat → Option Value
def sameK (k j : IntKind) (o : Option Value) : Option Value := ifB (Nat.beq (numK k) (numK j)) o
def inK (k : IntKind) (x y : Nat) (o : Option Value) : Option Value := ifB (Nat.ble x (maxK k)) (ifB (Nat.ble y (maxK k)) o)
def binD : BinOp → BinR := @BinOp.rec (fun _ => BinR)
  (fun k x j y => sameK k j (okN k (Nat.add x y)))
  (fun k x j y => sameK k j (ifB (Nat.ble y x) (okN k (Nat.sub x y))))
  (fun k x j y => sameK k j (okN k (Nat.mul x y)))
  (fun k x j y => fast2 .quo k x j y)
  (fun k x j y => fast2 .rem k x j y)
  (fun k x j y => sameK k j (inK k x y (okN k (Nat.land x y))))
  (fun k x j y => sameK k j (inK k x y (okN k (Nat.lor x y))))
  (fun k x j y => sameK k j (inK k x y (okN k (Nat.xor x y))))
  (fun k x j y => fast2 .shl k x j y)
  (fun k x j y => fast2 .shr k x j y)
  (fun k x j y => fast2 .andNot k x j y)
  (fun k x j y => sameK k j (okB (Nat.beq x y)))
  (fun k x j y => sameK k j (okB (not (Nat.beq x y))))
  (fun k x j y => sameK k j (okB (Nat.ble (Nat.succ x) y)))
  (fun k x j y => sameK k j (okB (Nat.ble x y)))
  (fun k x j y => sameK k j (okB (Nat.ble (Nat.succ y) x)))
  (fun k x j y => sameK k j (okB (Nat.ble y x)))
theorem binD_eq (op : BinOp) : binD op = fast2 op := by
  funext k x j y
  cases op <;> first | rfl | (show ifB _ _ = _; unfold fast2 fastShift; simp only []; first | rfl | (cases (Nat.ble y (bitK k)) <;> rfl))
def asIntC : Value → (IntKind → Nat → Option Value) → Option Value :=
  @Value.rec (fun _ => (IntKind → Nat → Option Value) → Option Value) (fun _ => Unit) (fun _ => Unit) (fun _ => fun _ => none) (fun d n k => @Int.rec (fun _ => Option Value) (fun m => k d m) (fun _ => none) n) (fun _ _ => fun _ => none) (fun _ _ _ => fun _ => none) (fun _ => fun _ => none) (fun _ => fun _ => none) (fun _ _ _ => fun _ => none) (fun _ => fun _ => none) (fun _ => fun _ => none) (fun _ _ _ _ _ => fun _ => none) (fun _ => none) (fun _ _ _ => fun _ => none) (fun _ => none) (fun _ _ => fun _ => none) (fun _ _ => fun _ => none) (fun _ _ => ()) () (fun _ _ _ _ => ())
theorem asIntC_some {a v : Value} {k : IntKind → Nat → Option Value} (h : asIntC a k = some v) : ∃ d m, a = .int d (.ofNat m) ∧ k d m = some v := by
  cases a <;> try (exact absurd h (by show ¬ none = some v; simp))
  next d n => cases n with
    | ofNat m => exact ⟨d, m, rfl, h⟩
    | negSucc m => exact absurd h (by show ¬ none = some v; simp)
def fastV (op : BinOp) (a b : Value) : Option Value := asIntC a fun k x => asIntC b fun j y => binD op k x j y
theorem fastV_ok {op : BinOp} {a b v : Value} (h : fastV op a b = some v) (P : Program) (t : TypeId) (c : Bool) : binV P op t c a b = some v := by
  obtain ⟨k, x, rfl, h1⟩ := asIntC_some h
  have h2 : asIntC b (fun j y => binD op k x j y) = some v := h1
  obtain ⟨j, y, rfl, h3⟩ := asIntC_some h2
  rw [binD_eq] at h3
  exact fast2_ok h3 P t c
def binK (P : Program) (op : BinOp) (t : TypeId) (x y : Operand) (a b : Value) : Option Value := @Option.rec Value (fun _ => Option Value) (binV P op t (isC x || isC y) a b) (fun v => some v) (fastV op a b)
theorem binK_eq (P : Program) (op : BinOp) (t : TypeId) (x y : Operand) (a b : Value) : binK P op t x y a b = binV P op t (isC x || isC y) a b := by
  unfold binK
  cases h : fastV op a b with
  | none => rfl
  | some v => exact (fastV_ok h P t _).symm
def fastUn (op : UnOp) (a : Value) : Option Value :=
  match op, a with
  | .not, .bool b => some (.bool (not b))
  | .neg, .int k (.ofNat x) => @Nat.rec (fun _ => Option Value) (some (.int k (.ofNat 0))) (fun m _ => ifB (isUns k) (ifB (Nat.ble m (maxK k)) (some (.int k (.ofNat (Nat.sub (maxK k) m)))))) x
  | _, _ => none
theorem un_neg (k : IntKind) (a : Int) : Op.unary .neg (.int k a) = .pure (.int k (k.wrap (0 - a))) := rfl
theorem fastUn_ok {op : UnOp} {a v : Value} (h : fastUn op a = some v) : unV op a = some v := by
  unfold fastUn at h
  split at h
  · next b => cases h; rfl
  · next k x =>
    show asPure (Op.unary .neg (.int k (.ofNat x))) = some v
    rw [un_neg]
    cases x with
    | zero => cases h; rw [show (0 : Int) - Int.ofNat 0 = Int.ofNat 0 from rfl, wrap_small (by cases k <;> rfl)]; rfl
    | succ m =>
      obtain ⟨h1, h⟩ := ifB_some h
      obtain ⟨h2, h⟩ := ifB_some h
      cases h
      have h2 := Nat.le_of_ble_eq_true h2
      have : k.wrap (0 - Int.ofNat (m + 1)) = Int.ofNat (Nat.sub (maxK k) m) := by
        unfold IntKind.wrap
        show _ = ((maxK k - m : Nat) : Int)
        rw [show Int.ofNat (m + 1) = (m : Int) + 1 from by simp]
        cases k <;> first | (cases h1; done) | (simp [maxK, IntKind.bits, IntKind.signed] at h2 ⊢; omega)
      rw [this]; rfl
  · cases h
def negD (a : Value) : Option Value := asIntC a fun k x => @Nat.rec (fun _ => Option Value) (some (.int k (.ofNat 0))) (fun m _ => ifB (isUns k) (ifB (Nat.ble m (maxK k)) (some (.int k (.ofNat (Nat.sub (maxK k) m)))))) x
def notD : Value → Option Value := @Value.rec (fun _ => Option Value) (fun _ => Unit) (fun _ => Unit) (fun b => @Bool.rec (fun _ => Option Value) (some (.bool true)) (some (.bool false)) b) (fun _ _ => none) (fun _ _ => none) (fun _ _ _ => none) (fun _ => none) (fun _ => none) (fun _ _ _ => none) (fun _ => none) (fun _ => none) (fun _ _ _ _ _ => none) (none) (fun _ _ _ => none) (none) (fun _ _ => none) (fun _ _ => none) (fun _ _ => ()) () (fun _ _ _ _ => ())
def unD (op : UnOp) : Value → Option Value := @UnOp.rec (fun _ => Value → Option Value) negD (fun _ => none) notD (fun _ => none) op
theorem unD_eq (op : UnOp) (a : Value) : unD op a = fastUn op a := by
  cases op <;> cases a <;> try rfl
  case neg.int k n => cases n <;> rfl
  case not.bool b => cases b <;> rfl
def unK (op : UnOp) (a : Value) : Option Value := @Option.rec Value (fun _ => Option Value) (unV op a) (fun v => some v) (unD op a)
theorem unK_eq (op : UnOp) (a : Value) : unK op a = unV op a := by
  unfold unK
  rw [unD_eq]
  cases h : fastUn op a with
  | none => rfl
  | some v => exact (fastUn_ok h).symm
def getK (T : Tr Value) (t : Nat) : Value := @Option.rec Value (fun _ => Value) undef (fun v => v) (T.get t)
def tmpK (t : Tmp) (T : Tr Value) : Option Value := some (getK T t)
def cstK (v : Value) (_ : Tr Value) : Option Value := @Bool.rec (fun _ => Option Value) none (some v) (plainV v)
def glbK (_ : Nat) (_ : Tr Value) : Option Value := none
def fnK (f : FuncId) (_ : Tr Value) : Option Value := some (.func (.func f) #[] #[])
def opvK (x : Operand) (T : Tr Value) : Option Value := @Operand.rec (fun _ => Tr Value → Option Value) tmpK cstK glbK fnK x T
theorem opvK_eq (x : Operand) (T : Tr Value) : opvK x T = opV T x := by
  cases x with
  | tmp t => show some (getK T t) = some _; unfold getK; cases T.get t <;> rfl
  | const v => show (@Bool.rec (fun _ => Option Value) none (some v) (plainV v)) = if plainV v then some v else none; cases plainV v <;> rfl
  | global g => rfl
  | func f => rfl
abbrev OR := Option (Value × Heap)
abbrev OpR := Program → Caller → Tr Value → Heap → OR
def retV (H : Heap) (o : Option Value) : OR := @Option.rec Value (fun _ => OR) none (fun v => some (v, H)) o
def thenV (o : Option Value) (k : Value → OR) : OR := @Option.rec Value (fun _ => OR) none k o
def kMove (x : Operand) : OpR := fun _ _ T H => retV H (opvK x T)
def kLoad (t : TypeId) (a : Operand) : OpR := fun P _ T H => thenV (opvK a T) fun v => retV H (loadF P H t v)
def kStore (t : TypeId) (a x : Operand) : OpR := fun P _ T H => thenV (opvK a T) fun a => thenV (opvK x T) fun x => storeF P H t a x
def kFieldAddr (s : TypeId) (x : Operand) (f : Nat) : OpR := fun P _ T H => thenV (opvK x T) fun v => retV H (fieldF P s v f)
def kExtract (x : Operand) (i : Nat) : OpR := fun _ _ T H => thenV (opvK x T) fun v => retV H (extractV v i)
def kBin (op : BinOp) (t : TypeId) (x y : Operand) (_ : TypeId) : OpR := fun P _ T H => thenV (opvK x T) fun a => thenV (opvK y T) fun b => retV H (binK P op t x y a b)
def kUn (op : UnOp) (_ : TypeId) (x : Operand) : OpR := fun _ _ T H => thenV (opvK x T) fun v => retV H (unK op v)
def pickD : Value → Operand → Operand → Tr Value → Option Value := @Value.rec (fun _ => Operand → Operand → Tr Value → Option Value) (fun _ => Unit) (fun _ => Unit) (fun c a b T => @Bool.rec (fun _ => Option Value) (opvK b T) (opvK a T) c) (fun _ _ => fun _ _ _ => none) (fun _ _ => fun _ _ _ => none) (fun _ _ _ => fun _ _ _ => none) (fun _ => fun _ _ _ => none) (fun _ => fun _ _ _ => none) (fun _ _ _ => fun _ _ _ => none) (fun _ => fun _ _ _ => none) (fun _ => fun _ _ _ => none) (fun _ _ _ _ _ => fun _ _ _ => none) (fun _ _ _ => none) (fun _ _ _ => fun _ _ _ => none) (fun _ _ _ => none) (fun _ _ => fun _ _ _ => none) (fun _ _ => fun _ _ _ => none) (fun _ _ => ()) () (fun _ _ _ _ => ())
def pickK (a b : Operand) (T : Tr Value) (v : Value) : Option Value := pickD v a b T
def kPick (c a b : Operand) : OpR := fun _ _ T H => thenV (opvK c T) fun v => retV H (pickK a b T v)
def nilF (f : Fn) (p q : Array Value) : Option Value := match f with
  | .func f => some (.func (.func f) p q)
  | _ => none
def nilK : Value → Option Value := @Value.rec (fun _ => Option Value) (fun _ => Unit) (fun _ => Unit) (fun _ => none) (fun _ _ => none) (fun _ _ => none) (fun _ _ _ => none) (fun _ => none) (fun a => @Option.rec Addr (fun _ => Option Value) none (fun a => some (.pointer (some a))) a) (fun _ _ _ => none) (fun _ => none) (fun _ => none) (fun f p q _ _ => nilF f p q) (none) (fun _ _ _ => none) (none) (fun _ _ => none) (fun _ _ => none) (fun _ _ => ()) () (fun _ _ _ _ => ())
def kNil (x : Operand) : OpR := fun _ _ T H => thenV (opvK x T) fun v => retV H (nilK v)
def cvK (P : Program) (s d : TypeId) : Option IntKind := match P.underlying s, P.underlying d with
  | some _, some (.int k) => some k
  | _, _ => none
def fastConv (P : Program) (s d : TypeId) (v : Value) : Option Value := @Option.rec IntKind (fun _ => Option Value) none (fun k => asIntC v fun _ n => okN k n) (cvK P s d)
def kConv (s d : TypeId) (x : Operand) : OpR := fun P C T H => thenV (opvK x T) fun v => @Option.rec Value (fun _ => OR) (runOp P C (fun x => opvK x T) H (.convert s d x)) (fun u => some (u, H)) (fastConv P s d v)
theorem fastConv_ok {P : Program} {s d : TypeId} {v u : Value} (h : fastConv P s d v = some u) : convP P s d v = some u := by
  unfold fastConv at h
  cases hc : cvK P s d with
  | none => rw [hc] at h; cases h
  | some k =>
    rw [hc] at h
    obtain ⟨d', n, rfl, h⟩ := asIntC_some h
    obtain ⟨h3, rfl⟩ := okN_some h
    unfold cvK at hc
    split at hc
    · next hs k' h1 h2 =>
      cases hc
      unfold convP
      rw [h1, h2]
      show asPure (.pure (.int k (k.wrap (Int.ofNat n)))) = _
      rw [wrap_small h3]; rfl
    · cases hc
def kIndexAddr (t : TypeId) (x i : Operand) : OpR := fun P _ T H => thenV (opvK x T) fun v => thenV (opvK i T) fun j => retV H (indexK P t v j)
def kField (t : TypeId) (x : Operand) (f : Nat) : OpR := fun P _ T H => thenV (opvK x T) fun v => retV H (fieldV P t v f)
def kIndex (t : TypeId) (x i : Operand) : OpR := fun P _ T H => thenV (opvK x T) fun v => thenV (opvK i T) fun j => retV H (indexV P t v j)
def kIface (t : TypeId) (x : Operand) : OpR := fun P _ T H => thenV (opvK x T) fun v => retV H (ifaceV P t v)
def newO (H : Heap) (o : Option (AObj × Mk)) : OR := @Option.rec (AObj × Mk) (fun _ => OR) none (fun p => @Option.rec Heap (fun _ => OR) none (fun H' => some (p.2.val H.next, H')) (H.add p.1)) o
def kAlloc (t : TypeId) : OpR := fun P _ T H => newO H (allocV P t)
def kBox (_ : TypeId) (x : Operand) : OpR := fun P _ T H => thenV (opvK x T) fun v => newO H (some (boxV v))
def kMkSlice (t : TypeId) (l c : Operand) : OpR := fun P _ T H => thenV (opvK l T) fun l => thenV (opvK c T) fun c => newO H (makeSliceV P t l c)
def partsK (T : Tr Value) (l : List (Nat × Operand)) : Option (List (Nat × Value)) := @List.rec (Nat × Operand) (fun _ => Option (List (Nat × Value))) (some []) (fun p _ ih => @Option.rec Value (fun _ => Option (List (Nat × Value))) none (fun v => @Option.rec (List (Nat × Value)) (fun _ => Option (List (Nat × Value))) none (fun vs => some ((p.1, v) :: vs)) ih) (opvK p.2 T)) l
theorem partsK_eq (T : Tr Value) : ∀ l, partsK T l = partsV (opV T) l
  | [] => rfl
  | (i, x) :: l => by
    show (@Option.rec Value (fun _ => Option (List (Nat × Value))) none (fun v => @Option.rec (List (Nat × Value)) (fun _ => Option (List (Nat × Value))) none (fun vs => some ((i, v) :: vs)) (partsK T l)) (opvK x T)) = _
    have e : partsV (opV T) ((i, x) :: l) = match opV T x, partsV (opV T) l with
      | some v, some vs => some ((i, v) :: vs)
      | _, _ => none := by rw [partsV]; cases opV T x <;> cases partsV (opV T) l <;> rfl
    rw [partsK_eq T l, opvK_eq, e]
    cases opV T x with
    | none => rfl
    | some v => cases partsV (opV T) l <;> rfl
def kBuild (t : TypeId) (ps : Array (Nat × Operand)) : OpR := fun P _ T H => @Option.rec (List (Nat × Value)) (fun _ => OR) none (fun l => retV H (buildV P t l)) (partsK T ps.toList)
def kBuildSlice (t : TypeId) (n : Nat) (ps : Array (Nat × Operand)) : OpR := fun P _ T H => @Option.rec (List (Nat × Value)) (fun _ => OR) none (fun l => newO H (buildSliceV P t n l)) (partsK T ps.toList)
def optK (T : Tr Value) (x : Option Operand) : Option (Option Value) := @Option.rec Operand (fun _ => Option (Option Value)) (some none) (fun x => @Option.rec Value (fun _ => Option (Option Value)) none (fun v => some (some v)) (opvK x T)) x
theorem optK_eq (T : Tr Value) (x : Option Operand) : optK T x = optV (opV T) x := by
  cases x with
  | none => rfl
  | some x => show (@Option.rec Value (fun _ => Option (Option Value)) none (fun v => some (some v)) (opvK x T)) = (opV T x).map some; rw [opvK_eq]; cases opV T x <;> rfl
def thenO (o : Option (Option Value)) (k : Option Value → OR) : OR := @Option.rec (Option Value) (fun _ => OR) none k o
def kSlice (t : TypeId) (x : Operand) (lo hi mx : Option Operand) : OpR := fun P _ T H => thenV (opvK x T) fun v => thenO (optK T lo) fun l => thenO (optK T hi) fun h => thenO (optK T mx) fun m => retV H (sliceV P t v l h m)
def valsK (T : Tr Value) (l : List Operand) : Option (List Value) := @List.rec Operand (fun _ => Option (List Value)) (some []) (fun x _ ih => @Option.rec Value (fun _ => Option (List Value)) none (fun v => @Option.rec (List Value) (fun _ => Option (List Value)) none (fun vs => some (v :: vs)) ih) (opvK x T)) l
theorem valsK_eq (T : Tr Value) : ∀ l, valsK T l = valsV (opV T) l
  | [] => rfl
  | x :: l => by
    show (@Option.rec Value (fun _ => Option (List Value)) none (fun v => @Option.rec (List Value) (fun _ => Option (List Value)) none (fun vs => some (v :: vs)) (valsK T l)) (opvK x T)) = _
    rw [valsK_eq T l, opvK_eq, valsV_cons]
    cases opV T x with
    | none => rfl
    | some v => cases valsV (opV T) l <;> rfl
def fnId (f : Fn) : Option FuncId := match f with
  | .func f => some f
  | _ => none
def frefD (f : Fn) (p q : Array Value) (vs : List Value) (C : Caller) (H : Heap) : OR := @Option.rec FuncId (fun _ => OR) none (fun fid => C.call fid (endK (apK p.toList vs) q.toList) H) (fnId f)
def yldD (k : FloatKind) (id : Nat) (vs : List Value) (C : Caller) (H : Heap) : OR := @FloatKind.rec (fun _ => OR) (C.yield id vs H) none k
def fnD : Value → List Value → Caller → Heap → OR := @Value.rec (fun _ => List Value → Caller → Heap → OR) (fun _ => Unit) (fun _ => Unit) (fun _ => fun _ _ _ => none) (fun _ _ => fun _ _ _ => none) yldD (fun _ _ _ => fun _ _ _ => none) (fun _ => fun _ _ _ => none) (fun _ => fun _ _ _ => none) (fun _ _ _ => fun _ _ _ => none) (fun _ => fun _ _ _ => none) (fun _ => fun _ _ _ => none) (fun f p q _ _ => frefD f p q) (fun _ _ _ => none) (fun _ _ _ => fun _ _ _ => none) (fun _ _ _ => none) (fun _ _ => fun _ _ _ => none) (fun _ _ => fun _ _ _ => none) (fun _ _ => ()) () (fun _ _ _ _ => ())
def callVal (f : Operand) (c : Call) : OpR := fun P C T H => thenV (opvK f T) fun fv => @Option.rec (List Value) (fun _ => OR) none (fun vs => fnD fv vs C H) (valsK T c.args.toList)
def kAny (c : Call) : OpR := fun P C T H => runOp P C (fun x => opvK x T) H (.call c)
def kEff (b : Builtin) (c : Call) : OpR := fun P C T H => @Option.rec (List Value) (fun _ => OR) none (fun vs => callE P H b c.argTypes.toList vs) (valsK T c.args.toList)
def lenArg (a : List Operand) (t : List TypeId) : Option (Operand × TypeId) := match a, t with
  | [x], t :: _ => some (x, t)
  | _, _ => none
def lenK (c : Call) : Program → Tr Value → Option Value := fun P T => @Option.rec (Operand × TypeId) (fun _ => Option Value) none (fun p => @Option.rec Value (fun _ => Option Value) none (fun v => lenF P p.2 v) (opvK p.1 T)) (lenArg c.args.toList c.argTypes.toList)
def kLen (c : Call) : OpR := fun P C T H => @Option.rec Value (fun _ => OR) (kAny c P C T H) (fun u => some (u, H)) (lenK c P T)
def builtD : Builtin → Call → OpR := @Builtin.rec (fun _ => Call → OpR) (kEff .append) kAny kAny kAny kAny (kEff .copy) kAny kAny kLen kAny kAny kAny kAny kAny kAny kAny kAny kAny kAny kAny kAny kAny kAny kAny kAny kAny
def calleeD : Callee → Call → OpR := @Callee.rec (fun _ => Call → OpR) callVal (fun _ _ => kAny) builtD
def kCall (c : Call) : OpR := calleeD c.callee c
theorem callVal_eq (f : Operand) (ar : Array Operand) (ts : Array TypeId) (P : Program) (C : Caller) (T : Tr Value) (H : Heap) : callVal f ⟨.value f, ar, ts⟩ P C T H = runOp P C (opV T) H (.call ⟨.value f, ar, ts⟩) := by
  show thenV (opvK f T) _ = _
  have he : evOp P (opV T) H (.call ⟨.value f, ar, ts⟩) = none := by unfold evOp; simp only [evP, evRd, evR, evN, evE]
  unfold runOp calleeV yieldV
  simp only [he]
  rw [opvK_eq]
  cases opV T f with
  | none => rfl
  | some fv =>
    show (@Option.rec (List Value) (fun _ => OR) none (fun vs => fnD fv vs C H) (valsK T ar.toList)) = _
    rw [valsK_eq]
    cases valsV (opV T) ar.toList with
    | none =>
      cases fv <;> try rfl
      next k id => cases k <;> rfl
      next fn p q => cases fn <;> first | rfl | (cases p; cases q; rfl)
    | some vs =>
      show fnD fv vs C H = _
      cases fv <;> try rfl
      next k id => cases k <;> rfl
      next fn p q =>
        cases fn <;> try rfl
        next fid =>
          obtain ⟨p⟩ := p; obtain ⟨q⟩ := q
          show C.call fid (endK (apK p vs) q) H = _
          rw [endK_eq, apK_eq]
theorem kEff_eq (b : Builtin) (hb : b = .append ∨ b = .copy) (ar : Array Operand) (ts : Array TypeId) (P : Program) (C : Caller) (T : Tr Value) (H : Heap) : kEff b ⟨.builtin b, ar, ts⟩ P C T H = runOp P C (opV T) H (.call ⟨.builtin b, ar, ts⟩) := by
  show (@Option.rec (List Value) (fun _ => OR) none (fun vs => callE P H b ts.toList vs) (valsK T ar.toList)) = _
  rw [valsK_eq]
  unfold runOp calleeV yieldV evOp
  simp only [evP, evRd, evR, evN, evE]
  rcases hb with rfl | rfl
  · cases valsV (opV T) ar.toList <;> rfl
  · cases valsV (opV T) ar.toList <;> rfl
theorem kLen_eq (ar : Array Operand) (ts : Array TypeId) (P : Program) (C : Caller) (T : Tr Value) (H : Heap) : kLen ⟨.builtin .len, ar, ts⟩ P C T H = runOp P C (opV T) H (.call ⟨.builtin .len, ar, ts⟩) := by
  have hρ : (fun x => opvK x T) = opV T := funext fun x => opvK_eq x T
  unfold kLen
  cases hl : lenK ⟨.builtin .len, ar, ts⟩ P T with
  | none => show runOp P C (fun x => opvK x T) H _ = _; rw [hρ]
  | some u =>
    show some (u, H) = _
    unfold lenK at hl
    cases ha : lenArg ar.toList ts.toList with
    | none => simp only [ha] at hl; cases hl
    | some p =>
      obtain ⟨x, t⟩ := p
      simp only [ha] at hl
      rw [opvK_eq] at hl
      cases hx : opV T x with
      | none => rw [hx] at hl; cases hl
      | some v =>
        rw [hx] at hl
        have hl : lenF P t v = some u := hl
        rw [lenF_eq] at hl
        unfold lenArg at ha
        split at ha
        · next y t' r e1 e2 =>
          cases ha
          have : evP P (opV T) (.call ⟨.builtin .len, ar, ts⟩) = some u := by
            simp only [evP, e1, valsV_cons, valsV_nil, hx, callP, e2, hl]
          unfold runOp calleeV yieldV evOp
          simp only [this]
        · cases ha
theorem kAny_eq (c : Call) (P : Program) (C : Caller) (T : Tr Value) (H : Heap) : kAny c P C T H = runOp P C (opV T) H (.call c) := by
  have hρ : (fun x => opvK x T) = opV T := funext fun x => opvK_eq x T
  unfold kAny; rw [hρ]
theorem kCall_eq (c : Call) (P : Program) (C : Caller) (T : Tr Value) (H : Heap) : kCall c P C T H = runOp P C (opV T) H (.call c) := by
  have hρ : (fun x => opvK x T) = opV T := funext fun x => opvK_eq x T
  obtain ⟨cl, ar, ts⟩ := c
  cases cl with
  | value f => exact callVal_eq f ar ts P C T H
  | invoke r m => exact kAny_eq ⟨.invoke r m, ar, ts⟩ P C T H
  | builtin b =>
    cases b
    case append => exact kEff_eq _ (.inl rfl) ar ts P C T H
    case copy => exact kEff_eq _ (.inr rfl) ar ts P C T H
    case len => exact kLen_eq ar ts P C T H
    case cap => exact kAny_eq ⟨.builtin .cap, ar, ts⟩ P C T H
    case clear => exact kAny_eq ⟨.builtin .clear, ar, ts⟩ P C T H
    case close => exact kAny_eq ⟨.builtin .close, ar, ts⟩ P C T H
    case complex => exact kAny_eq ⟨.builtin .complex, ar, ts⟩ P C T H
    case delete => exact kAny_eq ⟨.builtin .delete, ar, ts⟩ P C T H
    case imag => exact kAny_eq ⟨.builtin .imag, ar, ts⟩ P C T H
    case make => exact kAny_eq ⟨.builtin .make, ar, ts⟩ P C T H
    case max => exact kAny_eq ⟨.builtin .max, ar, ts⟩ P C T H
    case min => exact kAny_eq ⟨.builtin .min, ar, ts⟩ P C T H
    case new => exact kAny_eq ⟨.builtin .new, ar, ts⟩ P C T H
    case panic => exact kAny_eq ⟨.builtin .panic, ar, ts⟩ P C T H
    case print => exact kAny_eq ⟨.builtin .print, ar, ts⟩ P C T H
    case println => exact kAny_eq ⟨.builtin .println, ar, ts⟩ P C T H
    case real => exact kAny_eq ⟨.builtin .real, ar, ts⟩ P C T H
    case recover => exact kAny_eq ⟨.builtin .recover, ar, ts⟩ P C T H
    case unsafeAdd => exact kAny_eq ⟨.builtin .unsafeAdd, ar, ts⟩ P C T H
    case unsafeSlice => exact kAny_eq ⟨.builtin .unsafeSlice, ar, ts⟩ P C T H
    case unsafeSliceData => exact kAny_eq ⟨.builtin .unsafeSliceData, ar, ts⟩ P C T H
    case unsafeString => exact kAny_eq ⟨.builtin .unsafeString, ar, ts⟩ P C T H
    case unsafeStringData => exact kAny_eq ⟨.builtin .unsafeStringData, ar, ts⟩ P C T H
    case unsafeSizeof => exact kAny_eq ⟨.builtin .unsafeSizeof, ar, ts⟩ P C T H
    case unsafeAlignof => exact kAny_eq ⟨.builtin .unsafeAlignof, ar, ts⟩ P C T H
    case unsafeOffsetof => exact kAny_eq ⟨.builtin .unsafeOffsetof, ar, ts⟩ P C T H
theorem newO_eq (H : Heap) (o : Option (AObj × Mk)) : newO H o = match o with
    | some (ob, m) => (H.add ob).map fun H' => (m.val H.next, H')
    | none => none := by
  cases o with
  | none => rfl
  | some p => obtain ⟨ob, m⟩ := p; show (@Option.rec Heap (fun _ => OR) none (fun H' => some (m.val H.next, H')) (H.add ob)) = (H.add ob).map _; cases H.add ob <;> rfl
def opD : Op → OpR :=
  @Op.rec (fun _ => OpR)
    kMove
    kMove
    kPick
    kAlloc
    kBox
    kBuild
    kBuildSlice
    (fun x0 x1 x2 x3 P C T H => runOp P C (fun x => opvK x T) H (.insert x0 x1 x2 x3))
    kLoad
    kStore
    (fun x0 P C T H => runOp P C (fun x => opvK x T) H (.ready x0))
    (fun x0 P C T H => runOp P C (fun x => opvK x T) H (.waits x0))
    kNil
    kBin
    kUn
    kConv
    (fun x0 x1 P C T H => runOp P C (fun x => opvK x T) H (.sliceToArrayPointer x0 x1))
    kIface
    (fun x0 x1 x2 P C T H => runOp P C (fun x => opvK x T) H (.makeFunc x0 x1 x2))
    (fun x0 x1 P C T H => runOp P C (fun x => opvK x T) H (.makeMap x0 x1))
    (fun x0 x1 P C T H => runOp P C (fun x => opvK x T) H (.makeChan x0 x1))
    kMkSlice
    kSlice
    kFieldAddr
    kField
    kIndexAddr
    kIndex
    (fun x0 x1 x2 x3 P C T H => runOp P C (fun x => opvK x T) H (.lookup x0 x1 x2 x3))
    (fun x0 x1 x2 x3 P C T H => runOp P C (fun x => opvK x T) H (.mapUpdate x0 x1 x2 x3))
    (fun x0 x1 x2 P C T H => runOp P C (fun x => opvK x T) H (.mapEntry x0 x1 x2))
    (fun x0 x1 x2 x3 P C T H => runOp P C (fun x => opvK x T) H (.entryStore x0 x1 x2 x3))
    (fun x0 x1 P C T H => runOp P C (fun x => opvK x T) H (.range x0 x1))
    (fun x0 x1 P C T H => runOp P C (fun x => opvK x T) H (.next x0 x1))
    (fun x0 P C T H => runOp P C (fun x => opvK x T) H (.entry x0))
    (fun x0 x1 x2 x3 P C T H => runOp P C (fun x => opvK x T) H (.typeAssert x0 x1 x2 x3))
    kExtract
    kCall
    (fun x0 P C T H => runOp P C (fun x => opvK x T) H (.go x0))
    (fun x0 P C T H => runOp P C (fun x => opvK x T) H (.defer x0))
    (fun x0 P C T H => runOp P C (fun x => opvK x T) H (.panic x0))
    (fun x0 x1 P C T H => runOp P C (fun x => opvK x T) H (.send x0 x1))
    (fun x0 x1 x2 P C T H => runOp P C (fun x => opvK x T) H (.recv x0 x1 x2))
    (fun x0 x1 P C T H => runOp P C (fun x => opvK x T) H (.select x0 x1))
def opK (P : Program) (C : Caller) (T : Tr Value) (H : Heap) (op : Op) : OR := opD op P C T H
theorem retV_eq (H : Heap) (o : Option Value) : retV H o = match o with | some v => some (v, H) | none => none := by cases o <;> rfl
theorem opK_eq (P : Program) (C : Caller) (T : Tr Value) (H : Heap) (op : Op) : opK P C T H op = runOp P C (opV T) H op := by
  have hρ : (fun x => opvK x T) = opV T := funext fun x => opvK_eq x T
  cases op
  case move x => show retV H (opvK x T) = _; rw [opvK_eq, retV_eq]; unfold runOp evOp; simp only [evP, evRd, evR, evN, evE]; try (cases opV T x <;> rfl)
  case assign x => show retV H (opvK x T) = _; rw [opvK_eq, retV_eq]; unfold runOp evOp; simp only [evP, evRd, evR, evN, evE]; try (cases opV T x <;> rfl)
  case load t a => show thenV (opvK a T) _ = _; rw [opvK_eq]; unfold runOp evOp; simp only [evP, evRd, evR, evN, evE]; cases opV T a with
    | none => rfl
    | some v => show retV H (loadF P H t v) = _; rw [loadF_eq, retV_eq]; try (simp only []); try (cases loadV P H t v <;> rfl)
  case store t a x => show thenV (opvK a T) _ = _; rw [opvK_eq]; unfold runOp evOp; simp only [evP, evRd, evR, evN, evE]; cases opV T a with
    | none => rfl
    | some v => show thenV (opvK x T) _ = _; rw [opvK_eq]; cases opV T x with
      | none => rfl
      | some u => show storeF P H t v u = _; rw [storeF_eq]
  case fieldAddr s x f => show thenV (opvK x T) _ = _; rw [opvK_eq]; unfold runOp evOp; simp only [evP, evRd, evR, evN, evE]; cases opV T x with
    | none => rfl
    | some v => show retV H (fieldF P s v f) = _; rw [fieldF_eq, retV_eq]; try (simp only []); try (cases fieldAddrV P s v f <;> rfl)
  case extract x i => show thenV (opvK x T) _ = _; rw [opvK_eq]; unfold runOp evOp; simp only [evP, evRd, evR, evN, evE]; cases opV T x with
    | none => rfl
    | some v => show retV H (extractV v i) = _; rw [retV_eq]; try (simp only []); try (cases extractV v i <;> rfl)
  case binOp op t x y u => show thenV (opvK x T) _ = _; rw [opvK_eq]; unfold runOp evOp; simp only [evP, evRd, evR, evN, evE]; cases opV T x with
    | none => rfl
    | some v => show thenV (opvK y T) _ = _; rw [opvK_eq]; cases opV T y with
      | none => rfl
      | some b => show retV H (binK P op t x y v b) = _; rw [binK_eq, retV_eq]; try (simp only []); try (cases binV P op t (isC x || isC y) v b <;> rfl)
  case indexAddr t x i => show thenV (opvK x T) _ = _; rw [opvK_eq]; unfold runOp evOp; simp only [evP, evRd, evR, evN, evE]; cases opV T x with
    | none => rfl
    | some v => show thenV (opvK i T) _ = _; rw [opvK_eq]; cases opV T i with
      | none => rfl
      | some j => show retV H (indexK P t v j) = _; rw [indexK_eq, retV_eq]; try (simp only []); try (cases indexAddrV P t v j <;> rfl)
  case unOp op t x => show thenV (opvK x T) _ = _; rw [opvK_eq]; unfold runOp evOp; simp only [evP, evRd, evR, evN, evE]; cases opV T x with
    | none => rfl
    | some v => show retV H (unK op v) = _; rw [unK_eq, retV_eq]; try (simp only []); try (cases unV op v <;> rfl)
  case pick c x y => show thenV (opvK c T) _ = _; rw [opvK_eq]; unfold runOp evOp; simp only [evP, evRd, evR, evN, evE]; cases opV T c with
    | none => rfl
    | some v =>
      show retV H (pickK x y T v) = _
      cases v <;> try rfl
      next b => cases b with
        | true => show retV H (opvK x T) = _; rw [opvK_eq, retV_eq]; try (simp only []); try (cases opV T x <;> rfl)
        | false => show retV H (opvK y T) = _; rw [opvK_eq, retV_eq]; try (simp only []); try (cases opV T y <;> rfl)
  case nilCheck x => show thenV (opvK x T) _ = _; rw [opvK_eq]; unfold runOp evOp; simp only [evP, evRd, evR, evN, evE]; cases opV T x with
    | none => rfl
    | some v =>
      show retV H (nilK v) = _
      cases v <;> try rfl
      next p => cases p <;> rfl
      next f p q => cases f <;> rfl
  case alloc t => show newO H (allocV P t) = _; rw [newO_eq]; unfold runOp evOp; simp only [evP, evRd, evR, evN, evE]; try (cases allocV P t <;> rfl)
  case box t x => show thenV (opvK x T) _ = _; rw [opvK_eq]; unfold runOp evOp; simp only [evP, evRd, evR, evN, evE]; cases opV T x with
    | none => rfl
    | some v => show newO H (some (boxV v)) = _; rw [newO_eq]
  case makeSlice t l c => show thenV (opvK l T) _ = _; rw [opvK_eq]; unfold runOp evOp; simp only [evP, evRd, evR, evN, evE]; cases opV T l with
    | none => rfl
    | some v => show thenV (opvK c T) _ = _; rw [opvK_eq]; cases opV T c with
      | none => rfl
      | some u => show newO H (makeSliceV P t v u) = _; rw [newO_eq]; try (simp only []); cases makeSliceV P t v u <;> rfl
  case buildSlice t n ps => show (@Option.rec (List (Nat × Value)) (fun _ => OR) none (fun l => newO H (buildSliceV P t n l)) (partsK T ps.toList)) = _; rw [partsK_eq]; unfold runOp evOp; simp only [evP, evRd, evR, evN, evE]; cases partsV (opV T) ps.toList with
    | none => rfl
    | some l => show newO H (buildSliceV P t n l) = _; rw [newO_eq]; try (simp only []); cases buildSliceV P t n l <;> rfl
  case build t ps => show (@Option.rec (List (Nat × Value)) (fun _ => OR) none (fun l => retV H (buildV P t l)) (partsK T ps.toList)) = _; rw [partsK_eq]; unfold runOp evOp; simp only [evP, evRd, evR, evN, evE]; cases partsV (opV T) ps.toList with
    | none => rfl
    | some l => show retV H (buildV P t l) = _; rw [retV_eq]; try (simp only []); cases buildV P t l <;> rfl
  case slice t x lo hi mx => show thenV (opvK x T) _ = _; rw [opvK_eq]; unfold runOp evOp; simp only [evP, evRd, evR, evN, evE]; cases opV T x with
    | none => rfl
    | some v => show thenO (optK T lo) _ = _; rw [optK_eq]; cases optV (opV T) lo with
      | none => rfl
      | some l => show thenO (optK T hi) _ = _; rw [optK_eq]; cases optV (opV T) hi with
        | none => rfl
        | some h => show thenO (optK T mx) _ = _; rw [optK_eq]; cases optV (opV T) mx with
          | none => rfl
          | some m => show retV H (sliceV P t v l h m) = _; rw [retV_eq]; try (simp only []); cases sliceV P t v l h m <;> rfl
  case field t x f => show thenV (opvK x T) _ = _; rw [opvK_eq]; unfold runOp evOp; simp only [evP, evRd, evR, evN, evE]; cases opV T x with
    | none => rfl
    | some v => show retV H (fieldV P t v f) = _; rw [retV_eq]; try (simp only []); try (cases fieldV P t v f <;> rfl)
  case index t x i => show thenV (opvK x T) _ = _; rw [opvK_eq]; unfold runOp evOp; simp only [evP, evRd, evR, evN, evE]; cases opV T x with
    | none => rfl
    | some v => show thenV (opvK i T) _ = _; rw [opvK_eq]; cases opV T i with
      | none => rfl
      | some j => show retV H (indexV P t v j) = _; rw [retV_eq]; try (simp only []); try (cases indexV P t v j <;> rfl)
  case makeInterface t x => show thenV (opvK x T) _ = _; rw [opvK_eq]; unfold runOp evOp; simp only [evP, evRd, evR, evN, evE]; cases opV T x with
    | none => rfl
    | some v => show retV H (ifaceV P t v) = _; rw [retV_eq]; try (simp only []); try (cases ifaceV P t v <;> rfl)
  case call c => exact kCall_eq c P C T H
  case convert p d x => show thenV (opvK x T) _ = _; rw [opvK_eq]; cases hx : opV T x with
    | none =>
      show none = _
      unfold runOp evOp; simp only [evP, evRd, evR, evN, evE, hx]
    | some v =>
      show (@Option.rec Value (fun _ => OR) (runOp P C (fun x => opvK x T) H (.convert p d x)) (fun u => some (u, H)) (fastConv P p d v)) = _
      cases hf : fastConv P p d v with
      | none => rw [← hρ]
      | some u =>
        show some (u, H) = _
        unfold runOp evOp; simp only [evP, hx, fastConv_ok hf]
  all_goals (rw [← hρ]; rfl)
abbrev SR := Option (Tr Value × Heap)
def putsT (nt : Nat) (dst : Option Tmp) (T : Tr Value) (ih : Tr Value → Heap → SR) (H : Heap) (v : Value) : SR :=
  @Option.rec Tmp (fun _ => SR) (ih T H) (fun d => @Bool.rec (fun _ => SR) none (@Option.rec (Tr Value) (fun _ => SR) none (fun T' => ih T' H) (Tr.set 40 T d (some v))) (Nat.blt d nt)) dst
theorem putsT_eq (nt : Nat) (dst : Option Tmp) (T : Tr Value) (ih : Tr Value → Heap → SR) (H : Heap) (v : Value) : putsT nt dst T ih H v = match putT nt T dst v with
    | some T' => ih T' H
    | none => none := by
  unfold putsT putT
  cases dst with
  | none => rfl
  | some d =>
    simp only []
    by_cases h : d < nt
    · rw [if_pos h, show Nat.blt d nt = true from by simpa [Nat.blt_eq] using h]
      cases Tr.set 40 T d (some v) <;> rfl
    · rw [if_neg h, show Nat.blt d nt = false from by cases hb : Nat.blt d nt with | false => rfl | true => exact absurd (by simpa [Nat.blt_eq] using hb) h]
def forceS : Value → (Value → SR) → SR :=
  @Value.rec (fun _ => (Value → SR) → SR) (fun _ => Unit) (fun _ => Unit) (fun b k => @Bool.rec (fun _ => SR) (k (.bool false)) (k (.bool true)) b) (fun d n k => @Int.rec (fun _ => SR) (fun m => @Nat.rec (fun _ => SR) (k (.int d (.ofNat 0))) (fun m _ => k (.int d (.ofNat (Nat.succ m)))) m) (fun m => @Nat.rec (fun _ => SR) (k (.int d (.negSucc 0))) (fun m _ => k (.int d (.negSucc (Nat.succ m)))) m) n) (fun d n k => k (.float d n)) (fun d n m k => k (.complex d n m)) (fun s k => k (.string s)) (fun a k => k (.pointer a)) (fun a n c k => k (.slice a n c)) (fun r k => k (.map r)) (fun r k => k (.chan r)) (fun f p q _ _ k => k (.func f p q)) (fun k => k .nilFunc) (fun t v _ k => k (.iface t v)) (fun k => k .nilIface) (fun c _ k => k (.agg c)) (fun c _ k => k (.tuple c)) (fun _ _ => ()) () (fun _ _ _ _ => ())
theorem forceS_eq (v : Value) (k : Value → SR) : forceS v k = k v := by
  cases v with
  | int d n => cases n with
    | ofNat m => cases m <;> rfl
    | negSucc m => cases m <;> rfl
  | bool b => cases b <;> rfl
  | _ => rfl
def contK (nt : Nat) (dst : Option Tmp) (T : Tr Value) (ih : Tr Value → Heap → SR) (r : OR) : SR :=
  @Option.rec (Value × Heap) (fun _ => SR) none (fun p => @Prod.rec Value Heap (fun _ => SR) (fun v H' => forceS v (putsT nt dst T ih H')) p) r
def strC : Value → (ByteArray → Option Value) → Option Value := @Value.rec (fun _ => (ByteArray → Option Value) → Option Value) (fun _ => Unit) (fun _ => Unit) (fun _ => fun _ => none) (fun _ _ => fun _ => none) (fun _ _ => fun _ => none) (fun _ _ _ => fun _ => none) (fun s k => k s) (fun _ => fun _ => none) (fun _ _ _ => fun _ => none) (fun _ => fun _ => none) (fun _ => fun _ => none) (fun _ _ _ _ _ => fun _ => none) (fun _ => none) (fun _ _ _ => fun _ => none) (fun _ => none) (fun _ _ => fun _ => none) (fun _ _ => fun _ => none) (fun _ _ => ()) () (fun _ _ _ _ => ())
theorem strC_some {a v : Value} {k : ByteArray → Option Value} (h : strC a k = some v) : ∃ s, a = .string s ∧ k s = some v := by
  cases a <;> try (exact absurd h (by show ¬ none = some v; simp))
  next s => exact ⟨s, rfl, h⟩
def eqBy (l : List UInt8) : List UInt8 → Bool := @List.rec UInt8 (fun _ => List UInt8 → Bool) (fun m => @List.rec UInt8 (fun _ => Bool) true (fun _ _ _ => false) m) (fun x _ ih m => @List.rec UInt8 (fun _ => Bool) false (fun y r _ => @Bool.rec (fun _ => Bool) false (ih r) (Nat.beq x.toNat y.toNat)) m) l
theorem eqBy_eq : ∀ (l m : List UInt8), eqBy l m = (l == m)
  | [], [] => rfl
  | [], _ :: _ => rfl
  | _ :: _, [] => rfl
  | x :: l, y :: m => by
    show (@Bool.rec (fun _ => Bool) false (eqBy l m) (Nat.beq x.toNat y.toNat)) = _
    rw [eqBy_eq l m, List.cons_beq_cons]
    cases hb : Nat.beq x.toNat y.toNat with
    | true =>
      have e : x = y := UInt8.toNat_inj.1 (Nat.eq_of_beq_eq_true hb)
      subst e; simp
    | false =>
      have e : ¬ x = y := fun e => Nat.ne_of_beq_eq_false hb (by rw [e])
      have e2 : (x == y) = false := by simpa using e
      rw [e2]; rfl
def eqS (op : BinOp) (x y : ByteArray) : Option Value := @BinOp.rec (fun _ => Option Value) none none none none none none none none none none none (some (.bool (eqBy x.data.toList y.data.toList))) (some (.bool (@Bool.rec (fun _ => Bool) true false (eqBy x.data.toList y.data.toList)))) none none none none op
def fastS (op : BinOp) (a b : Value) : Option Value := strC a fun x => strC b fun y => eqS op x y
theorem fastS_ok {op : BinOp} {a b v : Value} (h : fastS op a b = some v) (P : Program) (t : TypeId) (c : Bool) : binV P op t c a b = some v := by
  obtain ⟨x, rfl, h1⟩ := strC_some h
  obtain ⟨y, rfl, h2⟩ := strC_some (show strC b (fun y => eqS op x y) = some v from h1)
  show asPure (Go.binOp op t (.string x) (.string y)) = some v
  cases op <;> try (exact absurd h2 (by show ¬ none = some v; simp))
  case eql =>
    have h3 : some (Value.bool (eqBy x.data.toList y.data.toList)) = some v := h2
    rw [str_eql, ByteArray.toList_eq, ByteArray.toList_eq, ← eqBy_eq]; exact h3
  case neq =>
    have h3 : some (Value.bool (@Bool.rec (fun _ => Bool) true false (eqBy x.data.toList y.data.toList))) = some v := h2
    rw [str_neq, ByteArray.toList_eq, ByteArray.toList_eq, ← eqBy_eq, ← h3]
    cases eqBy x.data.toList y.data.toList <;> rfl
def binT (P : Program) (op : BinOp) (t : TypeId) (c : Bool) (a b : Value) : Option Value := @Option.rec Value (fun _ => Option Value) (binV P op t c a b) (fun v => some v) (fastS op a b)
theorem binT_eq (P : Program) (op : BinOp) (t : TypeId) (c : Bool) (a b : Value) : binT P op t c a b = binV P op t c a b := by
  unfold binT
  cases h : fastS op a b with
  | none => rfl
  | some v => exact (fastS_ok h P t c).symm
def getC (T : Tr Value) (t : Nat) (k : Value → SR) : SR := @Option.rec Value (fun _ => SR) (k undef) k (T.get t)
def useC : Operand → Tr Value → (Value → SR) → SR := @Operand.rec (fun _ => Tr Value → (Value → SR) → SR) (fun t T k => getC T t k) (fun v _ k => @Bool.rec (fun _ => SR) none (k v) (plainV v)) (fun _ _ _ => none) (fun f _ k => k (.func (.func f) #[] #[]))
def onV (o : Option Value) (k : Value → SR) : SR := @Option.rec Value (fun _ => SR) none k o
theorem useC_eq (x : Operand) (T : Tr Value) (k : Value → SR) : useC x T k = onV (opvK x T) k := by
  cases x with
  | tmp t => show getC T t k = k (getK T t); unfold getC getK; cases T.get t <;> rfl
  | const v => show (@Bool.rec (fun _ => SR) none (k v) (plainV v)) = onV (@Bool.rec (fun _ => Option Value) none (some v) (plainV v)) k; cases plainV v <;> rfl
  | global g => rfl
  | func f => rfl
abbrev StepC := Program → Caller → Nat → Option Tmp → (Tr Value → Heap → SR) → Tr Value → Heap → SR
def moveC (x : Operand) : StepC := fun _ _ nt dst ih T H => useC x T (putsT nt dst T ih H)
def loadC (t : TypeId) (a : Operand) : StepC := fun P _ nt dst ih T H => useC a T fun a => onV (loadF P H t a) fun v => forceS v (putsT nt dst T ih H)
def binC (op : BinOp) (t : TypeId) (x y : Operand) (_ : TypeId) : StepC := fun P _ nt dst ih T H => useC x T fun a => useC y T fun b => @Option.rec Value (fun _ => SR) (onV (binT P op t (isC x || isC y) a b) fun v => forceS v (putsT nt dst T ih H)) (fun v => forceS v (putsT nt dst T ih H)) (fastV op a b)
def fieldC (s : TypeId) (x : Operand) (f : Nat) : StepC := fun P _ nt dst ih T H => useC x T fun a => onV (fieldF P s a f) (putsT nt dst T ih H)
def storeC (t : TypeId) (a x : Operand) : StepC := fun P _ nt dst ih T H => useC a T fun a => useC x T fun x => contK nt dst T ih (storeF P H t a x)
def genC (f : OpR) : StepC := fun P C nt dst ih T H => contK nt dst T ih (f P C T H)
def runC : Op → StepC :=
  @Op.rec (fun _ => StepC)
    moveC
    moveC
    (fun x0 x1 x2 => genC (kPick x0 x1 x2))
    (fun x0 => genC (kAlloc x0))
    (fun x0 x1 => genC (kBox x0 x1))
    (fun x0 x1 => genC (kBuild x0 x1))
    (fun x0 x1 x2 => genC (kBuildSlice x0 x1 x2))
    (fun x0 x1 x2 x3 => genC (opD (.insert x0 x1 x2 x3)))
    loadC
    storeC
    (fun x0 => genC (opD (.ready x0)))
    (fun x0 => genC (opD (.waits x0)))
    (fun x0 => genC (kNil x0))
    binC
    (fun x0 x1 x2 => genC (kUn x0 x1 x2))
    (fun x0 x1 x2 => genC (kConv x0 x1 x2))
    (fun x0 x1 => genC (opD (.sliceToArrayPointer x0 x1)))
    (fun x0 x1 => genC (kIface x0 x1))
    (fun x0 x1 x2 => genC (opD (.makeFunc x0 x1 x2)))
    (fun x0 x1 => genC (opD (.makeMap x0 x1)))
    (fun x0 x1 => genC (opD (.makeChan x0 x1)))
    (fun x0 x1 x2 => genC (kMkSlice x0 x1 x2))
    (fun x0 x1 x2 x3 x4 => genC (kSlice x0 x1 x2 x3 x4))
    fieldC
    (fun x0 x1 x2 => genC (kField x0 x1 x2))
    (fun x0 x1 x2 => genC (kIndexAddr x0 x1 x2))
    (fun x0 x1 x2 => genC (kIndex x0 x1 x2))
    (fun x0 x1 x2 x3 => genC (opD (.lookup x0 x1 x2 x3)))
    (fun x0 x1 x2 x3 => genC (opD (.mapUpdate x0 x1 x2 x3)))
    (fun x0 x1 x2 => genC (opD (.mapEntry x0 x1 x2)))
    (fun x0 x1 x2 x3 => genC (opD (.entryStore x0 x1 x2 x3)))
    (fun x0 x1 => genC (opD (.range x0 x1)))
    (fun x0 x1 => genC (opD (.next x0 x1)))
    (fun x0 => genC (opD (.entry x0)))
    (fun x0 x1 x2 x3 => genC (opD (.typeAssert x0 x1 x2 x3)))
    (fun x0 x1 => genC (kExtract x0 x1))
    (fun x0 => genC (kCall x0))
    (fun x0 => genC (opD (.go x0)))
    (fun x0 => genC (opD (.defer x0)))
    (fun x0 => genC (opD (.panic x0)))
    (fun x0 x1 => genC (opD (.send x0 x1)))
    (fun x0 x1 x2 => genC (opD (.recv x0 x1 x2)))
    (fun x0 x1 => genC (opD (.select x0 x1)))
theorem contK_some (nt : Nat) (dst : Option Tmp) (T : Tr Value) (ih : Tr Value → Heap → SR) (v : Value) (H : Heap) : contK nt dst T ih (some (v, H)) = putsT nt dst T ih H v := forceS_eq v _
theorem contK_ret (nt : Nat) (dst : Option Tmp) (T : Tr Value) (ih : Tr Value → Heap → SR) (o : Option Value) (H : Heap) : contK nt dst T ih (retV H o) = onV o (putsT nt dst T ih H) := by
  cases o with
  | none => rfl
  | some v => exact contK_some nt dst T ih v H
theorem contK_then (nt : Nat) (dst : Option Tmp) (T : Tr Value) (ih : Tr Value → Heap → SR) (o : Option Value) (k : Value → OR) : contK nt dst T ih (thenV o k) = onV o fun v => contK nt dst T ih (k v) := by
  cases o <;> rfl
theorem runC_eq (op : Op) (P : Program) (C : Caller) (nt : Nat) (dst : Option Tmp) (ih : Tr Value → Heap → SR) (T : Tr Value) (H : Heap) : runC op P C nt dst ih T H = contK nt dst T ih (opK P C T H op) := by
  cases op
  case move x => show useC x T _ = contK nt dst T ih (retV H (opvK x T)); rw [useC_eq, contK_ret]
  case assign x => show useC x T _ = contK nt dst T ih (retV H (opvK x T)); rw [useC_eq, contK_ret]
  case load t a =>
    show useC a T _ = contK nt dst T ih (thenV (opvK a T) fun v => retV H (loadF P H t v))
    rw [useC_eq, contK_then]
    congr 1; funext v
    rw [contK_ret]
    congr 1; funext u
    exact forceS_eq u _
  case binOp op t x y u =>
    show useC x T _ = contK nt dst T ih (thenV (opvK x T) fun a => thenV (opvK y T) fun b => retV H (binK P op t x y a b))
    rw [useC_eq, contK_then]
    congr 1; funext a
    rw [useC_eq, contK_then]
    congr 1; funext b
    rw [contK_ret]
    unfold binK
    rw [binT_eq]
    have e : (fun v => forceS v (putsT nt dst T ih H)) = putsT nt dst T ih H := funext fun v => forceS_eq v _
    rw [e]
    cases fastV op a b <;> rfl
  case fieldAddr s x f =>
    show useC x T _ = contK nt dst T ih (thenV (opvK x T) fun v => retV H (fieldF P s v f))
    rw [useC_eq, contK_then]
    congr 1; funext v
    rw [contK_ret]
  case store t a x =>
    show useC a T _ = contK nt dst T ih (thenV (opvK a T) fun a => thenV (opvK x T) fun x => storeF P H t a x)
    rw [useC_eq, contK_then]
    congr 1; funext a
    rw [useC_eq, contK_then]
  all_goals rfl
def tellB : Value → Bool → Option Bool := @Value.rec (fun _ => Bool → Option Bool) (fun _ => Unit) (fun _ => Unit) (fun b w => @Bool.rec (fun _ => Option Bool) (@Bool.rec (fun _ => Option Bool) (some true) (some false) w) (@Bool.rec (fun _ => Option Bool) (some false) (some true) w) b) (fun _ _ => fun _ => none) (fun _ _ => fun _ => none) (fun _ _ _ => fun _ => none) (fun _ => fun _ => none) (fun _ => fun _ => none) (fun _ _ _ => fun _ => none) (fun _ => fun _ => none) (fun _ => fun _ => none) (fun _ _ _ _ _ => fun _ => none) (fun _ => none) (fun _ _ _ => fun _ => none) (fun _ => none) (fun _ _ => fun _ => none) (fun c _ _ => @List.rec Value (fun _ => Option Bool) (some false) (fun _ _ _ => none) c.toList) (fun _ _ => ()) () (fun _ _ _ _ => ())
def wantedK (ops : Array Oper) (T : Tr Value) (g : Nat × Bool) : Option Bool := @Option.rec Oper (fun _ => Option Bool) none (fun o => @Option.rec Tmp (fun _ => Option Bool) none (fun d => tellB (getK T d) g.2) o.dst) (nthK ops.toList g.1)
theorem wantedK_eq (ops : Array Oper) (T : Tr Value) (g : Nat × Bool) : wantedK ops T g = wantedV ops T (some g) := by
  obtain ⟨j, want⟩ := g
  unfold wantedK wantedV
  rw [nthK_eq]
  simp only []
  cases ops.toList[j]? with
  | none => rfl
  | some o =>
    show (@Option.rec Tmp (fun _ => Option Bool) none (fun d => tellB (getK T d) want) o.dst) = _
    simp only []
    cases o.dst with
    | none => rfl
    | some d =>
      have e : getK T d = (T.get d).getD undef := by unfold getK; cases T.get d <;> rfl
      show tellB (getK T d) want = _
      rw [e]
      simp only []
      generalize (T.get d).getD undef = v
      cases v <;> try rfl
      next b => cases b <;> cases want <;> rfl
      next c => obtain ⟨l⟩ := c; cases l <;> rfl
def seqG (P : Program) (C : Caller) (nt : Nat) (ops : Array Oper) (o : Oper) (ih : Tr Value → Heap → SR) (T : Tr Value) (H : Heap) (g : Nat × Bool) : SR :=
  @Option.rec Bool (fun _ => SR) none (fun b => @Bool.rec (fun _ => SR) (putsT nt o.dst T ih H undef) (runC o.op P C nt o.dst ih T H) b) (wantedK ops T g)
def seqStep (P : Program) (C : Caller) (nt : Nat) (ops : Array Oper) (o : Oper) (ih : Tr Value → Heap → SR) (T : Tr Value) (H : Heap) : SR :=
  @Option.rec (Nat × Bool) (fun _ => SR) (runC o.op P C nt o.dst ih T H) (fun g => seqG P C nt ops o ih T H g) o.guard
def runSeq (P : Program) (callF : Caller) (nt : Nat) (ops : Array Oper) (l : List Oper) : Tr Value → Heap → SR :=
  @List.rec Oper (fun _ => Tr Value → Heap → SR) (fun T H => some (T, H)) (fun o _ ih => seqStep P callF nt ops o ih) l
theorem runSeq_cons (P : Program) (callF : Caller) (nt : Nat) (ops : Array Oper) (o : Oper) (rest : List Oper) (T : Tr Value) (H : Heap) : runSeq P callF nt ops (o :: rest) T H = match wantedV ops T o.guard with
    | some true => match runOp P callF (opV T) H o.op with
      | some (v, H') => match putT nt T o.dst v with
        | some T' => runSeq P callF nt ops rest T' H'
        | none => none
      | none => none
    | some false => match putT nt T o.dst undef with
      | some T' => runSeq P callF nt ops rest T' H
      | none => none
    | none => none := by
  show seqStep P callF nt ops o (runSeq P callF nt ops rest) T H = _
  have hc : contK nt o.dst T (runSeq P callF nt ops rest) (opK P callF T H o.op) = match runOp P callF (opV T) H o.op with
      | some (v, H') => match putT nt T o.dst v with
        | some T' => runSeq P callF nt ops rest T' H'
        | none => none
      | none => none := by
    rw [opK_eq]
    unfold contK
    cases runOp P callF (opV T) H o.op with
    | none => rfl
    | some p => obtain ⟨v, H'⟩ := p; show forceS v (putsT nt o.dst T (runSeq P callF nt ops rest) H') = _; rw [forceS_eq, putsT_eq]
  unfold seqStep
  cases hg : o.guard with
  | none => exact (runC_eq o.op P callF nt o.dst (runSeq P callF nt ops rest) T H).trans hc
  | some g =>
    show seqG P callF nt ops o (runSeq P callF nt ops rest) T H g = _
    unfold seqG
    rw [wantedK_eq]
    cases wantedV ops T (some g) with
    | none => rfl
    | some b => cases b with
      | true => exact (runC_eq o.op P callF nt o.dst (runSeq P callF nt ops rest) T H).trans hc
      | false => exact putsT_eq nt o.dst T (runSeq P callF nt ops rest) H undef
theorem runSeq_ok {callF : Caller} {φ0 : Phi} {H0 : Heap} {w0 : World} (hc : CallOk P callF φ0 H0 w0) {ops : Array Oper} {Q : Exit → Act → World → Prop} : ∀ (l : List Oper) (k : Nat) (φ : Phi) (T : Tr Value) (H : Heap) (a : Act) (w : World), (∀ j, l[j]? = ops[k + j]?) → k + l.length = ops.size →
    runSeq P callF nt ops l T H = some (T', H') → Step φ0 H0 w0 φ H w → Rel φ H w → FRel D φ nt T a → (∀ φ' a' w', Rel φ' H' w' → FRel D φ' nt T' a' → Step φ H w φ' H' w' → Q .normal a' w') → wpOpsIn (wideR rd) 0 P ops Q (List.range' k l.length) a w
  | [], k, φ, T, H, a, w, _, _, h, hS0, hR, hF, hQ => by
    cases h
    exact hQ φ a w hR hF (Step.refl _ _ _)
  | o :: rest, k, φ, T, H, a, w, hl, hk, h, hS0, hR, hF, hQ => by
    simp only [List.length_cons] at hk
    have ho : ops[k]? = some o := by simpa using (hl 0).symm
    have hrest : ∀ j, rest[j]? = ops[k + 1 + j]? := fun j => by have := hl (j + 1); simpa [Nat.add_assoc, Nat.add_comm 1 j] using this
    rw [runSeq_cons] at h
    rw [List.length_cons, List.range'_succ, wpOpsIn_cons]
    unfold wpOpIn
    simp only [ho]
    split at h
    · next hw =>
      rw [if_pos (wantedV_ok (fun t _ => hF.vals t) hw)]
      split at h
      · next v H1 hv =>
        split at h
        · next T1 hT =>
          refine runOp_ok hc hS0 hR (opV_ok hF) hv fun φ' x w' hR' hS hx => ?_
          exact runSeq_ok hc rest (k + 1) φ' T1 H1 _ w' hrest (by omega) h (hS0.trans hS) hR' ((hF.le hS.le).put hT hx) fun φ'' a'' w'' r f s => hQ φ'' a'' w'' r f (hS.trans s)
        · cases h
      · cases h
    · next hw =>
      rw [if_neg (by rw [wantedV_ok (fun t _ => hF.vals t) hw]; simp)]
      split at h
      · next T1 hT => exact ⟨fun _ _ => trivial, runSeq_ok hc rest (k + 1) φ T1 H _ w hrest (by omega) h hS0 hR (hF.put hT rfl) hQ⟩
      · cases h
    · cases h
end
end Ev
end Go.Proofs.YtifoekadjnlhcaaGreatDoor
noncomputable section
namespace Go.Proofs.YtifoekadjnlhcaaGreatDoor
open Go.RowKit
set_option linter.unusedVariables false
set_option linter.unusedSimpArgs false
namespace Ev
mutual
def beqV : Value → Value → Bool
  | .pointer a, .pointer b => a == b
  | .slice a n c, .slice b m d => a == b && n == m && c == d
  | .map a, .map b => a == b
  | .chan a, .chan b => a == b
  | .iface t v, .iface u w => t == u && beqV v w
  | .func (.func f) ⟨p⟩ ⟨q⟩, .func (.func g) ⟨r⟩ ⟨s⟩ => f == g && beqL p r && beqL q s
  | .agg ⟨a⟩, .agg ⟨b⟩ => beqL a b
  | .tuple ⟨a⟩, .tuple ⟨b⟩ => beqL a b
  | .float k n, .float j m => k == j && n == m
  | .bool a, .bool b => a == b
  | .int k n, .int j m => k == j && n == m
  | .string a, .string b => a.data.toList == b.data.toList
  | .nilFunc, .nilFunc => true
  | .nilIface, .nilIface => true
  | _, _ => false
def beqL : List Value → List Value → Bool
  | [], [] => true
  | a :: l, b :: m => beqV a b && beqL l m
  | _, _ => false
end
mutual
theorem beqV_eq : ∀ (a b : Value), beqV a b = true → a = b
  | .pointer a, b, h => by cases b <;> simp [beqV] at h; rw [h]
  | .slice a n c, b, h => by cases b <;> simp [beqV] at h; obtain ⟨⟨rfl, rfl⟩, rfl⟩ := h; rfl
  | .map a, b, h => by cases b <;> simp [beqV] at h; rw [h]
  | .chan a, b, h => by cases b <;> simp [beqV] at h; rw [h]
  | .func fn ⟨p⟩ ⟨q⟩, b, h => by
    cases b <;> try (simp [beqV] at h; done)
    next gn r s =>
      obtain ⟨r⟩ := r
      obtain ⟨s⟩ := s
      cases fn <;> cases gn <;> try (simp [beqV] at h; done)
      next f g =>
        simp only [beqV, Bool.and_eq_true, beq_iff_eq] at h
        rw [h.1.1, beqL_eq p r h.1.2, beqL_eq q s h.2]
  | .iface t v, b, h => by
    cases b <;> simp only [beqV] at h <;> try cases h
    simp only [Bool.and_eq_true, beq_iff_eq] at h
    rw [h.1, beqV_eq v _ h.2]
  | .agg ⟨p⟩, b, h => by
    cases b <;> simp only [beqV] at h <;> try cases h
    next c => obtain ⟨c⟩ := c; simp only [beqV] at h; rw [beqL_eq p c h]
  | .tuple ⟨p⟩, b, h => by
    cases b <;> simp only [beqV] at h <;> try cases h
    next c => obtain ⟨c⟩ := c; simp only [beqV] at h; rw [beqL_eq p c h]
  | .float k n, b, h => by cases b <;> simp [beqV] at h; rw [h.1, h.2]
  | .complex k n m, b, h => by cases b <;> simp [beqV] at h
  | .bool a, b, h => by cases b <;> simp [beqV] at h; rw [h]
  | .int k n, b, h => by cases b <;> simp [beqV] at h; rw [h.1, h.2]
  | .string a, b, h => by
    cases b <;> simp only [beqV] at h <;> try cases h
    next b =>
    obtain ⟨a⟩ := a; obtain ⟨b⟩ := b
    simp only [beq_iff_eq] at h
    have : a = b := Array.toList_inj.1 h
    rw [this]
  | .nilFunc, b, h => by cases b <;> simp [beqV] at h; rfl
  | .nilIface, b, h => by cases b <;> simp [beqV] at h; rfl
theorem beqL_eq : ∀ (a b : List Value), beqL a b = true → a = b
  | [], [], _ => rfl
  | [], _ :: _, h => by simp [beqL] at h
  | _ :: _, [], h => by simp [beqL] at h
  | x :: l, y :: m, h => by
    simp only [beqL, Bool.and_eq_true] at h
    rw [beqV_eq x y h.1, beqL_eq l m h.2]
end
def beqC : List (Option Value) → List (Option Value) → Bool
  | [], [] => true
  | none :: l, none :: m => beqC l m
  | some a :: l, some b :: m => beqV a b && beqC l m
  | _, _ => false
theorem beqC_eq : ∀ (a b : List (Option Value)), beqC a b = true → a = b
  | [], [], _ => rfl
  | none :: l, none :: m, h => by rw [beqC_eq l m (by simpa [beqC] using h)]
  | some a :: l, some b :: m, h => by simp only [beqC, Bool.and_eq_true] at h; rw [beqV_eq a b h.1, beqC_eq l m h.2]
  | [], _ :: _, h => by simp [beqC] at h
  | none :: _, [], h => by simp [beqC] at h
  | some _ :: _, [], h => by simp [beqC] at h
  | none :: _, some _ :: _, h => by simp [beqC] at h
  | some _ :: _, none :: _, h => by simp [beqC] at h
def beqO : AObj → AObj → Bool
  | .cells l o m, .cells l' o' m' => beqC l l' && o == o' && m == m'
  | .map [] c, .map [] d => c == d
  | _, _ => false
theorem beqO_eq : ∀ (a b : AObj), beqO a b = true → a = b
  | .cells l o m, b, h => by
    cases b <;> simp only [beqO] at h <;> try cases h
    simp only [Bool.and_eq_true, beq_iff_eq] at h
    rw [beqC_eq _ _ h.1.1, h.1.2, h.2]
  | .map es c, b, h => by
    cases es <;> cases b <;> simp only [beqO] at h <;> try cases h
    next es d => cases es <;> simp [beqO] at h; rw [h]
  | .siter _ _, b, h => by cases b <;> simp [beqO] at h
  | .miter _ _ _ _, b, h => by cases b <;> simp [beqO] at h
  | .typed _ _ _, b, h => by cases b <;> simp [beqO] at h
structure Lvl where
  ns : List Nat
  cs : List Nat
  e : Option Nat
def Lvl.ord (l : Lvl) : List Nat := l.ns ++ l.e.toList
abbrev Plan := List Lvl
def Plan.ord (p : Plan) : List Nat := p.flatMap Lvl.ord
def waits1 (m : List Nat) (o : Oper) : Nat := o.after.toList.foldl (fun s e => if Region.binds .any e && decide (e.on < m.length) then s ||| 2 ^ e.on ||| m.getD e.on 0 else s) 0
def waits : List Nat → List Oper → List Nat
  | m, [] => m
  | m, o :: l => waits (m ++ [waits1 m o]) l
def dep' (M : List Nat) (j i : Nat) : Bool := (M.getD j 0).testBit i
def hazB (ops : Array Oper) (M : List Nat) (i j : Nat) : Bool :=
  match ops.toList[i]?, ops.toList[j]? with
  | some oi, some oj => match oi.dst with
    | some d => i == j || (oj.dst != some d && (!(oj.looksAt ops).contains d || dep' M j i || dep' M i j))
    | none => true
  | _, _ => true
def chkB (M : List Nat) : Plan → (before : List Nat) → (opened : Option Nat) → Bool
  | [], _, _ => true
  | l :: p, before, opened =>
    (l.ns.all fun i => l.cs.contains i) &&
    (match opened with
     | some e => (before.all fun i => dep' M e i || l.cs.contains i) && (l.ns.all fun i => dep' M i e) && (match l.e with | some e' => dep' M e' e | none => true)
     | none => before.isEmpty) &&
    (match l.e, p with
     | some _, _ :: _ => true
     | none, [] => true
     | _, _ => false) &&
    chkB M p (before ++ l.ns) l.e
def behindB (ops : Array Oper) : List Nat → List Nat → Bool
  | _, [] => true
  | done, i :: l => !done.contains i && decide (i < ops.size) && (match ops.toList[i]? with | some o => o.after.all fun e => !Region.binds .any e || done.contains e.on | none => false) && behindB ops (i :: done) l
def planOk (ops : Array Oper) (p : Plan) : Bool :=
  let M := waits [] ops.toList
  Region.noSelect ops && (List.range ops.size).all (fun i => p.ord.contains i) && behindB ops [] p.ord && chkB M p [] none && (List.range ops.size).all fun i => (List.range ops.size).all fun j => hazB ops M i j
def memK (d : Nat) (l : List Nat) : Bool := @List.rec Nat (fun _ => Bool) false (fun x _ ih => @Bool.rec (fun _ => Bool) ih true (Nat.beq x d)) l
theorem memK_eq (d : Nat) : ∀ l, memK d l = true ↔ d ∈ l
  | [] => by simp [memK]
  | x :: l => by
    show (@Bool.rec (fun _ => Bool) (memK d l) true (Nat.beq x d)) = true ↔ _
    cases h : Nat.beq x d with
    | true => simp [Nat.eq_of_beq_eq_true h]
    | false =>
      have := Nat.ne_of_beq_eq_false h
      show memK d l = true ↔ _
      rw [memK_eq d l, List.mem_cons]
      constructor
      · exact .inr
      · rintro (rfl | h2)
        · exact absurd rfl this
        · exact h2
abbrev Dat := List (Option Nat × List Nat)
def depAny (M : List Nat) (i j : Nat) : Bool := @Bool.rec (fun _ => Bool) (dep' M i j) true (dep' M j i)
def pairK (M : List Nat) (i d j : Nat) (x : Option Nat × List Nat) : Bool :=
  @Bool.rec (fun _ => Bool) (@Bool.rec (fun _ => Bool) true (depAny M i j) (memK d x.2)) false (@Option.rec Nat (fun _ => Bool) false (fun e => Nat.beq e d) x.1)
def innerK (M : List Nat) (i d : Nat) (L : Dat) : Nat → Bool :=
  @List.rec (Option Nat × List Nat) (fun _ => Nat → Bool) (fun _ => true) (fun x _ ih j => @Bool.rec (fun _ => Bool) (@Bool.rec (fun _ => Bool) false (ih (Nat.succ j)) (pairK M i d j x)) (ih (Nat.succ j)) (Nat.beq i j)) L
def outerK (M : List Nat) (D : Dat) (L : Dat) : Nat → Bool :=
  @List.rec (Option Nat × List Nat) (fun _ => Nat → Bool) (fun _ => true) (fun x _ ih i => @Option.rec Nat (fun _ => Bool) (ih (Nat.succ i)) (fun d => @Bool.rec (fun _ => Bool) false (ih (Nat.succ i)) (innerK M i d D 0)) x.1) L
theorem pairK_ok {M : List Nat} {i d j : Nat} {x : Option Nat × List Nat} (h : pairK M i d j x = true) : x.1 ≠ some d ∧ (d ∈ x.2 → dep' M j i = true ∨ dep' M i j = true) := by
  unfold pairK at h
  obtain ⟨a, l⟩ := x
  cases ha : (@Option.rec Nat (fun _ => Bool) false (fun e => Nat.beq e d) a) with
  | true => simp only [ha] at h; cases h
  | false =>
    simp only [ha] at h
    refine ⟨fun e => ?_, fun hm => ?_⟩
    · have e : a = some d := e
      subst e
      have ha : Nat.beq d d = false := ha
      simp at ha
    · rw [(memK_eq d l).2 hm] at h
      have h : depAny M i j = true := h
      unfold depAny at h
      cases hd : dep' M j i with
      | true => exact .inl rfl
      | false => rw [hd] at h; exact .inr h
theorem innerK_ok {M : List Nat} {i d : Nat} : ∀ (L : Dat) (k : Nat), innerK M i d L k = true → ∀ m x, L[m]? = some x → i = k + m ∨ pairK M i d (k + m) x = true
  | [], k, _, m, x, hx => by simp at hx
  | y :: L, k, h, m, x, hx => by
    have h : (@Bool.rec (fun _ => Bool) (@Bool.rec (fun _ => Bool) false (innerK M i d L (k + 1)) (pairK M i d k y)) (innerK M i d L (k + 1)) (Nat.beq i k)) = true := h
    cases hb : Nat.beq i k with
    | true =>
      rw [hb] at h
      cases m with
      | zero => exact .inl (by simpa using Nat.eq_of_beq_eq_true hb)
      | succ m => have := innerK_ok L (k + 1) h m x (by simpa using hx); rw [Nat.add_right_comm] at this; exact this
    | false =>
      rw [hb] at h
      cases hp : pairK M i d k y with
      | false => rw [hp] at h; cases h
      | true =>
        rw [hp] at h
        cases m with
        | zero => simp at hx; subst hx; exact .inr hp
        | succ m => have := innerK_ok L (k + 1) h m x (by simpa using hx); rw [Nat.add_right_comm] at this; exact this
theorem outerK_ok {M : List Nat} {D : Dat} : ∀ (L : Dat) (k : Nat), outerK M D L k = true → ∀ m x d, L[m]? = some x → x.1 = some d → innerK M (k + m) d D 0 = true
  | [], k, _, m, x, d, hx, _ => by simp at hx
  | y :: L, k, h, m, x, d, hx, hd => by
    have h : (@Option.rec Nat (fun _ => Bool) (outerK M D L (k + 1)) (fun d => @Bool.rec (fun _ => Bool) false (outerK M D L (k + 1)) (innerK M k d D 0)) y.1) = true := h
    have rest : outerK M D L (k + 1) = true := by
      cases hy : y.1 with
      | none => rw [hy] at h; exact h
      | some e =>
        rw [hy] at h
        cases hi : innerK M k e D 0 with
        | false => simp only [hi] at h; cases h
        | true => simp only [hi] at h; exact h
    cases m with
    | zero =>
      simp at hx; subst hx
      rw [hd] at h
      cases hi : innerK M k d D 0 with
      | false => simp only [hi] at h; cases h
      | true => rfl
    | succ m => have := outerK_ok L (k + 1) rest m x d (by simpa using hx) hd; rw [Nat.add_right_comm] at this; exact this
def datOf (ops : Array Oper) : Dat := ops.toList.map fun o => (o.dst, (o.looksAt ops))
def planOkF (ops : Array Oper) (p : Plan) : Bool :=
  Region.noSelect ops && (List.range ops.size).all (fun i => p.ord.contains i) && behindB ops [] p.ord && chkB (waits [] ops.toList) p [] none && outerK (waits [] ops.toList) (datOf ops) (datOf ops) 0
theorem planOkF_ok {ops : Array Oper} {p : Plan} (h : planOkF ops p = true) : planOk ops p = true := by
  unfold planOkF at h
  unfold planOk
  simp only [Bool.and_eq_true] at h ⊢
  refine ⟨h.1, ?_⟩
  rw [List.all_eq_true]
  intro i hi
  rw [List.all_eq_true]
  intro j hj
  unfold hazB
  split
  · next oi oj h1 h2 =>
    cases hd : oi.dst with
    | none => rfl
    | some d =>
      have e1 : (datOf ops)[i]? = some (oi.dst, oi.looksAt ops) := by unfold datOf; rw [List.getElem?_map, h1]; rfl
      have e2 : (datOf ops)[j]? = some (oj.dst, oj.looksAt ops) := by unfold datOf; rw [List.getElem?_map, h2]; rfl
      have := outerK_ok _ 0 h.2 i _ d e1 hd
      rw [Nat.zero_add] at this
      rcases innerK_ok _ 0 this j _ e2 with h3 | h3
      · rw [Nat.zero_add] at h3; subst h3; simp
      · rw [Nat.zero_add] at h3
        obtain ⟨h4, h5⟩ := pairK_ok h3
        simp only [Bool.or_eq_true, Bool.and_eq_true, bne_iff_ne, Bool.not_eq_true', beq_iff_eq]
        refine .inr ⟨h4, ?_⟩
        by_cases hm : d ∈ oj.looksAt ops
        · rcases h5 hm with h6 | h6
          · exact .inl (.inr h6)
          · exact .inr h6
        · refine .inl (.inl ?_)
          simpa using hm
  · rfl
inductive Res where
  | still
  | read
  | made (id : Nat) (o : AObj)
  | eff
structure Ent where
  i : Nat
  T : Tr Value
  v : Value
  r : Res
  l : Nat
  H : Heap
  H' : Heap
structure PS where
  T : Tr Value
  H : Heap
  hist : List Ent
  l : Nat
def PS.did (nt : Nat) (s : PS) (o : Oper) (i : Nat) (v : Value) (r : Res) (l : Nat) (H' : Heap) : Option PS :=
  match putT nt s.T o.dst v with
  | some T' => some ⟨T', H', ⟨i, s.T, v, r, l, s.H, H'⟩ :: s.hist, l⟩
  | none => none
def stepN (P : Program) (nt : Nat) (ops : Array Oper) (s : PS) (i : Nat) : Option PS :=
  match ops.toList[i]? with
  | some o => match wantedV ops s.T o.guard with
    | some false => s.did nt o i undef .still s.l s.H
    | some true => match evP P (opV s.T) o.op with
      | some v => s.did nt o i v .still s.l s.H
      | none => match evRd P (opV s.T) s.H o.op with
        | some v => s.did nt o i v .read s.l s.H
        | none => match evN P (opV s.T) o.op with
          | some (ob, m) => match s.H.add ob with
            | some H' => s.did nt o i (m.val s.H.next) (.made s.H.next ob) s.l H'
            | none => none
          | none => none
    | none => none
  | none => none
def recheck (P : Program) (ops : Array Oper) (s : PS) (i : Nat) : Bool :=
  match s.hist.find? (fun e => e.i == i), ops.toList[i]? with
  | some e, some o => match e.r with
    | .read => match evRd P (opV e.T) s.H o.op with
      | some u => beqV u e.v
      | none => false
    | .made id ob => match s.H.get id with
      | some ob' => beqO ob' ob
      | none => false
    | _ => true
  | _, _ => false
def stepE (P : Program) (callF : Caller) (nt : Nat) (ops : Array Oper) (s : PS) (i : Nat) : Option PS :=
  match ops.toList[i]? with
  | some o => match wantedV ops s.T o.guard with
    | some false => s.did nt o i undef .eff (s.l + 1) s.H
    | some true => match runOp P callF (opV s.T) s.H o.op with
      | some (v, H') => s.did nt o i v .eff (s.l + 1) H'
      | none => none
    | none => none
  | none => none
def stepsN (P : Program) (nt : Nat) (ops : Array Oper) : List Nat → PS → Option PS
  | [], s => some s
  | i :: l, s => match stepN P nt ops s i with
    | some s' => stepsN P nt ops l s'
    | none => none
def runPlan (P : Program) (callF : Caller) (nt : Nat) (ops : Array Oper) : Plan → PS → Option PS
  | [], s => some s
  | l :: p, s => match stepsN P nt ops l.ns s with
    | some s1 => if l.cs.all (recheck P ops s1) then
        match l.e with
        | some e => match stepE P callF nt ops s1 e with
          | some s2 => runPlan P callF nt ops p s2
          | none => none
        | none => runPlan P callF nt ops p s1
      else none
    | none => none
end Ev
end Go.Proofs.YtifoekadjnlhcaaGreatDoor
noncomputable section
namespace Go.Proofs.YtifoekadjnlhcaaGreatDoor
open Go.RowKit
set_option linter.unusedVariables false
set_option linter.unusedSimpArgs false
namespace Ev
section
variable {P : Program} {ρ ρ' : Operand → Option Value} {H : Heap}
theorem valsV_congr : ∀ (l : List Operand), (∀ x ∈ l, ρ x = ρ' x) → valsV ρ l = valsV ρ' l
  | [], _ => rfl
  | x :: l, h => by simp only [valsV_cons, h x (by simp), valsV_congr l fun y hy => h y (by simp [hy])]
theorem partsV_congr : ∀ (l : List (Nat × Operand)), (∀ p ∈ l, ρ p.2 = ρ' p.2) → partsV ρ l = partsV ρ' l
  | [], _ => rfl
  | (i, x) :: l, h => by simp only [partsV, h (i, x) (by simp), partsV_congr l fun y hy => h y (by simp [hy])]
theorem optV_congr : ∀ (x : Option Operand), (∀ y, x = some y → ρ y = ρ' y) → optV ρ x = optV ρ' x
  | none, _ => rfl
  | some x, h => by simp only [optV, h x rfl]
theorem call_ops (c : Call) : (Op.call c).operands = c.operands := rfl
theorem args_in {c : Call} {x : Operand} (h : x ∈ c.args.toList) : x ∈ (Op.call c).operands := by
  rw [call_ops]; unfold Call.operands; simp at h ⊢; exact .inr h
theorem evP_congr (op : Op) (h : ∀ x ∈ op.operands, ρ x = ρ' x) : evP P ρ op = evP P ρ' op := by
  unfold evP
  cases op
  case call c =>
    simp only []
    cases hc : c.callee <;> simp only []
    rw [valsV_congr c.args.toList fun x hx => h x (args_in hx)]
  case makeFunc fn first captured =>
    cases fn <;> simp only []
    rw [valsV_congr first.toList fun x hx => h x (by simp [Op.operands] at hx ⊢; exact .inl hx), valsV_congr captured.toList fun x hx => h x (by simp [Op.operands] at hx ⊢; exact .inr hx)]
  case build t ps =>
    simp only []
    rw [partsV_congr ps.toList fun p hp => h p.2 (by simp only [Op.operands, List.mem_toArray, List.mem_map]; exact ⟨p, hp, rfl⟩)]
  case slice t x lo hi mx =>
    simp only []
    rw [h x (by simp [Op.operands]), optV_congr lo fun y hy => h y (by subst hy; simp [Op.operands]), optV_congr hi fun y hy => h y (by subst hy; simp [Op.operands]), optV_congr mx fun y hy => h y (by subst hy; simp [Op.operands])]
  case pick c a b => simp only []; rw [h c (by simp [Op.operands]), h a (by simp [Op.operands]), h b (by simp [Op.operands])]
  case binOp op t x y yt => simp only []; rw [h x (by simp [Op.operands]), h y (by simp [Op.operands])]
  case indexAddr t x y => simp only []; rw [h x (by simp [Op.operands]), h y (by simp [Op.operands])]
  case index t x y => simp only []; rw [h x (by simp [Op.operands]), h y (by simp [Op.operands])]
  all_goals first
    | rfl
    | (next x => simp only []; rw [h x (by simp [Op.operands])])
    | (next _ x => simp only []; rw [h x (by simp [Op.operands])])
    | (next x _ => simp only []; rw [h x (by simp [Op.operands])])
    | (next _ x _ => simp only []; rw [h x (by simp [Op.operands])])
    | (next _ _ x => simp only []; rw [h x (by simp [Op.operands])])
theorem evR_congr (op : Op) (h : ∀ x ∈ op.operands, ρ x = ρ' x) : evR P ρ H op = evR P ρ' H op := by
  unfold evR
  cases op
  case call c =>
    cases hc : c.callee with
    | value f => simp only [hc]
    | invoke r m => simp only [hc]
    | builtin b =>
      cases b <;> (try (simp only [hc]; done))
      simp only [hc]
      cases ha : c.args.toList with
      | nil => rfl
      | cons x l =>
        cases l with
        | nil =>
          cases ht : c.argTypes.toList with
          | nil => rfl
          | cons t ts => simp only []; rw [h x (args_in (by rw [ha]; simp))]
        | cons y l => rfl
  case lookup t x y ok => simp only []; rw [h x (by simp [Op.operands]), h y (by simp [Op.operands])]
  all_goals first
    | rfl
    | (next _ x => simp only []; rw [h x (by simp [Op.operands])])
    | (next _ _ x => simp only []; rw [h x (by simp [Op.operands])])
theorem evRd_congr (op : Op) (h : ∀ x ∈ op.operands, ρ x = ρ' x) : evRd P ρ H op = evRd P ρ' H op := by
  unfold evRd
  cases op
  case entry x => simp only []; rw [h x (by simp [Op.operands])]
  all_goals exact evR_congr _ h
theorem evN_congr (op : Op) (h : ∀ x ∈ op.operands, ρ x = ρ' x) : evN P ρ op = evN P ρ' op := by
  unfold evN
  cases op
  case buildSlice t n ps =>
    simp only []
    rw [partsV_congr ps.toList fun p hp => h p.2 (by simp only [Op.operands, List.mem_toArray, List.mem_map]; exact ⟨p, hp, rfl⟩)]
  case makeMap t r => simp only []; rw [optV_congr r fun y hy => h y (by subst hy; simp [Op.operands])]
  case makeSlice t x y => simp only []; rw [h x (by simp [Op.operands]), h y (by simp [Op.operands])]
  all_goals first
    | rfl
    | (next _ x => simp only []; rw [h x (by simp [Op.operands])])
    | (next _ _ x => simp only []; rw [h x (by simp [Op.operands])])
theorem evE_congr (op : Op) (h : ∀ x ∈ op.operands, ρ x = ρ' x) : evE P ρ H op = evE P ρ' H op := by
  unfold evE
  cases op
  case call c =>
    simp only []
    cases hc : c.callee <;> simp only []
    rw [valsV_congr c.args.toList fun x hx => h x (args_in hx)]
  case store t x y => simp only []; rw [h x (by simp [Op.operands]), h y (by simp [Op.operands])]
  case mapUpdate t x y z => simp only []; rw [h x (by simp [Op.operands]), h y (by simp [Op.operands]), h z (by simp [Op.operands])]
  case insert t x y z => simp only []; rw [h x (by simp [Op.operands]), h y (by simp [Op.operands]), h z (by simp [Op.operands])]
  all_goals first
    | rfl
    | (next _ x => simp only []; rw [h x (by simp [Op.operands])])
    | (next x _ => simp only []; rw [h x (by simp [Op.operands])])
theorem evOp_congr (op : Op) (h : ∀ x ∈ op.operands, ρ x = ρ' x) : evOp P ρ H op = evOp P ρ' H op := by
  unfold evOp
  rw [evP_congr op h, evRd_congr op h, evN_congr op h, evE_congr op h]
theorem runOp_congr {callF : Caller} (op : Op) (h : ∀ x ∈ op.operands, ρ x = ρ' x) : runOp P callF ρ H op = runOp P callF ρ' H op := by
  unfold runOp
  cases op
  case call c =>
    simp only []
    have : calleeV ρ c = calleeV ρ' c := by
      unfold calleeV
      cases hc : c.callee <;> simp only []
      next f =>
      rw [valsV_congr c.args.toList fun x hx => h x (args_in hx), h f (by rw [call_ops]; unfold Call.operands; rw [hc]; simp)]
    have that : yieldV ρ c = yieldV ρ' c := by
      unfold yieldV
      cases hc : c.callee <;> simp only []
      next f =>
      rw [valsV_congr c.args.toList fun x hx => h x (args_in hx), h f (by rw [call_ops]; unfold Call.operands; rw [hc]; simp)]
    rw [this, that, evOp_congr _ h]
  all_goals exact evOp_congr _ h
theorem tmp_looks {ops : Array Oper} {o : Oper} {t : Tmp} (h : Operand.tmp t ∈ o.op.operands) : t ∈ o.looksAt ops := by
  unfold Oper.looksAt
  rw [List.mem_append]
  left
  rw [List.mem_filterMap]
  exact ⟨.tmp t, by simpa using h, rfl⟩
end
end Ev
end Go.Proofs.YtifoekadjnlhcaaGreatDoor
noncomputable section
namespace Go.Proofs.YtifoekadjnlhcaaGreatDoor
open Go.RowKit
set_option linter.unusedVariables false
set_option linter.unusedSimpArgs false
namespace Ev
theorem foldl_bits {m : List Nat} {i : Nat} : ∀ (l : List Edge) (s : Nat), (l.foldl (fun s e => if Region.binds .any e && decide (e.on < m.length) then s ||| 2 ^ e.on ||| m.getD e.on 0 else s) s).testBit i = true →
    s.testBit i = true ∨ ∃ e ∈ l, Region.binds .any e = true ∧ e.on < m.length ∧ (e.on = i ∨ (m.getD e.on 0).testBit i = true)
  | [], s, h => .inl h
  | e :: l, s, h => by
    rw [List.foldl_cons] at h
    rcases foldl_bits l _ h with h | ⟨e', he', h'⟩
    · split at h
      · next hc =>
        simp only [Bool.and_eq_true, decide_eq_true_eq] at hc
        rw [Nat.testBit_or, Nat.testBit_or, Nat.testBit_two_pow] at h
        simp only [Bool.or_eq_true, decide_eq_true_eq] at h
        rcases h with (h | h) | h
        · exact .inl h
        · exact .inr ⟨e, by simp, hc.1, hc.2, .inl h⟩
        · exact .inr ⟨e, by simp, hc.1, hc.2, .inr h⟩
      · exact .inl h
    · exact .inr ⟨e', by simp [he'], h'⟩
theorem waits_pre : ∀ (l : List Oper) (m : List Nat) (j : Nat), j < m.length → (waits m l).getD j 0 = m.getD j 0
  | [], m, j, _ => rfl
  | o :: l, m, j, h => by
    rw [waits, waits_pre l _ j (by simp; omega)]
    simp [List.getD_eq_getElem?_getD, List.getElem?_append, h]
theorem waits_out : ∀ (l : List Oper) (m : List Nat) (j : Nat), m.length + l.length ≤ j → (waits m l).getD j 0 = 0
  | [], m, j, h => by simp [waits, List.getD_eq_getElem?_getD, List.getElem?_eq_none (show m.length ≤ j by simpa using h)]
  | o :: l, m, j, h => by rw [waits]; exact waits_out l _ j (by simp at h ⊢; omega)
theorem waits_ok : ∀ (l : List Oper) (m : List Nat) (j i : Nat), m.length ≤ j → ((waits m l).getD j 0).testBit i = true →
    ∃ o, l[j - m.length]? = some o ∧ ∃ e ∈ o.after.toList, Region.binds .any e = true ∧ e.on < j ∧ (e.on = i ∨ ((waits m l).getD e.on 0).testBit i = true)
  | [], m, j, i, hj, h => by rw [waits_out [] m j (by simpa using hj)] at h; simp at h
  | o :: l, m, j, i, hj, h => by
    rw [waits] at h ⊢
    by_cases he : j = m.length
    · subst he
      rw [waits_pre l _ _ (by simp)] at h
      have : (m ++ [waits1 m o]).getD m.length 0 = waits1 m o := by simp [List.getD_eq_getElem?_getD]
      rw [this] at h
      unfold waits1 at h
      rcases foldl_bits _ _ h with h | ⟨e, he, h1, h2, h3⟩
      · simp at h
      · refine ⟨o, by simp, e, he, h1, h2, ?_⟩
        rcases h3 with h3 | h3
        · exact .inl h3
        · right
          rw [waits_pre l _ _ (by simp; omega)]
          have : (m ++ [waits1 m o]).getD e.on 0 = m.getD e.on 0 := by simp [List.getD_eq_getElem?_getD, List.getElem?_append, h2]
          rw [this]; exact h3
    · obtain ⟨o', h1, h2⟩ := waits_ok l (m ++ [waits1 m o]) j i (by simp; omega) h
      refine ⟨o', ?_, h2⟩
      rw [← h1]
      simp only [List.length_append, List.length_singleton]
      rw [show j - m.length = (j - (m.length + 1)) + 1 by omega, List.getElem?_cons_succ]
theorem dep'_in {ops : Array Oper} {L : Nat → Prop} (hL : ∀ j o, L j → ops[j]? = some o → ∀ e ∈ o.after, Region.binds .any e = true → L e.on) :
    ∀ (j i : Nat), dep' (waits [] ops.toList) j i = true → (∀ o, ops[j]? = some o → ∀ e ∈ o.after, Region.binds .any e = true → L e.on) → L i := by
  intro j
  induction j using Nat.strongRecOn with
  | _ j ih =>
    intro i hd hp
    obtain ⟨o, ho, e, he, hb, hlt, h⟩ := waits_ok ops.toList [] j i (Nat.zero_le _) hd
    have ho' : ops[j]? = some o := by simpa using ho
    have hl := hp o ho' e (by simpa using he) hb
    rcases h with h | h
    · rw [← h]; exact hl
    · exact ih e.on hlt i h fun o' ho' e' he' hb' => hL e.on o' hl ho' e' he' hb'
section
variable (P : Program) (callF : Caller) (ops : Array Oper) (T0 : Tr Value) (H0 : Heap) (M : List Nat)
def TmpOk (h : List Ent) (T : Tr Value) : Prop :=
  ∀ t, (∀ e ∈ h, ∀ o, ops[e.i]? = some o → o.dst = some t → (T.get t).getD undef = e.v) ∧ ((∀ e ∈ h, ∀ o, ops[e.i]? = some o → o.dst ≠ some t) → (T.get t).getD undef = (T0.get t).getD undef)
def EntOk (e : Ent) : Prop := ∃ o, ops[e.i]? = some o ∧ match e.r with
  | .still => e.H' = e.H ∧ ((wantedV ops e.T o.guard = some false ∧ e.v = undef) ∨ (wantedV ops e.T o.guard = some true ∧ evP P (opV e.T) o.op = some e.v))
  | .read => e.H' = e.H ∧ wantedV ops e.T o.guard = some true
  | .made id ob => wantedV ops e.T o.guard = some true ∧ id = e.H.next ∧ e.H.add ob = some e.H' ∧ ∃ mk : Mk, evN P (opV e.T) o.op = some (ob, mk) ∧ e.v = mk.val id
  | .eff => (wantedV ops e.T o.guard = some false ∧ e.v = undef ∧ e.H' = e.H) ∨ (wantedV ops e.T o.guard = some true ∧ runOp P callF (opV e.T) e.H o.op = some (e.v, e.H'))
def isEff : Res → Bool
  | .eff => true
  | _ => false
def HistOk : List Ent → Tr Value → Heap → Nat → Prop
  | [], T, H, l => T = T0 ∧ H = H0 ∧ l = 0
  | e :: h, T, H, l => TmpOk ops T0 (e :: h) T ∧ H = e.H' ∧ l = e.l ∧ EntOk P callF ops e ∧ (∀ f : Ent, f ∈ h → f.i ≠ e.i) ∧ (∀ o : Oper, ops[e.i]? = some o → ∀ x : Edge, x ∈ o.after → Region.binds .any x = true → ∃ f : Ent, f ∈ h ∧ f.i = x.on) ∧
      ∃ l', (e.l = if isEff e.r then l' + 1 else l') ∧ HistOk h e.T e.H l'
def LvlOk : List Ent → Prop
  | [] => True
  | e :: h => (isEff e.r = false → ∀ f : Ent, f ∈ h → isEff f.r = true → f.l = e.l → dep' M e.i f.i = true) ∧ (isEff e.r = true → ∀ f : Ent, f ∈ h → isEff f.r = true → f.l + 1 = e.l → dep' M e.i f.i = true) ∧ LvlOk h
def RecOk (e : Ent) (A : Heap) : Prop := match e.r with
  | .read => ∀ o, ops[e.i]? = some o → evRd P (opV e.T) A o.op = some e.v
  | .made id ob => A.get id = some ob
  | _ => True
def ChkAt (h : List Ent) (A : Heap) (m : Nat) : Prop :=
  ∀ e : Ent, e ∈ h → isEff e.r = false → (e.l = m ∨ ∀ f : Ent, f ∈ h → isEff f.r = true → f.l = m → dep' M f.i e.i = false) → RecOk P ops e A
def AllChk : List Ent → Prop
  | [] => True
  | e :: h => (isEff e.r = true → ∀ l', e.l = l' + 1 → ChkAt P ops M h e.H l') ∧ AllChk h
end
section
variable {P : Program} {callF : Caller} {ops : Array Oper} {T0 : Tr Value} {H0 : Heap} {M : List Nat} {nt : Nat}
theorem TmpOk_nil : TmpOk ops T0 [] T0 := fun t => ⟨fun e he => by simp at he, fun _ => rfl⟩
theorem HistOk.tmp {h : List Ent} {T : Tr Value} {H : Heap} {l : Nat} (hh : HistOk P callF ops T0 H0 h T H l) : TmpOk ops T0 h T := by
  cases h with
  | nil => obtain ⟨rfl, _⟩ := hh; exact TmpOk_nil
  | cons e h => exact hh.1
def OneDst (ops : Array Oper) : Prop := ∀ (i j : Nat) (oi oj : Oper) (d : Tmp), ops[i]? = some oi → ops[j]? = some oj → oi.dst = some d → oj.dst = some d → i = j
theorem TmpOk.put (hone : OneDst ops) {h : List Ent} {T T' : Tr Value} {i : Nat} {o : Oper} {v : Value} (ht : TmpOk ops T0 h T) (ho : ops[i]? = some o) (hi : ∀ f ∈ h, f.i ≠ i) (hp : putT nt T o.dst v = some T') (e : Ent) (hei : e.i = i) (hev : e.v = v) :
    TmpOk ops T0 (e :: h) T' := by
  intro t
  unfold putT at hp
  cases hd : o.dst with
  | none =>
    rw [hd] at hp; cases hp
    refine ⟨fun f hf o' ho' hd' => ?_, fun hn => (ht t).2 fun f hf o' ho' => hn f (by simp [hf]) o' ho'⟩
    rcases List.mem_cons.1 hf with rfl | hf
    · rw [hei, ho] at ho'; cases ho'; rw [hd] at hd'; cases hd'
    · exact (ht t).1 f hf o' ho' hd'
  | some d =>
    rw [hd] at hp
    simp only at hp
    split at hp
    · next hlt =>
      have hg := Tr.get_set _ _ _ _ _ hp
      refine ⟨fun f hf o' ho' hd' => ?_, fun hn => ?_⟩
      · rw [hg]
        rcases List.mem_cons.1 hf with rfl | hf
        · rw [hei, ho] at ho'; cases ho'; rw [hd] at hd'; cases hd'
          rw [if_pos rfl, hev]; rfl
        · have : t ≠ d := fun e => by subst e; exact hi f hf (hone _ _ _ _ _ ho' ho hd' hd)
          rw [if_neg this]; exact (ht t).1 f hf o' ho' hd'
      · have hne : t ≠ d := fun e' => by subst e'; exact hn e (by simp) o (by rw [hei]; exact ho) hd
        rw [hg, if_neg hne]
        exact (ht t).2 fun f hf o' ho' => hn f (by simp [hf]) o' ho'
    · cases hp
def PS.Ok (P : Program) (callF : Caller) (ops : Array Oper) (T0 : Tr Value) (H0 : Heap) (s : PS) : Prop := HistOk P callF ops T0 H0 s.hist s.T s.H s.l
theorem did_ok (hone : OneDst ops) {s s' : PS} {o : Oper} {i : Nat} {v : Value} {r : Res} {l : Nat} {H' : Heap} (hs : s.Ok P callF ops T0 H0) (ho : ops[i]? = some o) (hd : s.did nt o i v r l H' = some s') (hi : ∀ f ∈ s.hist, f.i ≠ i)
    (hp : ∀ x ∈ o.after, Region.binds .any x = true → ∃ f ∈ s.hist, f.i = x.on) (hl : l = if isEff r then s.l + 1 else s.l) (he : EntOk P callF ops ⟨i, s.T, v, r, l, s.H, H'⟩) :
    s'.Ok P callF ops T0 H0 ∧ s'.hist = ⟨i, s.T, v, r, l, s.H, H'⟩ :: s.hist ∧ s'.l = l ∧ s'.H = H' := by
  unfold PS.did at hd
  split at hd
  · next T' hT =>
    cases hd
    refine ⟨⟨TmpOk.put hone hs.tmp ho hi hT _ rfl rfl, rfl, rfl, he, hi, fun o' ho' => ?_, s.l, hl, hs⟩, rfl, rfl, rfl⟩
    have : o' = o := Option.some.inj (ho'.symm.trans ho)
    rw [this]; exact hp
  · cases hd
theorem stepN_ok (hone : OneDst ops) {s s' : PS} {i : Nat} (hs : s.Ok P callF ops T0 H0) (h : stepN P nt ops s i = some s') (hi : ∀ f ∈ s.hist, f.i ≠ i) (hp : ∀ o, ops[i]? = some o → ∀ x ∈ o.after, Region.binds .any x = true → ∃ f ∈ s.hist, f.i = x.on) :
    s'.Ok P callF ops T0 H0 ∧ ∃ e : Ent, s'.hist = e :: s.hist ∧ e.i = i ∧ isEff e.r = false ∧ e.l = s.l ∧ s'.l = s.l := by
  unfold stepN at h
  split at h
  · next o ho =>
    have ho' : ops[i]? = some o := by simpa using ho
    have hp' := hp o ho'
    split at h
    · next hw =>
      obtain ⟨h1, h2, h3, h4⟩ := did_ok hone hs ho' h hi hp' rfl ⟨o, ho', rfl, .inl ⟨hw, rfl⟩⟩
      exact ⟨h1, _, h2, rfl, rfl, rfl, h3⟩
    · next hw =>
      split at h
      · next v hv =>
        obtain ⟨h1, h2, h3, h4⟩ := did_ok hone hs ho' h hi hp' rfl ⟨o, ho', rfl, .inr ⟨hw, hv⟩⟩
        exact ⟨h1, _, h2, rfl, rfl, rfl, h3⟩
      · split at h
        · next v hv =>
          obtain ⟨h1, h2, h3, h4⟩ := did_ok hone hs ho' h hi hp' rfl ⟨o, ho', rfl, hw⟩
          exact ⟨h1, _, h2, rfl, rfl, rfl, h3⟩
        · split at h
          · next ob m hm =>
            split at h
            · next H' hH =>
              obtain ⟨h1, h2, h3, h4⟩ := did_ok hone hs ho' h hi hp' rfl ⟨o, ho', hw, rfl, hH, m, hm, rfl⟩
              exact ⟨h1, _, h2, rfl, rfl, rfl, h3⟩
            · cases h
          · cases h
    · cases h
  · cases h
theorem stepE_ok (hone : OneDst ops) {s s' : PS} {i : Nat} (hs : s.Ok P callF ops T0 H0) (h : stepE P callF nt ops s i = some s') (hi : ∀ f ∈ s.hist, f.i ≠ i) (hp : ∀ o, ops[i]? = some o → ∀ x ∈ o.after, Region.binds .any x = true → ∃ f ∈ s.hist, f.i = x.on) :
    s'.Ok P callF ops T0 H0 ∧ ∃ e : Ent, s'.hist = e :: s.hist ∧ e.i = i ∧ isEff e.r = true ∧ e.l = s.l + 1 ∧ s'.l = s.l + 1 ∧ e.H = s.H := by
  unfold stepE at h
  split at h
  · next o ho =>
    have ho' : ops[i]? = some o := by simpa using ho
    have hp' := hp o ho'
    split at h
    · next hw =>
      obtain ⟨h1, h2, h3, h4⟩ := did_ok hone hs ho' h hi hp' rfl ⟨o, ho', .inl ⟨hw, rfl, rfl⟩⟩
      exact ⟨h1, _, h2, rfl, rfl, rfl, h3, rfl⟩
    · next hw =>
      split at h
      · next v H' hv =>
        obtain ⟨h1, h2, h3, h4⟩ := did_ok hone hs ho' h hi hp' rfl ⟨o, ho', .inr ⟨hw, hv⟩⟩
        exact ⟨h1, _, h2, rfl, rfl, rfl, h3, rfl⟩
      · cases h
    · cases h
  · cases h
theorem recheck_ok {s : PS} {e : Ent} (hs : s.Ok P callF ops T0 H0) (he : e ∈ s.hist) (h : recheck P ops s e.i = true) : RecOk P ops e s.H := by
  have huniq : ∀ (hh : List Ent) (T : Tr Value) (H : Heap) (l : Nat), HistOk P callF ops T0 H0 hh T H l → ∀ e ∈ hh, hh.find? (fun f => f.i == e.i) = some e := by
    intro hh
    induction hh with
    | nil => intro T H l _ e he; simp at he
    | cons f hh ih =>
      intro T H l hok e he
      obtain ⟨_, _, _, _, hne, _, l', _, hr⟩ := hok
      rw [List.find?_cons]
      rcases List.mem_cons.1 he with rfl | he
      · simp
      · have : (f.i == e.i) = false := by simp; exact fun h => hne e he h.symm
        rw [this]; exact ih _ _ _ hr e he
  unfold recheck at h
  rw [huniq _ _ _ _ hs e he] at h
  unfold RecOk
  split at h
  · next e' o he' ho =>
    cases he'
    have ho' : ops[e.i]? = some o := by simpa using ho
    cases hr : e.r with
    | read =>
      rw [hr] at h
      simp only at h
      intro o' ho''
      have : o' = o := Option.some.inj (ho''.symm.trans ho')
      subst this
      split at h
      · next u hu => rw [hu, beqV_eq _ _ h]
      · cases h
    | made id ob =>
      rw [hr] at h
      simp only at h
      split at h
      · next ob' hob => show s.H.get id = some ob; rw [hob, beqO_eq _ _ h]
      · cases h
    | still => trivial
    | eff => trivial
  · cases h
structure Final (P : Program) (callF : Caller) (ops : Array Oper) (T0 : Tr Value) (H0 : Heap) (M : List Nat) (s : PS) : Prop where
  ok : s.Ok P callF ops T0 H0
  lvl : LvlOk M s.hist
  chk : AllChk P ops M s.hist
def OpenOk (M : List Nat) (s : PS) (before : List Nat) : Option Nat → Prop
  | none => s.hist = [] ∧ s.l = 0 ∧ before = []
  | some e => (∃ f : Ent, f ∈ s.hist ∧ isEff f.r = true ∧ f.l = s.l ∧ f.i = e) ∧ (∀ f : Ent, f ∈ s.hist → isEff f.r = true → f.l ≤ s.l ∧ (f.l = s.l → f.i = e)) ∧ (∀ f : Ent, f ∈ s.hist → isEff f.r = false → f.i ∈ before ∧ f.l < s.l)
theorem behindB_cons (ops : Array Oper) (done l : List Nat) (i : Nat) : behindB ops done (i :: l) = ((!done.contains i && decide (i < ops.size) && (match ops.toList[i]? with | some o => o.after.all fun e => !Region.binds .any e || done.contains e.on | none => false)) && behindB ops (i :: done) l) := rfl
theorem behind_split (ops : Array Oper) : ∀ (a b done : List Nat), behindB ops done (a ++ b) = true → behindB ops done a = true ∧ behindB ops (a.reverse ++ done) b = true
  | [], b, done, h => ⟨rfl, h⟩
  | i :: a, b, done, h => by
    rw [List.cons_append, behindB_cons, Bool.and_eq_true] at h
    rw [behindB_cons, Bool.and_eq_true]
    obtain ⟨h1, h2⟩ := h
    obtain ⟨g1, g2⟩ := behind_split ops a b _ h2
    exact ⟨⟨h1, g1⟩, by rw [List.reverse_cons, List.append_assoc]; exact g2⟩
theorem behind_one {done l : List Nat} {i : Nat} {s : PS} (h : behindB ops done (i :: l) = true) (hd : done = s.hist.map (·.i)) : (∀ f ∈ s.hist, f.i ≠ i) ∧ (∀ o, ops[i]? = some o → ∀ x ∈ o.after, Region.binds .any x = true → ∃ f ∈ s.hist, f.i = x.on) ∧ behindB ops (i :: done) l = true ∧ i < ops.size := by
  unfold behindB at h
  simp only [Bool.and_eq_true, Bool.not_eq_true', decide_eq_true_eq] at h
  obtain ⟨⟨⟨h1, h2⟩, h3⟩, h4⟩ := h
  refine ⟨fun f hf e => ?_, fun o ho x hx hb => ?_, h4, h2⟩
  · have : i ∈ done := by rw [hd, List.mem_map]; exact ⟨f, hf, e⟩
    simp [this] at h1
  · have ho' : ops.toList[i]? = some o := by simpa using ho
    rw [ho'] at h3
    simp only at h3
    have := (Array.all_eq_true'.1 h3) x hx
    rw [hb] at this
    simp only [Bool.not_true, Bool.false_or, List.contains_iff_mem] at this
    rw [hd, List.mem_map] at this
    obtain ⟨f, hf, e⟩ := this
    exact ⟨f, hf, e⟩
theorem stepsN_ok (hone : OneDst ops) : ∀ (ns : List Nat) (s s' : PS) (old : List Ent), Final P callF ops T0 H0 M s → stepsN P nt ops ns s = some s' → behindB ops (s.hist.map (·.i)) ns = true →
    (∃ new, s.hist = new ++ old ∧ ∀ f ∈ new, isEff f.r = false ∧ f.l = s.l) → (∀ f ∈ old, isEff f.r = true → f.l = s.l → ∀ i ∈ ns, dep' M i f.i = true) →
    Final P callF ops T0 H0 M s' ∧ s'.l = s.l ∧ (s'.hist.map (·.i)) = ns.reverse ++ s.hist.map (·.i) ∧ (∃ new, s'.hist = new ++ old ∧ (∀ f ∈ new, isEff f.r = false ∧ f.l = s.l)) ∧ (∃ add, s'.hist = add ++ s.hist ∧ ∀ f ∈ add, f.i ∈ ns)
  | [], s, s', old, hF, h, _, hn, _ => by cases h; exact ⟨hF, rfl, rfl, hn, [], rfl, by simp⟩
  | i :: ns, s, s', old, hF, h, hb, hn, hd => by
    unfold stepsN at h
    split at h
    · next s1 h1 =>
      obtain ⟨b1, b2, b3, b4⟩ := behind_one hb rfl
      obtain ⟨g1, e, g2, g3, g4, g5, g6⟩ := stepN_ok hone hF.ok h1 b1 b2
      obtain ⟨new, hnew, hnew2⟩ := hn
      have hF1 : Final P callF ops T0 H0 M s1 := by
        refine ⟨g1, ?_, ?_⟩
        · rw [g2]
          refine ⟨fun _ f hf hfe hfl => ?_, (fun he => by rw [g4] at he; cases he), hF.lvl⟩
          rw [hnew] at hf
          rcases List.mem_append.1 hf with hf | hf
          · rw [(hnew2 f hf).1] at hfe; cases hfe
          · rw [g3]; exact hd f hf hfe (hfl.trans g5) i (by simp)
        · rw [g2]; exact ⟨(fun he => by rw [g4] at he; cases he), hF.chk⟩
      obtain ⟨k1, k2, k3, k4, add, k5, k6⟩ := stepsN_ok hone ns s1 s' old hF1 h (by rw [g2]; simpa [g3] using b3) ⟨e :: new, by rw [g2, hnew]; rfl, fun f hf => by
        rcases List.mem_cons.1 hf with rfl | hf
        · exact ⟨g4, g5.trans g6.symm⟩
        · rw [g6]; exact hnew2 f hf⟩ (fun f hf h1 h2 j hj => hd f hf h1 (by rw [← g6]; exact h2) j (by simp [hj]))
      refine ⟨k1, k2.trans g6, by rw [k3, g2]; simp [g3], by rw [g6] at k4; exact k4, add ++ [e], by rw [k5, g2]; simp, fun f hf => ?_⟩
      rcases List.mem_append.1 hf with hf | hf
      · simp [k6 f hf]
      · simp at hf; subst hf; simp [g3]
    · cases h
theorem runPlan_final (hone : OneDst ops) : ∀ (p : Plan) (s s' : PS) (before : List Nat) (opened : Option Nat), Final P callF ops T0 H0 M s → runPlan P callF nt ops p s = some s' → behindB ops (s.hist.map (·.i)) p.ord = true → chkB M p before opened = true →
    OpenOk M s before opened → (p = [] → ChkAt P ops M s.hist s.H s.l) → Final P callF ops T0 H0 M s' ∧ ChkAt P ops M s'.hist s'.H s'.l ∧ (s'.hist.map (·.i)) = p.ord.reverse ++ s.hist.map (·.i)
  | [], s, s', before, opened, hF, h, _, _, _, hc => by cases h; exact ⟨hF, hc rfl, rfl⟩
  | l :: p, s, s', before, opened, hF, h, hb, hch, ho, _ => by
    unfold runPlan at h
    unfold chkB at hch
    simp only [Bool.and_eq_true] at hch
    obtain ⟨⟨⟨c1, c2⟩, c3⟩, c4⟩ := hch
    have hord : Plan.ord (l :: p) = l.ns ++ (l.e.toList ++ Plan.ord p) := by simp [Plan.ord, Lvl.ord]
    rw [hord] at hb
    obtain ⟨hb1, hb2⟩ := behind_split ops _ _ _ hb
    split at h
    · next s1 h1 =>
      split at h
      · next hrc =>
        have hd : ∀ f ∈ s.hist, isEff f.r = true → f.l = s.l → ∀ i ∈ l.ns, dep' M i f.i = true := by
          intro f hf hfe hfl i hi
          cases opened with
          | none => rw [ho.1] at hf; simp at hf
          | some e =>
            simp only [Bool.and_eq_true] at c2
            have := (ho.2.1 f hf hfe).2 hfl
            rw [this]; exact (List.all_eq_true.1 c2.1.2) i hi
        obtain ⟨k1, k2, k3, ⟨new, k4, k4'⟩, add, k5, k6⟩ := stepsN_ok hone l.ns s s1 s.hist hF h1 hb1 ⟨[], rfl, by simp⟩ hd
        have hadd : add = new := by rw [k4] at k5; exact (List.append_cancel_right k5).symm
        subst hadd
        have hchk : ChkAt P ops M s1.hist s1.H s1.l := by
          intro e he hee hcond
          refine recheck_ok k1.ok he ((List.all_eq_true.1 hrc) e.i ?_)
          rw [k4] at he
          rcases List.mem_append.1 he with he | he
          · have := (List.all_eq_true.1 c1) e.i (k6 e he); simpa using this
          · cases opened with
            | none => rw [ho.1] at he; simp at he
            | some q =>
              obtain ⟨⟨f, hf1, hf2, hf3, hf4⟩, o2, o3⟩ := ho
              obtain ⟨hbe, hlt⟩ := o3 e he hee
              simp only [Bool.and_eq_true] at c2
              have h3 := (List.all_eq_true.1 c2.1.1) e.i hbe
              rcases hcond with hcond | hcond
              · rw [k2] at hcond; omega
              · have := hcond f (by rw [k4]; simp [hf1]) hf2 (hf3.trans k2.symm)
                rw [hf4] at this
                rw [this] at h3
                simpa using h3
        cases hle : l.e with
        | none =>
          rw [hle] at h
          simp only at h
          have hp : p = [] := by rw [hle] at c3; cases p <;> simp at c3 ⊢
          subst hp
          cases h
          exact ⟨k1, hchk, by rw [k3, hord, hle]; simp [Plan.ord]⟩
        | some e' =>
          rw [hle] at h hb2 c2 c3 c4
          simp only at h
          split at h
          · next s2 h2 =>
            have hb2' : behindB ops (s1.hist.map (·.i)) (e' :: Plan.ord p) = true := by rw [k3]; simpa using hb2
            obtain ⟨b1, b2, b3, b4⟩ := behind_one hb2' rfl
            obtain ⟨g1, q, g2, g3, g4, g5, g6, g7⟩ := stepE_ok hone k1.ok h2 b1 b2
            have heff : ∀ f ∈ s1.hist, isEff f.r = true → f ∈ s.hist := by
              intro f hf hfe
              rw [k4] at hf
              rcases List.mem_append.1 hf with hf | hf
              · rw [(k4' f hf).1] at hfe; cases hfe
              · exact hf
            have hF2 : Final P callF ops T0 H0 M s2 := by
              refine ⟨g1, ?_, ?_⟩
              · rw [g2]
                refine ⟨(fun he => by rw [g4] at he; cases he), fun _ f hf hfe hfl => ?_, k1.lvl⟩
                have hf' := heff f hf hfe
                cases opened with
                | none => rw [ho.1] at hf'; simp at hf'
                | some o =>
                  have := (ho.2.1 f hf' hfe).2 (by rw [g5, k2] at hfl; omega)
                  simp only [Bool.and_eq_true] at c2
                  rw [this, g3]; exact c2.2
              · rw [g2]
                refine ⟨fun _ l' hl' => ?_, k1.chk⟩
                have : l' = s1.l := by rw [g5] at hl'; omega
                rw [this, g7]; exact hchk
            have hopen : OpenOk M s2 (before ++ l.ns) (some e') := by
              refine ⟨⟨q, by rw [g2]; simp, g4, by rw [g5, g6], g3⟩, fun f hf hfe => ?_, fun f hf hfe => ?_⟩
              · rw [g2] at hf
                rcases List.mem_cons.1 hf with rfl | hf
                · exact ⟨by rw [g5, g6]; exact Nat.le_refl _, fun _ => g3⟩
                · have hf' := heff f hf hfe
                  cases opened with
                  | none => rw [ho.1] at hf'; simp at hf'
                  | some o =>
                    have := (ho.2.1 f hf' hfe).1
                    rw [g6, k2]; exact ⟨by omega, fun h => by omega⟩
              · rw [g2] at hf
                rcases List.mem_cons.1 hf with rfl | hf
                · rw [g4] at hfe; cases hfe
                · rw [k4] at hf
                  rcases List.mem_append.1 hf with hf | hf
                  · exact ⟨by simp [k6 f hf], by rw [(k4' f hf).2, g6, k2]; omega⟩
                  · cases opened with
                    | none => rw [ho.1] at hf; simp at hf
                    | some o =>
                      obtain ⟨m1, m2⟩ := ho.2.2 f hf hfe
                      exact ⟨by simp [m1], by rw [g6, k2]; omega⟩
            have hpne : p ≠ [] := by intro e; subst e; simp at c3
            obtain ⟨r1, r2, r3⟩ := runPlan_final hone p s2 s' (before ++ l.ns) (some e') hF2 h (by rw [g2]; simpa [g3] using b3) c4 hopen (fun e => absurd e hpne)
            refine ⟨r1, r2, ?_⟩
            rw [r3, g2, hord, hle]
            simp [g3, k3]
          · cases h
      · cases h
    · cases h
end
end Ev
end Go.Proofs.YtifoekadjnlhcaaGreatDoor
noncomputable section
namespace Go.Proofs.YtifoekadjnlhcaaGreatDoor
open Go.RowKit
set_option linter.unusedVariables false
set_option linter.unusedSimpArgs false
namespace Ev
section
variable {P : Program} {callF : Caller} {ops : Array Oper} {T0 : Tr Value} {H0 : Heap} {M : List Nat} {nt : Nat}
theorem lev_le : ∀ {h : List Ent} {T : Tr Value} {H : Heap} {l : Nat}, HistOk P callF ops T0 H0 h T H l → ∀ e ∈ h, e.l ≤ l
  | [], _, _, _, _, e, he => by simp at he
  | f :: h, T, H, l, hh, e, he => by
    obtain ⟨_, _, hl, _, _, _, l', hl', hr⟩ := hh
    rcases List.mem_cons.1 he with rfl | he
    · omega
    · have := lev_le hr e he
      split at hl' <;> omega
theorem hist_split : ∀ {l1 l2 : List Ent} {e : Ent} {T : Tr Value} {H : Heap} {l : Nat}, HistOk P callF ops T0 H0 (l1 ++ e :: l2) T H l →
    (∃ T' H' l'', HistOk P callF ops T0 H0 (e :: l2) T' H' l'') ∧ (∀ f ∈ l1, e.l ≤ f.l ∧ (isEff f.r = true → e.l < f.l))
  | [], l2, e, T, H, l, hh => ⟨⟨T, H, l, hh⟩, by simp⟩
  | g :: l1, l2, e, T, H, l, hh => by
    obtain ⟨_, _, hl, _, _, _, l', hl', hr⟩ := hh
    obtain ⟨h1, h2⟩ := hist_split hr
    refine ⟨h1, fun f hf => ?_⟩
    have hle := lev_le hr e (by simp)
    rcases List.mem_cons.1 hf with rfl | hf
    · split at hl'
      · exact ⟨by omega, fun _ => by omega⟩
      · next hne => exact ⟨by omega, fun h => absurd h hne⟩
    · exact h2 f hf
theorem eff_ex : ∀ {h : List Ent} {T : Tr Value} {H : Heap} {l : Nat}, HistOk P callF ops T0 H0 h T H l → ∀ k, 1 ≤ k → k ≤ l → ∃ f ∈ h, isEff f.r = true ∧ f.l = k
  | [], _, _, l, hh, k, h1, h2 => by obtain ⟨_, _, rfl⟩ := hh; omega
  | e :: h, T, H, l, hh, k, h1, h2 => by
    obtain ⟨_, _, hl, _, _, _, l', hl', hr⟩ := hh
    split at hl'
    · next he =>
      by_cases hk : k = l
      · exact ⟨e, by simp, he, by omega⟩
      · obtain ⟨f, hf, g⟩ := eff_ex hr k h1 (by omega)
        exact ⟨f, by simp [hf], g⟩
    · obtain ⟨f, hf, g⟩ := eff_ex hr k h1 (by omega)
      exact ⟨f, by simp [hf], g⟩
theorem idx_uniq : ∀ {h : List Ent} {T : Tr Value} {H : Heap} {l : Nat}, HistOk P callF ops T0 H0 h T H l → ∀ e ∈ h, ∀ f ∈ h, e.i = f.i → e = f
  | [], _, _, _, _, e, he, _, _, _ => by simp at he
  | g :: h, T, H, l, hh, e, he, f, hf, hi => by
    obtain ⟨_, _, _, _, hne, _, l', _, hr⟩ := hh
    rcases List.mem_cons.1 he with rfl | he2 <;> rcases List.mem_cons.1 hf with rfl | hf2
    · rfl
    · exact absurd hi.symm (hne f hf2)
    · exact absurd hi (hne e he2)
    · exact idx_uniq hr e he2 f hf2 hi
theorem eff_uniq : ∀ {h : List Ent} {T : Tr Value} {H : Heap} {l : Nat}, HistOk P callF ops T0 H0 h T H l → ∀ e ∈ h, ∀ f ∈ h, isEff e.r = true → isEff f.r = true → e.l = f.l → e = f
  | [], _, _, _, _, e, he, _, _, _, _, _ => by simp at he
  | g :: h, T, H, l, hh, e, he, f, hf, h1, h2, hl => by
    obtain ⟨_, _, hll, _, _, _, l', hl', hr⟩ := hh
    rcases List.mem_cons.1 he with rfl | he2 <;> rcases List.mem_cons.1 hf with rfl | hf2
    · rfl
    · have := lev_le hr f hf2; rw [if_pos h1] at hl'; omega
    · have := lev_le hr e he2; rw [if_pos h2] at hl'; omega
    · exact eff_uniq hr e he2 f hf2 h1 h2 hl
theorem LvlOk.split : ∀ {l1 l2 : List Ent}, LvlOk M (l1 ++ l2) → LvlOk M l2
  | [], _, h => h
  | _ :: l1, _, h => LvlOk.split (l1 := l1) h.2.2
theorem AllChk.split : ∀ {l1 l2 : List Ent}, AllChk P ops M (l1 ++ l2) → AllChk P ops M l2
  | [], _, h => h
  | _ :: l1, _, h => AllChk.split (l1 := l1) h.2
structure Facts (H0 : Heap) (h : List Ent) (top : Heap) (l m : Nat) (A B : Heap) : Prop where
  tp : m = l → A = top
  fa : ∀ f ∈ h, isEff f.r = true → f.l = m + 1 → f.H = A
  fb : ∀ f ∈ h, isEff f.r = true → f.l = m → f.H' = B
  f0 : m = 0 → B = H0
  nxt : B.next ≤ A.next
  grow : ∀ φ w, Rel φ B w → Rel φ A w ∧ ∀ b, Own φ A b → Own φ B b
  made : ∀ e ∈ h, e.l = m → ∀ id ob, e.r = .made id ob → B.next ≤ id ∧ id < A.next
  dist : ∀ e ∈ h, ∀ e' ∈ h, e.l = m → e'.l = m → ∀ id ob ob', e.r = .made id ob → e'.r = .made id ob' → e.i = e'.i
theorem ent_grow {e : Ent} (he : EntOk P callF ops e) (hn : isEff e.r = false) : e.H.next ≤ e.H'.next ∧ (∀ φ w, Rel φ e.H w → Rel φ e.H' w ∧ ∀ b, Own φ e.H' b → Own φ e.H b) ∧ ∀ id ob, e.r = .made id ob → id = e.H.next ∧ e.H'.next = e.H.next + 1 := by
  obtain ⟨o, ho, h⟩ := he
  cases hr : e.r with
  | still => rw [hr] at h; obtain ⟨h, _⟩ := h; rw [h]; exact ⟨Nat.le_refl _, fun φ w hR => ⟨hR, fun b hb => hb⟩, fun id ob h => by cases h⟩
  | read => rw [hr] at h; obtain ⟨h, _⟩ := h; rw [h]; exact ⟨Nat.le_refl _, fun φ w hR => ⟨hR, fun b hb => hb⟩, fun id ob h => by cases h⟩
  | made id ob =>
    rw [hr] at h
    obtain ⟨_, h1, h2, _⟩ := h
    have hnx := Heap.add_next h2
    refine ⟨by omega, fun φ w hR => ?_, fun id' ob' h => by cases h; exact ⟨h1, hnx⟩⟩
    obtain ⟨g1, g2⟩ := hR.phantom h2
    refine ⟨g1, fun b hb => ?_⟩
    obtain ⟨j, p, C, k1, k2, k3⟩ := hb
    rw [Heap.add_get h2] at k1
    split at k1
    · next hj => subst hj; rw [g2] at k2; cases k2
    · exact ⟨j, p, C, k1, k2, k3⟩
  | eff => rw [hr] at hn; cases hn
theorem facts : ∀ {h : List Ent} {T : Tr Value} {H : Heap} {l : Nat}, HistOk P callF ops T0 H0 h T H l → ∀ m, m ≤ l → ∃ A B, Facts H0 h H l m A B
  | [], T, H, l, hh, m, hm => by
    obtain ⟨_, rfl, rfl⟩ := hh
    refine ⟨H, H, ⟨fun _ => rfl, by simp, by simp, fun _ => rfl, Nat.le_refl _, fun φ w hR => ⟨hR, fun b hb => hb⟩, by simp, by simp⟩⟩
  | e :: h, T, H, l, hh, m, hm => by
    have hh0 := hh
    obtain ⟨_, hH, hl, hent, hne, _, l', hl', hr⟩ := hh
    cases hE : isEff e.r with
    | false =>
      rw [hE] at hl'
      simp only [Bool.false_eq_true, if_false] at hl'
      obtain ⟨g1, g2, g3⟩ := ent_grow hent hE
      obtain ⟨A, B, F⟩ := facts hr m (by omega)
      by_cases hml : m = l'
      · have hA := F.tp hml
        refine ⟨e.H', B, ⟨fun _ => hH.symm, fun f hf hfe hfl => ?_, fun f hf hfe hfl => ?_, F.f0, ?_, fun φ w hR => ?_, fun f hf hfl id ob hr' => ?_, fun f hf f' hf' hfl hfl' id ob ob' hr1 hr2 => ?_⟩⟩
        · rcases List.mem_cons.1 hf with rfl | hf
          · rw [hE] at hfe; cases hfe
          · have := lev_le hr f hf; omega
        · rcases List.mem_cons.1 hf with rfl | hf
          · rw [hE] at hfe; cases hfe
          · exact F.fb f hf hfe hfl
        · have := F.nxt; rw [hA] at this; omega
        · obtain ⟨k1, k2⟩ := F.grow φ w hR
          rw [hA] at k1 k2
          obtain ⟨k3, k4⟩ := g2 φ w k1
          exact ⟨k3, fun b hb => k2 b (k4 b hb)⟩
        · have hn := F.nxt
          rw [hA] at hn
          rcases List.mem_cons.1 hf with rfl | hf
          · obtain ⟨q1, q2⟩ := g3 id ob hr'; omega
          · have := F.made f hf hfl id ob hr'; rw [hA] at this; omega
        · rcases List.mem_cons.1 hf with rfl | hf2 <;> rcases List.mem_cons.1 hf' with rfl | hf2'
          · rfl
          · have := (F.made f' hf2' hfl' id ob' hr2).2
            rw [hA] at this
            have := (g3 id ob hr1).1; omega
          · have := (F.made f hf2 hfl id ob hr1).2
            rw [hA] at this
            have := (g3 id ob' hr2).1; omega
          · exact F.dist f hf2 f' hf2' hfl hfl' id ob ob' hr1 hr2
      · refine ⟨A, B, ⟨fun h => by omega, fun f hf hfe hfl => ?_, fun f hf hfe hfl => ?_, F.f0, F.nxt, F.grow, fun f hf hfl id ob hr' => ?_, fun f hf f' hf' hfl hfl' id ob ob' hr1 hr2 => ?_⟩⟩
        · rcases List.mem_cons.1 hf with rfl | hf
          · rw [hE] at hfe; cases hfe
          · exact F.fa f hf hfe hfl
        · rcases List.mem_cons.1 hf with rfl | hf
          · rw [hE] at hfe; cases hfe
          · exact F.fb f hf hfe hfl
        · rcases List.mem_cons.1 hf with rfl | hf
          · omega
          · exact F.made f hf hfl id ob hr'
        · rcases List.mem_cons.1 hf with rfl | hf
          · omega
          · rcases List.mem_cons.1 hf' with rfl | hf'
            · omega
            · exact F.dist f hf f' hf' hfl hfl' id ob ob' hr1 hr2
    | true =>
      rw [hE] at hl'
      simp only [if_true] at hl'
      have hnm : ∀ id ob, e.r ≠ .made id ob := fun id ob h => by rw [h] at hE; cases hE
      by_cases hml : m = l
      · refine ⟨e.H', e.H', ⟨fun _ => hH.symm, fun f hf hfe hfl => ?_, fun f hf hfe hfl => ?_, fun h => by omega, Nat.le_refl _, fun φ w hR => ⟨hR, fun b hb => hb⟩, fun f hf hfl id ob hr' => ?_, fun f hf f' hf' hfl hfl' id ob ob' hr1 hr2 => ?_⟩⟩
        · have := lev_le hh0 f hf; omega
        · rcases List.mem_cons.1 hf with rfl | hf
          · rfl
          · have := lev_le hr f hf; omega
        · rcases List.mem_cons.1 hf with rfl | hf
          · exact absurd hr' (hnm id ob)
          · have := lev_le hr f hf; omega
        · rcases List.mem_cons.1 hf with rfl | hf
          · exact absurd hr1 (hnm id ob)
          · have := lev_le hr f hf; omega
      · obtain ⟨A, B, F⟩ := facts hr m (by omega)
        refine ⟨A, B, ⟨fun h => absurd h hml, fun f hf hfe hfl => ?_, fun f hf hfe hfl => ?_, F.f0, F.nxt, F.grow, fun f hf hfl id ob hr' => ?_, fun f hf f' hf' hfl hfl' id ob ob' hr1 hr2 => ?_⟩⟩
        · rcases List.mem_cons.1 hf with rfl | hf
          · exact (F.tp (by omega)).symm
          · exact F.fa f hf hfe hfl
        · rcases List.mem_cons.1 hf with rfl | hf
          · omega
          · exact F.fb f hf hfe hfl
        · rcases List.mem_cons.1 hf with rfl | hf
          · exact absurd hr' (hnm id ob)
          · exact F.made f hf hfl id ob hr'
        · rcases List.mem_cons.1 hf with rfl | hf
          · exact absurd hr1 (hnm id ob)
          · rcases List.mem_cons.1 hf' with rfl | hf'
            · exact absurd hr2 (hnm id ob')
            · exact F.dist f hf f' hf' hfl hfl' id ob ob' hr1 hr2
theorem chk_all {s : PS} {A B : Nat → Heap} (hF : Final P callF ops T0 H0 M s) (hc : ChkAt P ops M s.hist s.H s.l) (hAB : ∀ m, m ≤ s.l → Facts H0 s.hist s.H s.l m (A m) (B m)) (m : Nat) (hm : m ≤ s.l) (e : Ent) (he : e ∈ s.hist) (hn : isEff e.r = false) (hle : e.l ≤ m)
    (hcond : e.l = m ∨ ∀ f : Ent, f ∈ s.hist → isEff f.r = true → f.l = m → dep' M f.i e.i = false) : RecOk P ops e (A m) := by
  by_cases hml : m = s.l
  · rw [(hAB m hm).tp hml]
    subst hml
    exact hc e he hn hcond
  · obtain ⟨g, hg, hge, hgl⟩ := eff_ex hF.ok (m + 1) (by omega) (by omega)
    rw [← (hAB m hm).fa g hg hge hgl]
    obtain ⟨l1, l2, hsp⟩ := List.append_of_mem hg
    have hok := hF.ok
    unfold PS.Ok at hok
    rw [hsp] at hok
    obtain ⟨_, hlow⟩ := hist_split hok
    have hchk := hF.chk
    rw [hsp] at hchk
    have := (AllChk.split hchk).1 hge m hgl
    refine this e ?_ hn ?_
    · rw [hsp] at he
      rcases List.mem_append.1 he with he | he
      · have := (hlow e he).1; omega
      · rcases List.mem_cons.1 he with rfl | he
        · rw [hn] at hge; cases hge
        · exact he
    · rcases hcond with h | h
      · exact .inl h
      · exact .inr fun f hf => h f (by rw [hsp]; simp [hf])
theorem open_before {s : PS} (hF : Final P callF ops T0 H0 M s) {e : Ent} (he : e ∈ s.hist) (k : Nat) (hk : 1 ≤ k) (hek : if isEff e.r then k + 1 = e.l else k = e.l) : ∃ f ∈ s.hist, isEff f.r = true ∧ f.l = k ∧ dep' M e.i f.i = true := by
  obtain ⟨l1, l2, hsp⟩ := List.append_of_mem he
  have hok := hF.ok
  unfold PS.Ok at hok
  rw [hsp] at hok
  obtain ⟨⟨T', H', l'', hh⟩, _⟩ := hist_split hok
  obtain ⟨_, _, _, _, _, _, l', hl', hr⟩ := hh
  have hlv := hF.lvl
  rw [hsp] at hlv
  have hlv := LvlOk.split hlv
  cases hE : isEff e.r with
  | true =>
    rw [hE] at hek hl'
    simp only [if_true] at hek hl'
    obtain ⟨f, hf, h1, h2⟩ := eff_ex hr k hk (by omega)
    exact ⟨f, by rw [hsp]; simp [hf], h1, h2, hlv.2.1 hE f hf h1 (by omega)⟩
  | false =>
    rw [hE] at hek hl'
    simp only [Bool.false_eq_true, if_false] at hek hl'
    obtain ⟨f, hf, h1, h2⟩ := eff_ex hr k hk (by omega)
    exact ⟨f, by rw [hsp]; simp [hf], h1, h2, hlv.1 hE f hf h1 (by omega)⟩
end
end Ev
end Go.Proofs.YtifoekadjnlhcaaGreatDoor
