/- THE ENGINE, 18 a: operations, in few steps for the kernel. (Printed by gen/ewa.py.) -/
import Derived.Test.YtepdkcikkemieaaGreatEvR
noncomputable section
namespace Go.Proofs.YtepdkcikkemieaaGreat
open Go.RowKit
set_option linter.unusedVariables false
set_option linter.unusedSimpArgs false
namespace Ev
abbrev OV := Option Value
abbrev OH := Option (Value × Heap)
def bindV (o : OV) (k : Value → OV) : OV := @Option.rec Value (fun _ => OV) none k o
def ptrO : Value → Option Addr := @Value.rec (fun _ => Option Addr) (fun _ => Unit) (fun _ => Unit) (fun _ => none) (fun _ _ => none) (fun _ _ => none) (fun _ _ _ => none) (fun _ => none) (fun a => a) (fun _ _ _ => none) (fun _ => none) (fun _ => none) (fun _ _ _ _ _ => none) (none) (fun _ _ _ => none) (none) (fun _ _ => none) (fun _ _ => none) (fun _ _ => ()) () (fun _ _ _ _ => ())
theorem ptrO_some {v : Value} {a : Addr} (h : ptrO v = some a) : v = .pointer (some a) := by
  cases v <;> try (exact absurd h (by show ¬ none = some a; simp))
  next p => exact congrArg Value.pointer h
theorem ptrO_none {v : Value} (h : ptrO v = none) (a : Addr) : v ≠ .pointer (some a) := by
  rintro rfl; exact absurd h (by show ¬ some a = none; simp)
def addK (a : Addr) (n : Nat) : Addr := @Nat.rec (fun _ => Addr) a (fun m _ => ⟨a.block, Nat.add a.off (Nat.succ m), none⟩) n
theorem addK_eq (a : Addr) (n : Nat) : addK a n = a.add n := by
  cases n with
  | zero => rfl
  | succ m => unfold Addr.add; rw [if_neg (by omega)]; rfl
/-! ### A field's address -/
def fieldOff (P : Program) (s : TypeId) (f : Nat) : Option Nat :=
  match P.underlying s with
  | some (.struct fs) => match fs.toList[f]? with
    | some fd => match tSize P fd.type with
      | some (_ + 1) => some fd.offset
      | _ => none
    | none => none
  | _ => none
def fieldF (P : Program) (s : TypeId) (x : Value) (f : Nat) : OV :=
  @Option.rec Nat (fun _ => OV) none (fun off => @Option.rec Addr (fun _ => OV) none (fun a => some (.pointer (some (addK a off)))) (ptrO x)) (fieldOff P s f)
theorem fieldF_eq (P : Program) (s : TypeId) (x : Value) (f : Nat) : fieldF P s x f = fieldAddrV P s x f := by
  unfold fieldF fieldAddrV fieldOff
  cases hu : P.underlying s with
  | none => rfl
  | some d =>
    cases d <;> try rfl
    next fs =>
    simp only []
    cases hp : ptrO x with
    | none =>
      have h1 : ∀ off : Option Nat, (@Option.rec Nat (fun _ => OV) none (fun off => @Option.rec Addr (fun _ => OV) none (fun a => some (.pointer (some (addK a off)))) (none : Option Addr)) off) = none := fun o => by cases o <;> rfl
      rw [h1]
      cases x <;> try rfl
      next p => cases p with
        | none => rfl
        | some a => exact absurd hp (by show ¬ some a = none; simp)
    | some a =>
      rw [ptrO_some hp]
      simp only []
      cases fs.toList[f]? with
      | none => rfl
      | some fd =>
        simp only []
        cases tSize P fd.type with
        | none => rfl
        | some n => cases n with
          | zero => rfl
          | succ n => show some (Value.pointer (some (addK a fd.offset))) = _; rw [addK_eq]
/-! ### An element's address -/
def ixN : Value → Option Nat := @Value.rec (fun _ => Option Nat) (fun _ => Unit) (fun _ => Unit) (fun _ => none) (fun _ n => @Int.rec (fun _ => Option Nat) (fun m => some m) (fun _ => none) n) (fun _ _ => none) (fun _ _ _ => none) (fun _ => none) (fun _ => none) (fun _ _ _ => none) (fun _ => none) (fun _ => none) (fun _ _ _ _ _ => none) (none) (fun _ _ _ => none) (none) (fun _ _ => none) (fun _ _ => none) (fun _ _ => ()) () (fun _ _ _ _ => ())
theorem ixN_some {v : Value} {m : Nat} (h : ixN v = some m) : ∃ k, v = .int k (.ofNat m) := by
  cases v <;> try (exact absurd h (by show ¬ none = some m; simp))
  next k n => cases n with
    | ofNat j => exact ⟨k, congrArg (fun x => Value.int k (.ofNat x)) (Option.some.inj h)⟩
    | negSucc j => exact absurd h (by show ¬ none = some m; simp)
def slcO : Value → Option (Option Addr × Nat) := @Value.rec (fun _ => Option (Option Addr × Nat)) (fun _ => Unit) (fun _ => Unit) (fun _ => none) (fun _ _ => none) (fun _ _ => none) (fun _ _ _ => none) (fun _ => none) (fun _ => none) (fun a n _ => some (a, n)) (fun _ => none) (fun _ => none) (fun _ _ _ _ _ => none) (none) (fun _ _ _ => none) (none) (fun _ _ => none) (fun _ _ => none) (fun _ _ => ()) () (fun _ _ _ _ => ())
theorem slcO_some {v : Value} {a : Option Addr} {n : Nat} (h : slcO v = some (a, n)) : ∃ c, v = .slice a n c := by
  cases v <;> try (exact absurd h (by show ¬ none = some (a, n); simp))
  next a' n' c =>
    have h : some (a', n') = some (a, n) := h
    cases h; exact ⟨c, rfl⟩
/-- What the index goes into: an array of so many, a slice; and an element's size. -/
def idxOf (P : Program) (t : TypeId) : Option (Option Nat × Nat) :=
  match P.underlying t with
  | some (.array n e) => match tSize P e with | some sz => some (some n, sz) | none => none
  | some (.slice e) => match tSize P e with | some sz => some (none, sz) | none => none
  | _ => none
def inB (b : Bool) (o : OV) : OV := @Bool.rec (fun _ => OV) none o b
def arrAt (x : Value) (i sz n : Nat) : OV := @Option.rec Addr (fun _ => OV) none (fun a => inB (Nat.ble (Nat.succ i) n) (some (.pointer (some (addK a (Nat.mul i sz)))))) (ptrO x)
def slcAt (x : Value) (i sz : Nat) : OV := @Option.rec (Option Addr × Nat) (fun _ => OV) none (fun p => @Option.rec Addr (fun _ => OV) none (fun a => @Option.rec Nat (fun _ => OV) (inB (Nat.ble (Nat.succ i) p.2) (some (.pointer (some (addK a (Nat.mul i sz)))))) (fun _ => none) a.spot) p.1) (slcO x)
def indexF (P : Program) (t : TypeId) (x ix : Value) : OV :=
  @Option.rec (Option Nat × Nat) (fun _ => OV) none (fun p => @Option.rec Nat (fun _ => OV) none (fun i => @Option.rec Nat (fun _ => OV) (slcAt x i p.2) (fun n => arrAt x i p.2 n) p.1) (ixN ix)) (idxOf P t)
theorem inB_some {b : Bool} {o : OV} {v : Value} (h : inB b o = some v) : b = true ∧ o = some v := by
  cases b with
  | false => cases h
  | true => exact ⟨rfl, h⟩
theorem indexF_ok {P : Program} {t : TypeId} {x ix v : Value} (h : indexF P t x ix = some v) : indexAddrV P t x ix = some v := by
  unfold indexF at h
  cases hi : idxOf P t with
  | none => rw [hi] at h; cases h
  | some p =>
    obtain ⟨q, sz⟩ := p
    rw [hi] at h
    cases hx : ixN ix with
    | none => rw [hx] at h; cases h
    | some i =>
      rw [hx] at h
      obtain ⟨k, rfl⟩ := ixN_some hx
      unfold indexAddrV
      unfold idxOf at hi
      cases hu : P.underlying t with
      | none => rw [hu] at hi; cases hi
      | some d =>
        rw [hu] at hi
        cases d <;> try (cases hi; done)
        next e =>
          simp only [] at hi
          cases hs : tSize P e with
          | none => rw [hs] at hi; cases hi
          | some z =>
            rw [hs] at hi; cases hi
            have h : slcAt x i sz = some v := h
            unfold slcAt at h
            cases hc : slcO x with
            | none => rw [hc] at h; cases h
            | some p =>
              obtain ⟨a, n⟩ := p
              rw [hc] at h
              obtain ⟨c, rfl⟩ := slcO_some hc
              cases a with
              | none => cases h
              | some a =>
                have h : (@Option.rec Nat (fun _ => OV) (inB (Nat.ble (Nat.succ i) n) (some (.pointer (some (addK a (Nat.mul i sz)))))) (fun _ => none) a.spot) = some v := h
                cases hsp : a.spot with
                | some s => rw [hsp] at h; cases h
                | none =>
                  rw [hsp] at h
                  obtain ⟨h1, h2⟩ := inB_some h
                  have h1 := Nat.le_of_ble_eq_true h1
                  simp only [hs, hsp]
                  rw [if_pos ⟨rfl, Int.natCast_nonneg i, Int.ofNat_lt.2 h1⟩, ← h2, addK_eq]; rfl
        next n e =>
          simp only [] at hi
          cases hs : tSize P e with
          | none => rw [hs] at hi; cases hi
          | some z =>
            rw [hs] at hi; cases hi
            have h : arrAt x i sz n = some v := h
            unfold arrAt at h
            cases hc : ptrO x with
            | none => rw [hc] at h; cases h
            | some a =>
              rw [hc] at h
              rw [ptrO_some hc]
              obtain ⟨h1, h2⟩ := inB_some h
              have h1 := Nat.le_of_ble_eq_true h1
              simp only [hs]
              rw [if_pos ⟨Int.natCast_nonneg i, Int.ofNat_lt.2 h1⟩, ← h2, addK_eq]; rfl
def indexK (P : Program) (t : TypeId) (x ix : Value) : OV := @Option.rec Value (fun _ => OV) (indexAddrV P t x ix) (fun v => some v) (indexF P t x ix)
theorem indexK_eq (P : Program) (t : TypeId) (x ix : Value) : indexK P t x ix = indexAddrV P t x ix := by
  unfold indexK
  cases h : indexF P t x ix with
  | none => rfl
  | some v => exact (indexF_ok h).symm
/-! ### Loads and stores -/
def oneF (o : Option (List Value)) : OV := @Option.rec (List Value) (fun _ => OV) none (fun l => @List.rec Value (fun _ => OV) none (fun v r _ => @List.rec Value (fun _ => OV) (some v) (fun _ _ _ => none) r) l) o
def aggF (P : Program) (H : Heap) (t : TypeId) (a : Addr) : OV := @Option.rec Nat (fun _ => OV) none (fun n => @Option.rec (List Value) (fun _ => OV) none (fun l => some (.agg ⟨l⟩)) (H.load a.block a.off n)) (tSize P t)
def loadF (P : Program) (H : Heap) (t : TypeId) (v : Value) : OV :=
  @Option.rec Addr (fun _ => OV) none (fun a => @Option.rec Bool (fun _ => OV) none (fun g => @Bool.rec (fun _ => OV) (oneF (H.load a.block a.off 1)) (aggF P H t a) g) (tAgg P t)) (ptrO v)
theorem loadF_eq (P : Program) (H : Heap) (t : TypeId) (v : Value) : loadF P H t v = loadV P H t v := by
  unfold loadF
  cases hp : ptrO v with
  | none =>
    unfold loadV
    cases v <;> try rfl
    next p => cases p with
      | none => rfl
      | some a => exact absurd hp (by show ¬ some a = none; simp)
  | some a =>
    rw [ptrO_some hp]
    unfold loadV
    simp only []
    cases tAgg P t with
    | none => rfl
    | some g => cases g with
      | true =>
        show aggF P H t a = _
        unfold aggF
        cases tSize P t with
        | none => rfl
        | some n =>
          show (@Option.rec (List Value) (fun _ => OV) none (fun l => some (.agg ⟨l⟩)) (H.load a.block a.off n)) = (H.load a.block a.off n).map _
          cases H.load a.block a.off n <;> rfl
      | false =>
        show oneF (H.load a.block a.off 1) = _
        simp only []
        cases H.load a.block a.off 1 with
        | none => rfl
        | some l => cases l with
          | nil => rfl
          | cons u r => cases r <;> rfl
def cellsD : Value → Value → List Value := @Value.rec (fun _ => Value → List Value) (fun _ => Unit) (fun _ => Unit) (fun _ => fun w => [w]) (fun _ _ => fun w => [w]) (fun _ _ => fun w => [w]) (fun _ _ _ => fun w => [w]) (fun _ => fun w => [w]) (fun _ => fun w => [w]) (fun _ _ _ => fun w => [w]) (fun _ => fun w => [w]) (fun _ => fun w => [w]) (fun _ _ _ _ _ => fun w => [w]) (fun w => [w]) (fun _ _ _ => fun w => [w]) (fun w => [w]) (fun c _ _ => c.toList) (fun _ _ => fun w => [w]) (fun _ _ => ()) () (fun _ _ _ _ => ())
def cellsF (v : Value) : List Value := cellsD v v
theorem cellsF_eq (v : Value) : cellsF v = cellsL v := by cases v <;> first | rfl
def oneD : Value → Bool := @Value.rec (fun _ => Bool) (fun _ => Unit) (fun _ => Unit) (fun _ => true) (fun _ _ => true) (fun _ _ => true) (fun _ _ _ => true) (fun _ => true) (fun _ => true) (fun _ _ _ => true) (fun _ => true) (fun _ => true) (fun _ _ _ _ _ => true) (true) (fun _ _ _ => true) (true) (fun _ _ => false) (fun _ _ => false) (fun _ _ => ()) () (fun _ _ _ _ => ())
theorem oneD_eq (v : Value) : oneD v = oneCell v := by cases v <;> rfl
def sizedF (n : Nat) : List Value → Bool :=
  @Nat.rec (fun _ => List Value → Bool) (fun l => @List.rec Value (fun _ => Bool) true (fun _ _ _ => false) l) (fun _ ih l => @List.rec Value (fun _ => Bool) false (fun v r _ => @Bool.rec (fun _ => Bool) false (ih r) (oneD v)) l) n
theorem sizedF_eq : ∀ (n : Nat) (l : List Value), sizedF n l = sizedK n l
  | 0, [] => rfl
  | 0, _ :: _ => rfl
  | n + 1, [] => rfl
  | n + 1, v :: r => by
    show (@Bool.rec (fun _ => Bool) false (sizedF n r) (oneD v)) = (@Bool.rec (fun _ => Bool) false (sizedK n r) (oneCell v))
    rw [sizedF_eq n r, oneD_eq]
def putF (H : Heap) (ad : Addr) (cs : List Value) : OH := @Option.rec Heap (fun _ => OH) none (fun H' => some (undef, H')) (H.store ad.block ad.off cs)
def storeF (P : Program) (H : Heap) (t : TypeId) (a v : Value) : OH :=
  @Option.rec Addr (fun _ => OH) none (fun ad => @Option.rec Nat (fun _ => OH) none (fun n => @Bool.rec (fun _ => OH) none (putF H ad (cellsF v)) (sizedF n (cellsF v))) (tSize P t)) (ptrO a)
theorem storeF_eq (P : Program) (H : Heap) (t : TypeId) (a v : Value) : storeF P H t a v = storeV P H t a v := by
  unfold storeF
  rw [cellsF_eq]
  cases hp : ptrO a with
  | none =>
    unfold storeV
    cases a <;> try rfl
    next p => cases p with
      | none => rfl
      | some a => exact absurd hp (by show ¬ some a = none; simp)
  | some ad =>
    rw [ptrO_some hp]
    unfold storeV
    simp only []
    cases tSize P t with
    | none => rfl
    | some n =>
      show (@Bool.rec (fun _ => OH) none (putF H ad (cellsL v)) (sizedF n (cellsL v))) = _
      rw [sizedF_eq]
      simp only []
      cases sizedK n (cellsL v) with
      | false => rfl
      | true =>
        show putF H ad (cellsL v) = _
        unfold putF
        simp only []
        cases H.store ad.block ad.off (cellsL v) <;> rfl
/-! ### Lengths -/
def szO : Value → Option Nat := @Value.rec (fun _ => Option Nat) (fun _ => Unit) (fun _ => Unit) (fun _ => none) (fun _ _ => none) (fun _ _ => none) (fun _ _ _ => none) (fun _ => none) (fun _ => none) (fun _ n _ => some n) (fun _ => none) (fun _ => none) (fun _ _ _ _ _ => none) (none) (fun _ _ _ => none) (none) (fun _ _ => none) (fun _ _ => none) (fun _ _ => ()) () (fun _ _ _ _ => ())
def isSl (P : Program) (t : TypeId) : Bool := match P.underlying t with
  | some (.slice _) => true
  | _ => false
def lenF (P : Program) (t : TypeId) (x : Value) : OV := @Bool.rec (fun _ => OV) (lenV P t x) (@Option.rec Nat (fun _ => OV) (lenV P t x) (fun n => some (.int .i64 (.ofNat n))) (szO x)) (isSl P t)
theorem lenF_eq (P : Program) (t : TypeId) (x : Value) : lenF P t x = lenV P t x := by
  unfold lenF
  cases hs : isSl P t with
  | false => rfl
  | true =>
    cases x <;> try rfl
    next a n c =>
    show some (Value.int .i64 (.ofNat n)) = _
    unfold isSl at hs
    unfold lenV
    split at hs
    · next e hu => rw [hu]; rfl
    · cases hs
/-! ### Lists -/
def apK (a b : List Value) : List Value := @List.rec Value (fun _ => List Value) b (fun v _ ih => v :: ih) a
theorem apK_eq : ∀ (a b : List Value), apK a b = a ++ b
  | [], b => rfl
  | v :: a, b => by show v :: apK a b = _; rw [apK_eq a b]; rfl
def endK (a c : List Value) : List Value := @List.rec Value (fun _ => List Value) a (fun v r _ => apK a (v :: r)) c
theorem endK_eq (a c : List Value) : endK a c = a ++ c := by
  cases c with
  | nil => show a = _; simp
  | cons v r => exact apK_eq a (v :: r)
end Ev
end Go.Proofs.YtepdkcikkemieaaGreat
