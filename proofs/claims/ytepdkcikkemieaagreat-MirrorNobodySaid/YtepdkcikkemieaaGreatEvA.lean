/- THE ENGINE, 1: abstract values, heaps and frames; what they mean in a world. -/
import Derived.Test.YtepdkcikkemieaaGreatTrk
noncomputable section
namespace Go.Proofs.YtepdkcikkemieaaGreat
open Go.RowKit
set_option linter.unusedVariables false
set_option linter.unusedSimpArgs false
namespace Ev

/-- A number, a truth value: told at once. (By the recursor, all branches closed: few steps for the kernel.) -/
def forceV {β : Type} : Value → (Value → β) → β :=
  @Value.rec (fun _ => (Value → β) → β) (fun _ => Unit) (fun _ => Unit)
    (fun b k => @Bool.rec (fun _ => β) (k (.bool false)) (k (.bool true)) b)
    (fun d n k => @Int.rec (fun _ => β) (fun m => @Nat.rec (fun _ => β) (k (.int d (.ofNat 0))) (fun m _ => k (.int d (.ofNat (Nat.succ m)))) m) (fun m => @Nat.rec (fun _ => β) (k (.int d (.negSucc 0))) (fun m _ => k (.int d (.negSucc (Nat.succ m)))) m) n)
    (fun d n k => k (.float d n)) (fun d n m k => k (.complex d n m)) (fun s k => k (.string s)) (fun a k => k (.pointer a)) (fun a n c k => k (.slice a n c)) (fun r k => k (.map r)) (fun r k => k (.chan r))
    (fun f p q _ _ k => k (.func f p q)) (fun k => k .nilFunc) (fun t v _ k => k (.iface t v)) (fun k => k .nilIface) (fun c _ k => k (.agg c)) (fun c _ k => k (.tuple c)) (fun _ _ => ()) () (fun _ _ _ _ => ())
theorem forceV_eq {β : Type} (v : Value) (k : Value → β) : forceV v k = k v := by
  cases v with
  | int d n => cases n with
    | ofNat m => cases m <;> rfl
    | negSucc m => cases m <;> rfl
  | bool b => cases b <;> rfl
  | _ => rfl
/-! ### Abstract values: the model's own, over abstract blocks. A slice whose capacity is BIG or more reaches to the end of a block whose spare room is not known. -/
def BIG : Nat := 18446744073709551616
/-- Where an abstract block lies: the block, the place in it, the spare capacity (in elements), the spare cells. -/
structure Blk where
  blk : Nat
  base : Nat
  exc : Nat
structure Phi where
  at_ : Nat → Option Blk
  env : Nat → Option Value
def concA (φ : Phi) (a : Addr) : Option Addr :=
  match φ.at_ a.block with
  | none => none
  | some b => match a.spot with
    | none => some ⟨b.blk, b.base + a.off, none⟩
    | some sh => some ⟨b.blk, if b.exc = 0 then b.base + a.off else b.base + a.off + sh, none⟩
/-! ### What a token stands for. By its number's last three bits: anything; a number of 32 bits; that one as an int; two such, added; an int between two bounds. -/
def tokLo (i : Nat) : Int := ((i / 65536 % 18446744073709551616 : Nat) : Int) - 9223372036854775808
def tokHi (i : Nat) : Int := ((i / 65536 / 18446744073709551616 : Nat) : Int) - 9223372036854775808
def i32At (env : Nat → Option Value) (i : Nat) : Option Int := match env i with
  | some (.int .i32 m) => some m
  | _ => none
/-- What is known of a string: the least and the greatest length, the first byte, or that it is not that one. -/
def strLo (i : Nat) : Nat := i / 65536 % 4294967296
def strHi (i : Nat) : Nat := i / 65536 / 4294967296 % 18446744073709551616
def strB (i : Nat) : Nat := i / 65536 / 4294967296 / 18446744073709551616
def strOk (i : Nat) (s : ByteArray) : Prop :=
  strLo i ≤ s.size ∧ s.size ≤ strHi i ∧ (1 ≤ strB i → strB i ≤ 256 → ∀ b, s[0]? = some b → b.toNat = strB i - 1) ∧ (257 ≤ strB i → ∀ b, s[0]? = some b → b.toNat ≠ strB i - 257)
def strAt (env : Nat → Option Value) (i : Nat) : Option ByteArray := match env (i % 65536) with
  | some (.string s) => @ite _ (strOk i s) (Classical.propDecidable _) (some s) none
  | _ => none
theorem strAt_ok {env : Nat → Option Value} {i : Nat} {s : ByteArray} (h : strAt env i = some s) : strOk i s := by
  unfold strAt at h
  split at h
  · split at h
    · next hs => cases h; exact hs
    · cases h
  · cases h
def tok (env : Nat → Option Value) (n : Nat) : Option Value :=
  if n % 8 = 0 then env (n / 8)
  else if n % 8 = 1 then (i32At env (n / 8)).map fun m => .int .i32 m
  else if n % 8 = 2 then (i32At env (n / 8)).map fun m => .int .i64 (IntKind.i64.wrap m)
  else if n % 8 = 3 then match i32At env (n / 8 / 4294967296), i32At env (n / 8 % 4294967296) with
    | some a, some b => some (.int .i64 (IntKind.i64.wrap (IntKind.i64.wrap a + IntKind.i64.wrap b)))
    | _, _ => none
  else if n % 8 = 4 then match env (n / 8 % 65536) with
    | some (.int .i64 m) => if tokLo (n / 8) ≤ m ∧ m ≤ tokHi (n / 8) then some (.int .i64 m) else none
    | _ => none
  else if n % 8 = 5 then (strAt env (n / 8)).map fun s => .string s
  else if n % 8 = 6 then (strAt env (n / 8)).map fun s => .int .i64 s.size
  else (strAt env (n / 8)).bind fun s => (s[0]?).map fun b => .int .u8 b.toNat
/-- The kind of number that it is known to be. -/
def tokKind (n : Nat) : Option IntKind := if n % 8 = 1 then some .i32 else if n % 8 = 2 then some .i64 else if n % 8 = 3 then some .i64 else if n % 8 = 4 then some .i64 else if n % 8 = 6 then some .i64 else if n % 8 = 7 then some .u8 else none
theorem tok_int {env : Nat → Option Value} {n : Nat} {k : IntKind} {X : Value} (h : tokKind n = some k) (hx : tok env n = some X) : ∃ m, X = .int k m := by
  unfold tokKind at h
  unfold tok at hx
  split at h
  · next h1 =>
    cases h
    rw [if_neg (by omega), if_pos h1] at hx
    cases hi : i32At env (n / 8) with
    | none => rw [hi] at hx; cases hx
    | some m => rw [hi] at hx; cases hx; exact ⟨m, rfl⟩
  · next n1 =>
    split at h
    · next h2 =>
      cases h
      rw [if_neg (by omega), if_neg n1, if_pos h2] at hx
      cases hi : i32At env (n / 8) with
      | none => rw [hi] at hx; cases hx
      | some m => rw [hi] at hx; cases hx; exact ⟨_, rfl⟩
    · next n2 =>
      split at h
      · next h3 =>
        cases h
        rw [if_neg (by omega), if_neg n1, if_neg n2, if_pos h3] at hx
        split at hx
        · cases hx; exact ⟨_, rfl⟩
        · cases hx
      · next n3 =>
        split at h
        · next h4 =>
          cases h
          rw [if_neg (by omega), if_neg n1, if_neg n2, if_neg n3, if_pos h4] at hx
          split at hx
          · split at hx
            · cases hx; exact ⟨_, rfl⟩
            · cases hx
          · cases hx
        · next n4 =>
          split at h
          · next h6 =>
            cases h
            rw [if_neg (by omega), if_neg n1, if_neg n2, if_neg n3, if_neg n4, if_neg (by omega), if_pos h6] at hx
            cases hi : strAt env (n / 8) with
            | none => rw [hi] at hx; cases hx
            | some m => rw [hi] at hx; cases hx; exact ⟨_, rfl⟩
          · next n6 =>
            split at h
            · next h7 =>
              cases h
              rw [if_neg (by omega), if_neg n1, if_neg n2, if_neg n3, if_neg n4, if_neg (by omega), if_neg n6] at hx
              cases hi : strAt env (n / 8) with
              | none => rw [hi] at hx; cases hx
              | some s =>
                rw [hi] at hx
                have hx : (s[0]?).map (fun b => Value.int .u8 b.toNat) = some X := hx
                cases hb : s[0]? with
                | none => rw [hb] at hx; cases hx
                | some b => rw [hb] at hx; cases hx; exact ⟨_, rfl⟩
            · cases h
theorem tok_str {env : Nat → Option Value} {n : Nat} {X : Value} (h : n % 8 = 5) (hx : tok env n = some X) : ∃ s, strOk (n / 8) s ∧ X = .string s ∧ strAt env (n / 8) = some s := by
  unfold tok at hx
  rw [if_neg (by omega), if_neg (by omega), if_neg (by omega), if_neg (by omega), if_neg (by omega), if_pos h] at hx
  cases hi : strAt env (n / 8) with
  | none => rw [hi] at hx; cases hx
  | some s => rw [hi] at hx; cases hx; exact ⟨s, strAt_ok hi, rfl, rfl⟩
theorem tok_len {env : Nat → Option Value} {n : Nat} {s : ByteArray} (h : n % 8 = 5) (hi : strAt env (n / 8) = some s) : tok env (n + 1) = some (.int .i64 s.size) := by
  unfold tok
  rw [if_neg (by omega), if_neg (by omega), if_neg (by omega), if_neg (by omega), if_neg (by omega), if_neg (by omega), if_pos (by omega), show (n + 1) / 8 = n / 8 by omega, hi]; rfl
theorem tok_first {env : Nat → Option Value} {n : Nat} {s : ByteArray} {b : UInt8} (h : n % 8 = 5) (hi : strAt env (n / 8) = some s) (hb : s[0]? = some b) : tok env (n + 2) = some (.int .u8 b.toNat) := by
  unfold tok
  rw [if_neg (by omega), if_neg (by omega), if_neg (by omega), if_neg (by omega), if_neg (by omega), if_neg (by omega), if_neg (by omega), show (n + 2) / 8 = n / 8 by omega, hi]
  show (s[0]?).map _ = _
  rw [hb]; rfl
def bLo (n : Nat) : Int := if n % 8 = 4 then tokLo (n / 8) else (strLo (n / 8) : Nat)
def bHi (n : Nat) : Int := if n % 8 = 4 then tokHi (n / 8) else (strHi (n / 8) : Nat)
theorem tok_rng {env : Nat → Option Value} {n : Nat} {X : Value} (h : n % 8 = 4 ∨ n % 8 = 6) (hx : tok env n = some X) : ∃ m, X = .int .i64 m ∧ bLo n ≤ m ∧ m ≤ bHi n := by
  unfold tok at hx
  unfold bLo bHi
  rcases h with h | h
  · rw [if_neg (by omega), if_neg (by omega), if_neg (by omega), if_neg (by omega), if_pos h] at hx
    rw [if_pos h, if_pos h]
    split at hx
    · split at hx
      · next hr => cases hx; exact ⟨_, rfl, hr⟩
      · cases hx
    · cases hx
  · rw [if_neg (by omega), if_neg (by omega), if_neg (by omega), if_neg (by omega), if_neg (by omega), if_neg (by omega), if_pos h] at hx
    rw [if_neg (by omega), if_neg (by omega)]
    cases hi : strAt env (n / 8) with
    | none => rw [hi] at hx; cases hx
    | some s =>
      rw [hi] at hx; cases hx
      obtain ⟨h1, h2, _⟩ := strAt_ok hi
      exact ⟨_, rfl, Int.ofNat_le.2 h1, Int.ofNat_le.2 h2⟩
theorem tok_conv {env : Nat → Option Value} {n : Nat} {X : Value} (h : n % 8 = 1) (hx : tok env n = some X) : ∃ m, X = .int .i32 m ∧ tok env (n + 1) = some (.int .i64 (IntKind.i64.wrap m)) := by
  unfold tok at hx
  rw [if_neg (by omega), if_pos h] at hx
  cases hi : i32At env (n / 8) with
  | none => rw [hi] at hx; cases hx
  | some m =>
    rw [hi] at hx; cases hx
    refine ⟨m, rfl, ?_⟩
    unfold tok
    rw [if_neg (by omega), if_neg (by omega), if_pos (by omega), show (n + 1) / 8 = n / 8 by omega, hi]; rfl
theorem tok_two {env : Nat → Option Value} {n : Nat} {X : Value} (h : n % 8 = 2) (hx : tok env n = some X) : ∃ m, i32At env (n / 8) = some m ∧ X = .int .i64 (IntKind.i64.wrap m) := by
  unfold tok at hx
  rw [if_neg (by omega), if_neg (by omega), if_pos h] at hx
  cases hi : i32At env (n / 8) with
  | none => rw [hi] at hx; cases hx
  | some m => rw [hi] at hx; cases hx; exact ⟨m, rfl, rfl⟩
def tokSum (n m : Nat) : Nat := (n / 8 * 4294967296 + m / 8) * 8 + 3
theorem tok_sum {env : Nat → Option Value} {n m : Nat} {X Y : Value} (hn : n % 8 = 2) (hm : m % 8 = 2) (hl : m / 8 < 4294967296) (hx : tok env n = some X) (hy : tok env m = some Y) :
    ∃ a b, X = .int .i64 a ∧ Y = .int .i64 b ∧ tok env (tokSum n m) = some (.int .i64 (IntKind.i64.wrap (a + b))) := by
  obtain ⟨a, h1, rfl⟩ := tok_two hn hx
  obtain ⟨b, h2, rfl⟩ := tok_two hm hy
  refine ⟨_, _, rfl, rfl, ?_⟩
  unfold tok tokSum
  rw [if_neg (by omega), if_neg (by omega), if_neg (by omega), if_pos (by omega), show ((n / 8 * 4294967296 + m / 8) * 8 + 3) / 8 / 4294967296 = n / 8 by omega, show ((n / 8 * 4294967296 + m / 8) * 8 + 3) / 8 % 4294967296 = m / 8 by omega, h1, h2]
/-- A number between bounds, compared with a number. -/
def tokCmp (op : BinOp) (n : Nat) (a : Int) : Option Bool :=
  if n % 8 = 4 ∨ n % 8 = 6 then
    match op with
    | .lss => if bHi n < a then some true else if a ≤ bLo n then some false else none
    | .leq => if bHi n ≤ a then some true else if a < bLo n then some false else none
    | .gtr => if a < bLo n then some true else if bHi n ≤ a then some false else none
    | .geq => if a ≤ bLo n then some true else if bHi n < a then some false else none
    | .eql => if bHi n < a ∨ a < bLo n then some false else none
    | .neq => if bHi n < a ∨ a < bLo n then some true else none
    | _ => none
  else none
def flipOp : BinOp → BinOp
  | .lss => .gtr
  | .leq => .geq
  | .gtr => .lss
  | .geq => .leq
  | .eql => .eql
  | .neq => .neq
  | _ => .add
section
variable (t : TypeId) (k : IntKind) (a b : Int)
theorem cmp_eql : Go.binOp .eql t (.int k a) (.int k b) = .pure (.bool (decide (a = b))) := by simp [Go.binOp, Op.intCmp]; rfl
theorem cmp_neq : Go.binOp .neq t (.int k a) (.int k b) = .pure (.bool (!decide (a = b))) := by simp [Go.binOp, Op.intCmp]; rfl
theorem cmp_lss : Go.binOp .lss t (.int k a) (.int k b) = .pure (.bool (decide (a < b))) := by simp [Go.binOp, Op.intCmp]; rfl
theorem cmp_leq : Go.binOp .leq t (.int k a) (.int k b) = .pure (.bool (decide (a ≤ b))) := by simp [Go.binOp, Op.intCmp]; rfl
theorem cmp_gtr : Go.binOp .gtr t (.int k a) (.int k b) = .pure (.bool (decide (a > b))) := by simp [Go.binOp, Op.intCmp]; rfl
theorem cmp_geq : Go.binOp .geq t (.int k a) (.int k b) = .pure (.bool (decide (a ≥ b))) := by simp [Go.binOp, Op.intCmp]; rfl
theorem cmp_add : Go.binOp .add t (.int k a) (.int k b) = .pure (.int k (k.wrap (a + b))) := by simp [Go.binOp, Op.intArith]; rfl
end
theorem tokCmp_ok {env : Nat → Option Value} {op : BinOp} {n : Nat} {a : Int} {b : Bool} {X : Value} (h : tokCmp op n a = some b) (hx : tok env n = some X) (t : TypeId) : ∃ m, X = .int .i64 m ∧ Go.binOp op t (.int .i64 m) (.int .i64 a) = .pure (.bool b) := by
  unfold tokCmp at h
  split at h
  · next h4 =>
    obtain ⟨m, rfl, h1, h2⟩ := tok_rng h4 hx
    refine ⟨m, rfl, ?_⟩
    generalize bLo n = lo at *
    generalize bHi n = hi at *
    cases op <;> simp only [] at h <;> try (cases h; done)
    all_goals (first | rw [cmp_lss] | rw [cmp_leq] | rw [cmp_gtr] | rw [cmp_geq] | rw [cmp_eql] | rw [cmp_neq])
    all_goals (repeat' (split at h))
    all_goals (first | (cases h; done) | (cases h; rw [decide_eq_true (by omega)]; done) | (cases h; rw [decide_eq_false (by omega)]; done) | (cases h; rw [decide_eq_false (by omega)]; rfl))
  · cases h
theorem tokFlip_ok {env : Nat → Option Value} {op : BinOp} {n : Nat} {a : Int} {b : Bool} {X : Value} (h : tokCmp (flipOp op) n a = some b) (hx : tok env n = some X) (t : TypeId) : ∃ m, X = .int .i64 m ∧ Go.binOp op t (.int .i64 a) (.int .i64 m) = .pure (.bool b) := by
  unfold tokCmp at h
  split at h
  · next h4 =>
    obtain ⟨m, rfl, h1, h2⟩ := tok_rng h4 hx
    refine ⟨m, rfl, ?_⟩
    generalize bLo n = lo at *
    generalize bHi n = hi at *
    cases op <;> simp only [flipOp] at h <;> try (cases h; done)
    all_goals (first | rw [cmp_lss] | rw [cmp_leq] | rw [cmp_gtr] | rw [cmp_geq] | rw [cmp_eql] | rw [cmp_neq])
    all_goals (repeat' (split at h))
    all_goals (first | (cases h; done) | (cases h; rw [decide_eq_true (by omega)]; done) | (cases h; rw [decide_eq_false (by omega)]; done) | (cases h; rw [decide_eq_false (by omega)]; rfl))
  · cases h
def oneCell : Value → Bool
  | .agg _ => false
  | .tuple _ => false
  | _ => true
mutual
def conc (φ : Phi) : Value → Option Value
  | .pointer none => some (.pointer none)
  | .pointer (some a) => if a.spot.isSome then none else (concA φ a).map fun a => .pointer (some a)
  | .slice none len cap => some (.slice none len cap)
  | .slice (some a) len cap => match φ.at_ a.block, concA φ a with
    | some b, some a' => some (.slice (some a') len (if cap < BIG then cap else cap - BIG + b.exc))
    | _, _ => none
  | .map none => some (.map none)
  | .map (some r) => (φ.at_ r).map fun b => .map (some b.blk)
  | .chan none => some (.chan none)
  | .chan (some _) => none
  | .func (.func f) ⟨first⟩ ⟨captured⟩ => match concL φ first, concL φ captured with
    | some a, some b => some (.func (.func f) a.toArray b.toArray)
    | _, _ => none
  | .func _ _ _ => none
  | .iface t v => (conc φ v).map (.iface t)
  | .agg ⟨cs⟩ => (concL φ cs).map fun l => .agg l.toArray
  | .tuple ⟨vs⟩ => (concL φ vs).map fun l => .tuple l.toArray
  | .float .f64 n => match tok φ.env n with
    | some x => if oneCell x then some x else none
    | none => none
  | .float .f32 n => (φ.at_ n).map fun b => .func (.yield b.blk) #[] #[]
  | .complex _ _ _ => none
  | .bool b => some (.bool b)
  | .int k n => some (.int k n)
  | .string s => some (.string s)
  | .nilFunc => some .nilFunc
  | .nilIface => some .nilIface
def concL (φ : Phi) : List Value → Option (List Value)
  | [] => some []
  | v :: l => match conc φ v, concL φ l with
    | some x, some y => some (x :: y)
    | _, _ => none
end
/-- The second map says all that the first one does. -/
def Phi.le (φ ψ : Phi) : Prop := (∀ n b, φ.at_ n = some b → ψ.at_ n = some b) ∧ φ.env = ψ.env
theorem Phi.le_refl (φ : Phi) : φ.le φ := ⟨fun _ _ h => h, rfl⟩
theorem Phi.le_trans {a b c : Phi} (h : a.le b) (k : b.le c) : a.le c := ⟨fun n x hx => k.1 n x (h.1 n x hx), h.2.trans k.2⟩
theorem concA_le {φ ψ : Phi} (h : φ.le ψ) {a x : Addr} (hx : concA φ a = some x) : concA ψ a = some x := by
  unfold concA at *
  cases ha : φ.at_ a.block with
  | none => rw [ha] at hx; cases hx
  | some b => rw [ha] at hx; rw [h.1 _ _ ha]; exact hx
mutual
theorem conc_le {φ ψ : Phi} (h : φ.le ψ) : ∀ (v x : Value), conc φ v = some x → conc ψ v = some x
  | .pointer none, x, hx => by simpa [conc] using hx
  | .pointer (some a), x, hx => by
    simp only [conc] at *
    split at hx
    · cases hx
    · next hs =>
      rw [if_neg hs]
      cases ha : concA φ a with
      | none => rw [ha] at hx; cases hx
      | some a' => rw [ha] at hx; rw [concA_le h ha]; exact hx
  | .slice none _ _, x, hx => by simpa [conc] using hx
  | .slice (some a) len cap, x, hx => by
    simp only [conc] at *
    cases hb : φ.at_ a.block with
    | none => rw [hb] at hx; simp at hx
    | some b =>
      cases ha : concA φ a with
      | none => rw [ha] at hx; rw [hb] at hx; simp at hx
      | some a' => rw [ha, hb] at hx; rw [concA_le h ha, h.1 _ _ hb]; exact hx
  | .map none, x, hx => by simpa [conc] using hx
  | .map (some r), x, hx => by
    simp only [conc] at *
    cases hb : φ.at_ r with
    | none => rw [hb] at hx; simp at hx
    | some b => rw [hb] at hx; rw [h.1 _ _ hb]; exact hx
  | .chan none, x, hx => by simpa [conc] using hx
  | .chan (some _), x, hx => by simp [conc] at hx
  | .func (.func f) ⟨first⟩ ⟨captured⟩, x, hx => by
    simp only [conc] at *
    cases h1 : concL φ first with
    | none => rw [h1] at hx; simp at hx
    | some a =>
      cases h2 : concL φ captured with
      | none => rw [h1, h2] at hx; simp at hx
      | some b => rw [h1, h2] at hx; rw [concL_le h _ _ h1, concL_le h _ _ h2]; exact hx
  | .func (.method _) _ _, x, hx => by simp [conc] at hx
  | .func (.methodOf _ _) _ _, x, hx => by simp [conc] at hx
  | .func (.via _ _ _ _) _ _, x, hx => by simp [conc] at hx
  | .func (.yield _) _ _, x, hx => by simp [conc] at hx
  | .iface t v, x, hx => by
    simp only [conc] at *
    cases h1 : conc φ v with
    | none => rw [h1] at hx; simp at hx
    | some a => rw [h1] at hx; rw [conc_le h _ _ h1]; exact hx
  | .agg ⟨cs⟩, x, hx => by
    simp only [conc] at *
    cases h1 : concL φ cs with
    | none => rw [h1] at hx; simp at hx
    | some a => rw [h1] at hx; rw [concL_le h _ _ h1]; exact hx
  | .tuple ⟨vs⟩, x, hx => by
    simp only [conc] at *
    cases h1 : concL φ vs with
    | none => rw [h1] at hx; simp at hx
    | some a => rw [h1] at hx; rw [concL_le h _ _ h1]; exact hx
  | .float .f64 n, x, hx => by simp only [conc] at *; rw [← h.2]; exact hx
  | .float .f32 n, x, hx => by
    simp only [conc] at *
    cases hb : φ.at_ n with
    | none => rw [hb] at hx; simp at hx
    | some b => rw [hb] at hx; rw [h.1 _ _ hb]; exact hx
  | .complex _ _ _, x, hx => by simp [conc] at hx
  | .bool b, x, hx => by simpa [conc] using hx
  | .int _ _, x, hx => by simpa [conc] using hx
  | .string _, x, hx => by simpa [conc] using hx
  | .nilFunc, x, hx => by simpa [conc] using hx
  | .nilIface, x, hx => by simpa [conc] using hx
theorem concL_le {φ ψ : Phi} (h : φ.le ψ) : ∀ (l x : List Value), concL φ l = some x → concL ψ l = some x
  | [], x, hx => by simpa [concL] using hx
  | v :: l, x, hx => by
    simp only [concL] at *
    cases h1 : conc φ v with
    | none => rw [h1] at hx; simp at hx
    | some a =>
      cases h2 : concL φ l with
      | none => rw [h1, h2] at hx; simp at hx
      | some b => rw [h1, h2] at hx; rw [conc_le h _ _ h1, concL_le h _ _ h2]; exact hx
end
theorem concL_len {φ : Phi} : ∀ {l x : List Value}, concL φ l = some x → x.length = l.length
  | [], x, h => by simp [concL] at h; subst h; rfl
  | v :: l, x, h => by
    simp only [concL] at h
    split at h
    · next a b h1 h2 => cases h; simp [concL_len h2]
    · cases h
theorem concL_get {φ : Phi} : ∀ {l x : List Value}, concL φ l = some x → ∀ (i : Nat) (v : Value), l[i]? = some v → ∃ y, x[i]? = some y ∧ conc φ v = some y
  | [], x, h, i, v, hv => by simp at hv
  | u :: l, x, h, i, v, hv => by
    simp only [concL] at h
    split at h
    · next a b h1 h2 =>
      cases h
      cases i with
      | zero => simp at hv; subst hv; exact ⟨a, rfl, h1⟩
      | succ i => simp at hv; simpa using concL_get h2 i v hv
    · cases h
theorem concL_of_get {φ : Phi} : ∀ {l x : List Value}, l.length = x.length → (∀ (i : Nat) (v : Value), l[i]? = some v → ∃ y, x[i]? = some y ∧ conc φ v = some y) → concL φ l = some x
  | [], x, hl, _ => by cases x with
    | nil => rfl
    | cons => simp at hl
  | v :: l, x, hl, h => by
    cases x with
    | nil => simp at hl
    | cons y x =>
      obtain ⟨y', h1, h2⟩ := h 0 v rfl
      simp at h1; subst h1
      simp only [concL, h2]
      rw [concL_of_get (by simpa using hl) (fun i u hu => by simpa using h (i + 1) u (by simpa using hu))]
end Ev
end Go.Proofs.YtepdkcikkemieaaGreat
