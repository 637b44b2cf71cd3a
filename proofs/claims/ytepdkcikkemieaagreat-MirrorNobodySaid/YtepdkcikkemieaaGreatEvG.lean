/- THE ENGINE, 7: operations that need no memory. -/
import Derived.Test.YtepdkcikkemieaaGreatEvF
noncomputable section
namespace Go.Proofs.YtepdkcikkemieaaGreat
open Go.RowKit
set_option linter.unusedVariables false
set_option linter.unusedSimpArgs false
namespace Ev

def asPure : Sem Value → Option Value
  | .pure v => if plainS v then some v else none
  | _ => none
theorem asPure_ok {s : Sem Value} {v : Value} (h : asPure s = some v) : plainS v = true ∧ s = .pure v := by
  cases s <;> simp only [asPure] at h <;> try cases h
  next u =>
    split at h
    · next hp => cases h; exact ⟨hp, rfl⟩
    · cases h
def isC : Operand → Bool
  | .const _ => true
  | _ => false
def eqShape : Value → Bool
  | .bool _ => true
  | .pointer _ => true
  | .slice _ _ _ => true
  | .map _ => true
  | .func _ _ _ => true
  | .nilFunc => true
  | .nilIface => true
  | .iface _ _ => true
  | .agg _ => true
  | _ => false
/-- What the guard of '==' asks. -/
def guardV (P : Program) (t : TypeId) (c : Bool) : Value → Value → Bool
  | .nilIface, .nilIface => c
  | .agg _, .agg _ => !P.eqGuardType P.depth t
  | _, _ => true
def tokTok (op : BinOp) (n m : Nat) : Option Value :=
  match op with
  | .add => if n % 8 = 2 ∧ m % 8 = 2 ∧ m / 8 < 4294967296 then some (.float .f64 (tokSum n m)) else none
  | .eql => if n = m ∧ (tokKind n).isSome then some (.bool true) else none
  | .neq => if n = m ∧ (tokKind n).isSome then some (.bool false) else none
  | _ => none
/-- A first byte that is not this one. -/
def tokByte (op : BinOp) (n : Nat) (b : Int) : Option Value :=
  if n % 8 = 7 ∧ 257 ≤ strB (n / 8) ∧ b = (strB (n / 8) - 257 : Nat) then
    match op with
    | .eql => some (.bool false)
    | .neq => some (.bool true)
    | _ => none
  else none
/-- A string that is longer. -/
def tokStr (op : BinOp) (n : Nat) (s : ByteArray) : Option Value :=
  if n % 8 = 5 ∧ s.size < strLo (n / 8) then
    match op with
    | .eql => some (.bool false)
    | .neq => some (.bool true)
    | _ => none
  else none
def binV (P : Program) (op : BinOp) (t : TypeId) (c : Bool) (x y : Value) : Option Value :=
  match x, y with
  | .int k a, .int k' b => asPure (Go.binOp op t (.int k a) (.int k' b))
  | .string a, .string b => asPure (Go.binOp op t (.string a) (.string b))
  | .float .f64 n, .int .i64 a => (tokCmp op n a).map .bool
  | .int .i64 a, .float .f64 n => (tokCmp (flipOp op) n a).map .bool
  | .float .f64 n, .float .f64 m => tokTok op n m
  | .float .f64 n, .int .u8 b => tokByte op n b
  | .float .f64 n, .string s => tokStr op n s
  | x, y =>
    if eqShape x && eqShape y && guardV P t c x y then
      match op with
      | .eql => (eqV P Op.maxDepth t x y).map .bool
      | .neq => (eqV P Op.maxDepth t x y).map fun b => .bool (!b)
      | _ => none
    else none
section
variable {P : Program} {φ : Phi}
theorem eqShape_conc {x X : Value} (h : eqShape x = true) (hx : conc φ x = some X) : eqShape X = true := by
  cases x <;> simp [eqShape] at h
  case bool b => simp [conc] at hx; subst hx; rfl
  case pointer a => cases a with
    | none => simp [conc] at hx; subst hx; rfl
    | some a => obtain ⟨_, a', _, rfl⟩ := conc_ptr hx; rfl
  case slice a n c => cases a with
    | none => simp [conc] at hx; subst hx; rfl
    | some a => obtain ⟨b, a', _, _, rfl⟩ := conc_slice hx; rfl
  case map r => cases r with
    | none => simp [conc] at hx; subst hx; rfl
    | some a => obtain ⟨b, _, rfl⟩ := conc_map hx; rfl
  case func f a b => obtain ⟨f, A, B, _, _, _, rfl⟩ := conc_func hx; rfl
  case nilFunc => simp [conc] at hx; subst hx; rfl
  case nilIface => simp [conc] at hx; subst hx; rfl
  case iface t v => obtain ⟨u, _, rfl⟩ := conc_iface hx; rfl
  case agg cs => obtain ⟨cs⟩ := cs; obtain ⟨l, _, rfl⟩ := conc_agg hx; rfl
theorem binOp_eql {t : TypeId} {X Y : Value} (hX : eqShape X = true) (hY : eqShape Y = true) : Go.binOp .eql t X Y = (do pure (.bool (← Op.equal t X Y))) ∧ Go.binOp .neq t X Y = (do pure (.bool (!(← Op.equal t X Y)))) := by
  cases X <;> simp [eqShape] at hX <;> cases Y <;> simp [eqShape] at hY <;> exact ⟨rfl, rfl⟩
theorem guard_iface {op : BinOp} {t : TypeId} {a b : Operand} (hc : (isC a || isC b) = true) : RunsTo P (eqGuard op t a b .nilIface .nilIface) () := by
  intro w
  cases a <;> cases b <;> simp [isC] at hc <;> cases op <;> rfl
theorem guard_agg {op : BinOp} {t : TypeId} {a b : Operand} {x y : Array Value} (hg : P.eqGuardType P.depth t = false) : RunsTo P (eqGuard op t a b (.agg x) (.agg y)) () := by
  intro w
  have key : (do if !(← program).eqGuardType (← program).depth t then return ()
                 if ← Op.eqGuardIn Op.maxDepth t (.agg x) (.agg y) then unsupported (.noEntry "binop/eql: two nil values of an interface type with methods, in a part of a struct or an array") : Sem Unit).run P w = .ok () w := by
    simp only [program]
    rw [run_bind]
    simp only [Sem.run]
    rw [run_bind]
    simp only [Sem.run, hg]
    rfl
  cases op <;> first | rfl | exact key
def guardFree : Value → Value → Bool
  | .nilIface, .nilIface => false
  | .agg _, .agg _ => false
  | _, _ => true
theorem guard_free {op : BinOp} {t : TypeId} {a b : Operand} {X Y : Value} (h : guardFree X Y = true) : RunsTo P (eqGuard op t a b X Y) () := by
  intro w
  cases X <;> cases Y <;> simp [guardFree] at h <;> cases op <;> rfl
/-- The shape is kept. -/
def sameShape : Value → Value → Prop
  | .nilIface, x => x = .nilIface
  | .agg _, x => ∃ l, x = .agg l
  | _, x => x ≠ .nilIface ∧ ∀ l, x ≠ .agg l
theorem conc_shape {x X : Value} (hs : eqShape x = true) (hx : conc φ x = some X) : sameShape x X := by
  cases x <;> simp [eqShape] at hs
  case bool b => simp [conc] at hx; subst hx; exact ⟨by simp, by simp⟩
  case pointer a => cases a with
    | none => simp [conc] at hx; subst hx; exact ⟨by simp, by simp⟩
    | some a => obtain ⟨_, a', _, rfl⟩ := conc_ptr hx; exact ⟨by simp, by simp⟩
  case slice a n c => cases a with
    | none => simp [conc] at hx; subst hx; exact ⟨by simp, by simp⟩
    | some a => obtain ⟨b, a', _, _, rfl⟩ := conc_slice hx; exact ⟨by simp, by simp⟩
  case map r => cases r with
    | none => simp [conc] at hx; subst hx; exact ⟨by simp, by simp⟩
    | some a => obtain ⟨b, _, rfl⟩ := conc_map hx; exact ⟨by simp, by simp⟩
  case func f a b => obtain ⟨f, A, B, _, _, _, rfl⟩ := conc_func hx; exact ⟨by simp, by simp⟩
  case nilFunc => simp [conc] at hx; subst hx; exact ⟨by simp, by simp⟩
  case nilIface => simp [conc] at hx; subst hx; rfl
  case iface t v => obtain ⟨u, _, rfl⟩ := conc_iface hx; exact ⟨by simp, by simp⟩
  case agg cs => obtain ⟨cs⟩ := cs; obtain ⟨l, _, rfl⟩ := conc_agg hx; exact ⟨_, rfl⟩
theorem guard_run {op : BinOp} {t : TypeId} {a b : Operand} {x y X Y : Value} (hg : guardV P t (isC a || isC b) x y = true) (hsx : eqShape x = true) (hsy : eqShape y = true) (hx : conc φ x = some X) (hy : conc φ y = some Y) : RunsTo P (eqGuard op t a b X Y) () := by
  have h1 := conc_shape hsx hx
  have h2 := conc_shape hsy hy
  unfold guardV at hg
  split at hg
  · cases h1; cases h2; exact guard_iface hg
  · obtain ⟨l, rfl⟩ := h1; obtain ⟨l', rfl⟩ := h2; exact guard_agg (by simpa using hg)
  · next n1 n2 =>
    refine guard_free ?_
    cases x <;> simp [eqShape] at hsx <;> cases y <;> simp [eqShape] at hsy <;> simp only [sameShape] at h1 h2
    all_goals first
      | (exact (n1 rfl rfl).elim)
      | (exact (n2 _ _ rfl rfl).elim)
      | (exact absurd rfl n1)
      | (exact absurd rfl (n2 _ _ rfl))
      | (subst h1; cases Y <;> first | rfl | (exact absurd rfl h2.1) | (obtain ⟨_, e⟩ := h2; cases e))
      | (obtain ⟨_, rfl⟩ := h1; cases Y <;> first | rfl | (exact absurd rfl (h2.2 _)) | cases h2)
      | (cases X <;> first | rfl | (exact absurd rfl h1.1) | (exact absurd rfl (h1.2 _)))
theorem eqGuard_int {op : BinOp} {t : TypeId} {a b : Operand} {k k' : IntKind} {m c : Int} (w : World) : (eqGuard op t a b (.int k m) (.int k' c)).run P w = .ok () w := by unfold eqGuard; split <;> rfl
theorem tokL_ok {op : BinOp} {t : TypeId} {a b : Operand} {n : Nat} {c : Int} {v X Y : Value} (h : (tokCmp op n c).map Value.bool = some v) (hx : conc φ (.float .f64 n) = some X) (hy : conc φ (.int .i64 c) = some Y) :
    ∃ V, conc φ v = some V ∧ RunsTo P (do eqGuard op t a b X Y; Go.binOp op t X Y) V := by
  cases hc : tokCmp op n c with
  | none => rw [hc] at h; cases h
  | some r =>
    rw [hc] at h; cases h
    simp only [conc, Option.some.injEq] at hy; subst hy
    obtain ⟨m, rfl, e⟩ := tokCmp_ok hc (conc_tok hx) t
    exact ⟨.bool r, rfl, fun w => by rw [bind_ok (eqGuard_int w), e]; rfl⟩
theorem tokR_ok {op : BinOp} {t : TypeId} {a b : Operand} {n : Nat} {c : Int} {v X Y : Value} (h : (tokCmp (flipOp op) n c).map Value.bool = some v) (hx : conc φ (.int .i64 c) = some X) (hy : conc φ (.float .f64 n) = some Y) :
    ∃ V, conc φ v = some V ∧ RunsTo P (do eqGuard op t a b X Y; Go.binOp op t X Y) V := by
  cases hc : tokCmp (flipOp op) n c with
  | none => rw [hc] at h; cases h
  | some r =>
    rw [hc] at h; cases h
    simp only [conc, Option.some.injEq] at hx; subst hx
    obtain ⟨m, rfl, e⟩ := tokFlip_ok hc (conc_tok hy) t
    exact ⟨.bool r, rfl, fun w => by rw [bind_ok (eqGuard_int w), e]; rfl⟩
theorem conc_of_tok {n : Nat} {k : IntKind} {m : Int} (h : tok φ.env n = some (.int k m)) : conc φ (.float .f64 n) = some (.int k m) := by
  simp only [conc, h]; rfl
theorem tokA_ok {t : TypeId} {a b : Operand} {n m : Nat} {X Y : Value} (h1 : n % 8 = 2) (h2 : m % 8 = 2) (h3 : m / 8 < 4294967296) (hx : tok φ.env n = some X) (hy : tok φ.env m = some Y) :
    ∃ V, conc φ (.float .f64 (tokSum n m)) = some V ∧ RunsTo P (do eqGuard .add t a b X Y; Go.binOp .add t X Y) V := by
  obtain ⟨c, d, rfl, rfl, e⟩ := tok_sum h1 h2 h3 hx hy
  exact ⟨_, conc_of_tok e, fun w => by rw [bind_ok (eqGuard_int w), cmp_add]; rfl⟩
theorem tokT_ok {op : BinOp} {t : TypeId} {a b : Operand} {n m : Nat} {v X Y : Value} (h : tokTok op n m = some v) (hx : conc φ (.float .f64 n) = some X) (hy : conc φ (.float .f64 m) = some Y) :
    ∃ V, conc φ v = some V ∧ RunsTo P (do eqGuard op t a b X Y; Go.binOp op t X Y) V := by
  have hx := conc_tok hx
  have hy := conc_tok hy
  unfold tokTok at h
  split at h
  · split at h
    · next hc =>
      rw [← Option.some.inj h]
      exact tokA_ok hc.1 hc.2.1 hc.2.2 hx hy
    · cases h
  · split at h
    · next hc =>
      cases h
      obtain ⟨rfl, hk⟩ := hc
      obtain ⟨k, hk⟩ := Option.isSome_iff_exists.1 hk
      obtain ⟨c, rfl⟩ := tok_int hk hx
      rw [hx] at hy; cases hy
      exact ⟨.bool true, rfl, fun w => by rw [bind_ok (eqGuard_int w), cmp_eql, decide_eq_true rfl]; rfl⟩
    · cases h
  · split at h
    · next hc =>
      cases h
      obtain ⟨rfl, hk⟩ := hc
      obtain ⟨k, hk⟩ := Option.isSome_iff_exists.1 hk
      obtain ⟨c, rfl⟩ := tok_int hk hx
      rw [hx] at hy; cases hy
      exact ⟨.bool false, rfl, fun w => by rw [bind_ok (eqGuard_int w), cmp_neq, decide_eq_true rfl]; rfl⟩
    · cases h
  · cases h
theorem eqGuard_str {op : BinOp} {t : TypeId} {a b : Operand} {m c : ByteArray} (w : World) : (eqGuard op t a b (.string m) (.string c)).run P w = .ok () w := by unfold eqGuard; split <;> rfl
theorem tok_seven {env : Nat → Option Value} {n : Nat} {X : Value} (h : n % 8 = 7) (hx : tok env n = some X) : ∃ s b, strOk (n / 8) s ∧ s[0]? = some b ∧ X = .int .u8 b.toNat := by
  unfold tok at hx
  rw [if_neg (by omega), if_neg (by omega), if_neg (by omega), if_neg (by omega), if_neg (by omega), if_neg (by omega), if_neg (by omega)] at hx
  cases hi : strAt env (n / 8) with
  | none => rw [hi] at hx; cases hx
  | some s =>
    rw [hi] at hx
    have hx : (s[0]?).map (fun b => Value.int .u8 b.toNat) = some X := hx
    cases hb : s[0]? with
    | none => rw [hb] at hx; cases hx
    | some b => rw [hb] at hx; cases hx; exact ⟨s, b, strAt_ok hi, hb, rfl⟩
theorem tokB_ok {op : BinOp} {t : TypeId} {a b : Operand} {n : Nat} {c : Int} {v X Y : Value} (h : tokByte op n c = some v) (hx : conc φ (.float .f64 n) = some X) (hy : conc φ (.int .u8 c) = some Y) :
    ∃ V, conc φ v = some V ∧ RunsTo P (do eqGuard op t a b X Y; Go.binOp op t X Y) V := by
  simp only [conc, Option.some.injEq] at hy; subst hy
  unfold tokByte at h
  split at h
  · next hc =>
    obtain ⟨h1, h2, h3⟩ := hc
    obtain ⟨s, d, ⟨_, _, _, hn⟩, hb, rfl⟩ := tok_seven h1 (conc_tok hx)
    have hne := hn h2 d hb
    have hd : ¬ ((d.toNat : Nat) : Int) = c := by rw [h3]; exact fun e => hne (Int.ofNat.inj e)
    split at h
    · cases h
      exact ⟨.bool false, rfl, fun w => by rw [bind_ok (eqGuard_int w), cmp_eql, decide_eq_false hd]; rfl⟩
    · cases h
      exact ⟨.bool true, rfl, fun w => by rw [bind_ok (eqGuard_int w), cmp_neq, decide_eq_false hd]; rfl⟩
    · cases h
  · cases h
theorem str_eql (t : TypeId) (a b : ByteArray) : Go.binOp .eql t (.string a) (.string b) = .pure (.bool (a.toList == b.toList)) := by simp [Go.binOp, Op.stringOp]; rfl
theorem str_neq (t : TypeId) (a b : ByteArray) : Go.binOp .neq t (.string a) (.string b) = .pure (.bool (!(a.toList == b.toList))) := by simp [Go.binOp, Op.stringOp]; rfl
theorem tokS_ok {op : BinOp} {t : TypeId} {a b : Operand} {n : Nat} {c : ByteArray} {v X Y : Value} (h : tokStr op n c = some v) (hx : conc φ (.float .f64 n) = some X) (hy : conc φ (.string c) = some Y) :
    ∃ V, conc φ v = some V ∧ RunsTo P (do eqGuard op t a b X Y; Go.binOp op t X Y) V := by
  simp only [conc, Option.some.injEq] at hy; subst hy
  unfold tokStr at h
  split at h
  · next hc =>
    obtain ⟨s, ⟨hlo, _, _, _⟩, rfl, _⟩ := tok_str hc.1 (conc_tok hx)
    have hd1 : (s.toList == c.toList) = false := by
      cases hb : s.toList == c.toList with
      | false => rfl
      | true =>
        have e : s.toList = c.toList := eq_of_beq hb
        rw [ByteArray.toList_eq, ByteArray.toList_eq] at e
        have e2 : s.size = c.size := congrArg List.length e
        omega
    split at h
    · cases h
      exact ⟨.bool false, rfl, fun w => by rw [bind_ok (eqGuard_str w), str_eql, hd1]; rfl⟩
    · cases h
      exact ⟨.bool true, rfl, fun w => by rw [bind_ok (eqGuard_str w), str_neq, hd1]; rfl⟩
    · cases h
  · cases h
theorem binV_ok {op : BinOp} {t : TypeId} {a b : Operand} {x y v X Y : Value} (h : binV P op t (isC a || isC b) x y = some v) (hx : conc φ x = some X) (hy : conc φ y = some Y) :
    ∃ V, conc φ v = some V ∧ RunsTo P (do eqGuard op t a b X Y; Go.binOp op t X Y) V := by
  unfold binV at h
  split at h
  · next k m k' n =>
    simp [conc] at hx hy; subst hx hy
    obtain ⟨h1, h2⟩ := asPure_ok h
    refine ⟨v, conc_plainS h1, fun w => ?_⟩
    have hg : (eqGuard op t a b (.int k m) (.int k' n)).run P w = .ok () w := by unfold eqGuard; split <;> rfl
    rw [bind_ok hg, h2]; rfl
  · next m n =>
    simp [conc] at hx hy; subst hx hy
    obtain ⟨h1, h2⟩ := asPure_ok h
    refine ⟨v, conc_plainS h1, fun w => ?_⟩
    have hg : (eqGuard op t a b (.string m) (.string n)).run P w = .ok () w := by unfold eqGuard; split <;> rfl
    rw [bind_ok hg, h2]; rfl
  · exact tokL_ok h hx hy
  · exact tokR_ok h hx hy
  · exact tokT_ok h hx hy
  · exact tokB_ok h hx hy
  · exact tokS_ok h hx hy
  · split at h
    · next hs =>
      simp only [Bool.and_eq_true] at hs
      obtain ⟨⟨h1, h2⟩, h3⟩ := hs
      have hX := eqShape_conc h1 hx
      have hY := eqShape_conc h2 hy
      have hg := guard_run (op := op) h3 h1 h2 hx hy
      obtain ⟨e1, e2⟩ := binOp_eql (t := t) hX hY
      split at h
      · cases he : eqV P Op.maxDepth t x y with
        | none => rw [he] at h; cases h
        | some r =>
          rw [he] at h; cases h
          have := eqV_ok _ _ _ _ _ _ _ he hx hy
          refine ⟨.bool r, rfl, fun w => ?_⟩
          rw [bind_ok (hg w), e1]
          unfold Op.equal
          rw [bind_ok (this w)]; rfl
      · cases he : eqV P Op.maxDepth t x y with
        | none => rw [he] at h; cases h
        | some r =>
          rw [he] at h; cases h
          have := eqV_ok _ _ _ _ _ _ _ he hx hy
          refine ⟨.bool (!r), rfl, fun w => ?_⟩
          rw [bind_ok (hg w), e2]
          unfold Op.equal
          rw [bind_ok (this w)]; rfl
      · cases h
    · cases h
def unV (op : UnOp) (x : Value) : Option Value := if plainS x then asPure (Op.unary op x) else none
theorem unV_ok {op : UnOp} {x v X : Value} (h : unV op x = some v) (hx : conc φ x = some X) : ∃ V, conc φ v = some V ∧ RunsTo P (Op.unary op X) V := by
  unfold unV at h
  split at h
  · next hp =>
    rw [conc_plainS hp] at hx; cases hx
    obtain ⟨h1, h2⟩ := asPure_ok h
    exact ⟨v, conc_plainS h1, fun w => by rw [h2]; rfl⟩
  · cases h
def convP (P : Program) (src dst : TypeId) (x : Value) : Option Value :=
  match P.underlying src, P.underlying dst, x with
  | some _, some (.int k), .int k' n => asPure (Conv.intToInt k n)
  | some _, some .string, .string s => some (.string s)
  | some _, some (.int .i64), .float .f64 n => if n % 8 = 1 then some (.float .f64 (n + 1)) else none
  | _, _, _ => none
theorem convP_ok {src dst : TypeId} {x v X : Value} (h : convP P src dst x = some v) (hx : conc φ x = some X) : ∃ V, conc φ v = some V ∧ RunsTo P (Go.convert src dst X) V := by
  unfold convP at h
  split at h
  · next s k k' n h1 h2 =>
    simp [conc] at hx; subst hx
    obtain ⟨g1, g2⟩ := asPure_ok h
    refine ⟨v, conc_plainS g1, fun w => ?_⟩
    unfold Go.convert
    rw [bind_ok (underlying_run h1), bind_ok (underlying_run h2)]
    show (Conv.intToInt k n).run P w = _
    rw [g2]; rfl
  · next s k h1 h2 =>
    cases h
    simp [conc] at hx; subst hx
    refine ⟨_, rfl, fun w => ?_⟩
    unfold Go.convert
    rw [bind_ok (underlying_run h1), bind_ok (underlying_run h2)]
    rfl
  · next s n h1 h2 =>
    split at h
    · next hc =>
      cases h
      obtain ⟨m, rfl, e⟩ := tok_conv hc (conc_tok hx)
      refine ⟨_, by simp only [conc, e]; rfl, fun w => ?_⟩
      unfold Go.convert
      rw [bind_ok (underlying_run h1), bind_ok (underlying_run h2)]
      rfl
    · cases h
  · cases h
/-! addresses -/
theorem concA_add {a A : Addr} (hs : a.spot = none) (h : concA φ a = some A) (n : Nat) : concA φ (a.add n) = some (A.add n) ∧ (a.add n).spot = none := by
  obtain ⟨b, o, s⟩ := a
  simp at hs; subst hs
  rw [add_off]
  refine ⟨?_, rfl⟩
  unfold concA at *
  simp only at *
  cases hb : φ.at_ b with
  | none => rw [hb] at h; cases h
  | some B => rw [hb] at h; cases h; rw [add_off]; simp [Nat.add_assoc]
theorem conc_ptr_mk {a A : Addr} (hs : a.spot = none) (h : concA φ a = some A) : conc φ (.pointer (some a)) = some (.pointer (some A)) := by
  simp only [conc]; rw [if_neg (by simp [hs]), h]; rfl
def fieldAddrV (P : Program) (s : TypeId) (x : Value) (f : Nat) : Option Value :=
  match P.underlying s, x with
  | some (.struct fs), .pointer (some a) => match fs.toList[f]? with
    | some fd => match tSize P fd.type with
      | some (_ + 1) => some (.pointer (some (a.add fd.offset)))
      | _ => none
    | none => none
  | _, _ => none
theorem fieldAddrV_ok {s : TypeId} {x v X : Value} {f : Nat} (h : fieldAddrV P s x f = some v) (hx : conc φ x = some X) : ∃ V, conc φ v = some V ∧ RunsTo P (Instr.fieldAt s X f) V := by
  unfold fieldAddrV at h
  split at h
  · next fs a hu =>
    split at h
    · next fd hf =>
      split at h
      · next n hn =>
        cases h
        obtain ⟨hs, A, hA, rfl⟩ := conc_ptr hx
        obtain ⟨g1, g2⟩ := concA_add hs hA fd.offset
        refine ⟨_, conc_ptr_mk g2 g1, fun w => ?_⟩
        unfold Instr.fieldAt
        have hf' : fs[f]? = some fd := by simpa using hf
        rw [bind_ok (underlying_run hu)]
        simp only [hf']
        rw [bind_ok (show (Instr.sureAddr (.pointer (some A))).run P w = .ok A w from rfl)]
        have e : (fieldPlace A fd).run P w = .ok (A.add fd.offset) w := by
          unfold fieldPlace
          rw [bind_ok (sizeOf_run hn)]
          simp only [Nat.add_one_ne_zero, if_false]; rfl
        rw [bind_ok e]; rfl
      · cases h
    · cases h
  · cases h
def indexAddrV (P : Program) (t : TypeId) (x ix : Value) : Option Value :=
  match ix with
  | .int _ i => match P.underlying t, x with
    | some (.array n e), .pointer (some a) => match tSize P e with
      | some sz => if 0 ≤ i ∧ i < n then some (.pointer (some (a.add (i.toNat * sz)))) else none
      | none => none
    | some (.slice e), .slice (some a) n _ => match tSize P e with
      | some sz => if a.spot.isNone ∧ 0 ≤ i ∧ i < n then some (.pointer (some (a.add (i.toNat * sz)))) else none
      | none => none
    | _, _ => none
  | _ => none
theorem indexAddrV_ok {t : TypeId} {x ix v X I : Value} (h : indexAddrV P t x ix = some v) (hx : conc φ x = some X) (hi : conc φ ix = some I) : ∃ V, conc φ v = some V ∧ RunsTo P (Instr.indexAt t X I) V := by
  unfold indexAddrV at h
  split at h
  · next k i =>
    simp [conc] at hi; subst hi
    split at h
    · next n e a hu =>
      split at h
      · next sz hsz =>
        split at h
        · next hb =>
          cases h
          obtain ⟨hs, A, hA, rfl⟩ := conc_ptr hx
          obtain ⟨g1, g2⟩ := concA_add hs hA (i.toNat * sz)
          refine ⟨_, conc_ptr_mk g2 g1, fun w => ?_⟩
          unfold Instr.indexAt
          rw [bind_ok (show (asIntOf (.int k i)).run P w = .ok (k, i) w from rfl), bind_ok (underlying_run hu)]
          simp only []
          rw [bind_ok (show (Instr.sureAddr (.pointer (some A))).run P w = .ok A w from rfl), bind_ok (run_pure P _ w), bind_ok (underlying_run hu)]
          simp only [if_pos hb]
          rw [bind_ok (sizeOf_run hsz)]; rfl
        · cases h
      · cases h
    · next e a n c hu =>
      split at h
      · next sz hsz =>
        split at h
        · next hb =>
          cases h
          obtain ⟨hs, hb⟩ := hb
          obtain ⟨B, A, _, hA, rfl⟩ := conc_slice hx
          obtain ⟨g1, g2⟩ := concA_add (by simpa using hs) hA (i.toNat * sz)
          refine ⟨_, conc_ptr_mk g2 g1, fun w => ?_⟩
          unfold Instr.indexAt
          rw [bind_ok (show (asIntOf (.int k i)).run P w = .ok (k, i) w from rfl), bind_ok (underlying_run hu)]
          simp only []
          rw [bind_ok (run_pure P _ w), bind_ok (underlying_run hu)]
          simp only [if_pos hb]
          rw [bind_ok (sizeOf_run hsz)]; rfl
        · cases h
      · cases h
    · cases h
  · cases h
def indexV (P : Program) (t : TypeId) (x ix : Value) : Option Value :=
  match ix with
  | .int _ i => match P.underlying t, x with
    | some (.array n e), .agg ⟨cs⟩ => match tSize P e with
      | some sz => if 0 ≤ i ∧ i < n then partV P e cs (i.toNat * sz) else none
      | none => none
    | some .string, .string s => if 0 ≤ i then (match nthK s.data.toList i.toNat with | some b => some (.int .u8 b.toNat) | none => none) else none
    | some .string, .float .f64 n => if n % 8 = 5 ∧ i = 0 ∧ 1 ≤ strLo (n / 8) then (if 1 ≤ strB (n / 8) ∧ strB (n / 8) ≤ 256 then some (.int .u8 (strB (n / 8) - 1 : Nat)) else some (.float .f64 (n + 2))) else none
    | _, _ => none
  | _ => none
theorem indexV_ok {t : TypeId} {x ix v X I : Value} (h : indexV P t x ix = some v) (hx : conc φ x = some X) (hi : conc φ ix = some I) : ∃ V, conc φ v = some V ∧ RunsTo P (Instr.index t X I) V := by
  unfold indexV at h
  split at h
  · next k i =>
    simp [conc] at hi; subst hi
    split at h
    · next n e cs hu =>
      split at h
      · next sz hsz =>
        split at h
        · next hb =>
          obtain ⟨l, hl, rfl⟩ := conc_agg hx
          obtain ⟨V, g1, g2⟩ := partV_ok h hl
          refine ⟨V, g1, fun w => ?_⟩
          unfold Instr.index
          rw [bind_ok (show (asIntOf (.int k i)).run P w = .ok (k, i) w from rfl), bind_ok (underlying_run hu)]
          simp only [if_pos hb]
          rw [bind_ok (sizeOf_run hsz)]; exact g2 w
        · cases h
      · cases h
    · next s hu =>
      split at h
      · next hb =>
        simp [conc] at hx; subst hx
        rw [nthB] at h
        cases hs : s[i.toNat]? with
        | none => rw [hs] at h; cases h
        | some b =>
          rw [hs] at h; cases h
          refine ⟨_, rfl, fun w => ?_⟩
          unfold Instr.index
          rw [bind_ok (show (asIntOf (.int k i)).run P w = .ok (k, i) w from rfl), bind_ok (underlying_run hu)]
          simp only [if_pos hb, hs]; rfl
      · cases h
    · next n hu =>
      split at h
      · next hc =>
        obtain ⟨h1, rfl, h3⟩ := hc
        obtain ⟨s, ⟨hlo, _, hb1, _⟩, rfl, hat⟩ := tok_str h1 (conc_tok hx)
        have hlt : 0 < s.size := by omega
        obtain ⟨b, hb⟩ : ∃ b, s[0]? = some b := ⟨s[0], by simp [hlt]⟩
        have hrun : ∀ w, (Instr.index t (.string s) (.int k 0)).run P w = .ok (.int .u8 b.toNat) w := fun w => by
          unfold Instr.index
          rw [bind_ok (show (asIntOf (.int k 0)).run P w = .ok (k, 0) w from rfl), bind_ok (underlying_run hu)]
          have hb' : s[(0 : Int).toNat]? = some b := hb
          simp only [if_pos (show (0 : Int) ≤ 0 by omega), hb']; rfl
        split at h
        · next hr =>
          rw [← Option.some.inj h]
          exact ⟨.int .u8 b.toNat, by rw [← hb1 hr.1 hr.2 b hb]; rfl, hrun⟩
        · rw [← Option.some.inj h]
          exact ⟨.int .u8 b.toNat, conc_of_tok (tok_first h1 hat hb), hrun⟩
      · cases h
    · cases h
  · cases h
def extractV (x : Value) (i : Nat) : Option Value := match x with
  | .tuple ⟨l⟩ => nthK l i
  | _ => none
theorem extractV_ok {x v X : Value} {i : Nat} (h : extractV x i = some v) (hx : conc φ x = some X) : ∃ V, conc φ v = some V ∧ RunsTo P (Instr.extract X i) V := by
  unfold extractV at h
  split at h
  · rw [nthK_eq] at h
    obtain ⟨l, hl, rfl⟩ := conc_tuple hx
    obtain ⟨y, h1, h2⟩ := concL_get hl _ _ h
    refine ⟨y, h2, fun w => ?_⟩
    unfold Instr.extract
    simp only [List.getElem?_toArray, h1]; rfl
  · cases h
end
end Ev
end Go.Proofs.YtepdkcikkemieaaGreat
